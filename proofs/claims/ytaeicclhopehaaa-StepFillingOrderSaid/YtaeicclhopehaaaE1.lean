/- Plain lemmas: digits in base 2^16. -/
import Derived.Test.YtaeicclhopehaaaE0
namespace Go.AE
set_option linter.unusedVariables false
set_option linter.unusedSimpArgs false

def hv : List Int → Int
  | [] => 0
  | a :: r => a + 65536 * hv r
def okH (l : List Int) : Prop := ∀ x ∈ l, 0 ≤ x ∧ x < 65536
def halvL : List Int → List Int
  | [] => []
  | w :: r => w % 65536 :: w / 65536 :: halvL r
def halK (ws : List Int) : List Int := trimL (halvL ws)
def pairL : List Int → List Int
  | [] => []
  | [a] => [a]
  | a :: b :: r => (a + b * 65536) :: pairL r
theorem hv_halvL {ws : List Int} (h : okW ws) : hv (halvL ws) = wv ws ∧ okH (halvL ws) ∧ (halvL ws).length = 2 * ws.length := by
  induction ws with
  | nil => exact ⟨rfl, fun x hx => (by cases hx), rfl⟩
  | cons w r ih =>
    obtain ⟨h1, h2, h3⟩ := ih (fun x hx => h x (List.mem_cons_of_mem _ hx))
    have hw := h w (by simp)
    refine ⟨?_, ?_, ?_⟩
    · simp only [halvL, hv, wv, h1]; omega
    · intro x hx
      simp only [halvL, List.mem_cons] at hx
      rcases hx with rfl | rfl | hx
      · omega
      · omega
      · exact h2 x hx
    · simp only [halvL, List.length_cons, h3]; omega
theorem halvL_take {ws : List Int} {i : Nat} (hi : i < ws.length) : halvL (ws.take (i + 1)) = halvL (ws.take i) ++ [ws.getD i 0 % 65536, ws.getD i 0 / 65536] := by
  induction ws generalizing i with
  | nil => simp at hi
  | cons w r ih =>
    cases i with
    | zero => simp [halvL]
    | succ i =>
      have := ih (i := i) (by simpa using hi)
      simp only [List.take_succ_cons, halvL, this, List.getD_cons_succ, List.cons_append]
theorem trimL_hv (l : List Int) : hv (trimL l) = hv l := by
  induction l with
  | nil => rfl
  | cons y r ih =>
    simp only [trimL]
    split
    · rename_i h
      obtain ⟨h1, h2⟩ := h
      rw [h1] at ih
      simp only [hv] at ih ⊢
      omega
    · simp only [hv, ih]
theorem okH_trimL {l : List Int} (h : okH l) : okH (trimL l) := by
  induction l with
  | nil => exact h
  | cons y r ih =>
    simp only [trimL]
    have hr : okH r := fun x hx => h x (List.mem_cons_of_mem _ hx)
    split
    · intro x hx; cases hx
    · intro x hx
      rcases List.mem_cons.1 hx with rfl | hx
      · exact h _ (by simp)
      · exact ih hr x hx
theorem pairL_length : ∀ l : List Int, (pairL l).length = (l.length + 1) / 2
  | [] => by simp [pairL]
  | [a] => by simp [pairL]
  | a :: b :: r => by simp only [pairL, List.length_cons, pairL_length r]; omega
theorem wv_pairL : ∀ l : List Int, wv (pairL l) = hv l
  | [] => rfl
  | [a] => by simp [pairL, wv, hv]
  | a :: b :: r => by simp only [pairL, wv, hv, wv_pairL r]; omega
theorem okW_pairL : ∀ {l : List Int}, okH l → okW (pairL l)
  | [], _ => fun x hx => (by cases hx)
  | [a], h => fun x hx => by
    have := h a (by simp)
    simp only [pairL, List.mem_singleton] at hx
    subst hx; omega
  | a :: b :: r, h => fun x hx => by
    have h1 := h a (by simp)
    have h2 := h b (by simp)
    simp only [pairL, List.mem_cons] at hx
    rcases hx with rfl | hx
    · omega
    · exact okW_pairL (l := r) (fun x hx => h x (by simp [hx])) x hx
theorem pairL_canon : ∀ {l : List Int}, okH l → l.getLast? ≠ some 0 → (pairL l).getLast? ≠ some 0
  | [], _, h => by simp [pairL]
  | [a], _, h => by simpa [pairL] using h
  | [a, b], hok, h => by
    have h1 := hok a (by simp)
    have h2 := hok b (by simp)
    simp [pairL] at h ⊢
    omega
  | a :: b :: c :: r, hok, h => by
    have := pairL_canon (l := c :: r) (fun x hx => hok x (by simp only [List.mem_cons] at hx ⊢; exact .inr (.inr hx))) (by simpa using h)
    rw [pairL]
    have hne : pairL (c :: r) ≠ [] := by
      intro e
      have := congrArg List.length e
      rw [pairL_length] at this
      simp at this
      omega
    obtain ⟨y, s, e⟩ := List.exists_cons_of_ne_nil hne
    rw [e] at this ⊢
    simpa using this
theorem pairL_take : ∀ {l : List Int} {i : Nat}, i % 2 = 0 → i < l.length → pairL (l.take (i + 2)) = pairL (l.take i) ++ [l.getD i 0 + l.getD (i + 1) 0 * 65536]
  | [], i, _, h => by simp at h
  | [a], i, h0, h => by
    have : i = 0 := by simp at h; exact h
    subst this
    simp [pairL]
  | a :: b :: r, 0, _, _ => by simp [pairL]
  | a :: b :: r, 1, h, _ => by simp at h
  | a :: b :: r, i + 2, h0, h => by
    have := pairL_take (l := r) (i := i) (by omega) (by simpa using h)
    simp only [List.take_succ_cons, pairL, this, List.getD_cons_succ, List.cons_append]
theorem pairL_nil {l : List Int} : pairL l = [] ↔ l = [] := by
  constructor
  · intro e
    have := congrArg List.length e
    rw [pairL_length] at this
    exact List.eq_nil_of_length_eq_zero (by simp at this; omega)
  · rintro rfl; rfl
/-- Digits, trimmed and paired: the number in its least form. -/
theorem of_z {neg : Bool} {h : List Int} (hok : okH h) :
    zval (if neg = true then decide (0 < ((pairL (trimL h)).length : Int)) else false) (pairL (trimL h)) = (if neg = true then - hv h else hv h) ∧
    canonZ (if neg = true then decide (0 < ((pairL (trimL h)).length : Int)) else false) (pairL (trimL h)) := by
  have h1 : wv (pairL (trimL h)) = hv h := by rw [wv_pairL, trimL_hv]
  have h2 := pairL_canon (okH_trimL hok) (trimL_canon h)
  cases neg
  · simp only [Bool.false_eq_true, ↓reduceIte]
    exact ⟨h1, h2, fun h => by cases h⟩
  · simp only [↓reduceIte]
    by_cases hp : 0 < ((pairL (trimL h)).length : Int)
    · rw [decide_eq_true hp]
      exact ⟨by simp only [zval, ↓reduceIte, h1], h2, fun _ e => by rw [e] at hp; simp at hp⟩
    · rw [decide_eq_false hp]
      have e : pairL (trimL h) = [] := List.eq_nil_of_length_eq_zero (by omega)
      rw [e] at h1
      simp only [wv] at h1
      refine ⟨?_, h2, fun h => by cases h⟩
      simp only [zval, Bool.false_eq_true, ↓reduceIte, e, wv]
      omega
end Go.AE
