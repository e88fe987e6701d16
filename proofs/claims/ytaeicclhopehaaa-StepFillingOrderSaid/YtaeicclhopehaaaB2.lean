/- Plain lemmas: words as digits. -/
import Derived.Test.YtaeicclhopehaaaB0
namespace Go.AE
set_option linter.unusedVariables false
set_option linter.unusedSimpArgs false

def digs : Nat → Int → List Int
  | 0, _ => []
  | n + 1, v => v % 4294967296 :: digs n (v / 4294967296)
theorem digs_length (n : Nat) (v : Int) : (digs n v).length = n := by
  induction n generalizing v with
  | zero => rfl
  | succ n ih => simp [digs, ih]
theorem okW_digs (n : Nat) (v : Int) : okW (digs n v) := by
  induction n generalizing v with
  | zero => intro x hx; cases hx
  | succ n ih =>
    intro x hx
    simp only [digs] at hx
    rcases List.mem_cons.1 hx with rfl | hx
    · omega
    · exact ih _ x hx
theorem wv_digs {n : Nat} {v : Int} (h0 : 0 ≤ v) (h : v < 4294967296 ^ n) : wv (digs n v) = v := by
  induction n generalizing v with
  | zero => simp at h; simp only [digs, wv]; omega
  | succ n ih =>
    rw [Int.pow_succ] at h
    simp only [digs, wv]
    rw [ih (by omega) (by omega)]
    omega
theorem okW_tail {x : Int} {l : List Int} (h : okW (x :: l)) : (0 ≤ x ∧ x < 4294967296) ∧ okW l := ⟨h x (by simp), fun y hy => h y (by simp [hy])⟩
theorem eq_digs {l : List Int} (h : okW l) : l = digs l.length (wv l) := by
  induction l with
  | nil => rfl
  | cons x r ih =>
    obtain ⟨h1, h2⟩ := okW_tail h
    simp only [List.length_cons, digs, wv]
    have := wv_nonneg h2
    rw [show (x + 4294967296 * wv r) % 4294967296 = x by omega, show (x + 4294967296 * wv r) / 4294967296 = wv r by omega, ← ih h2]
theorem eq_digs_of {l : List Int} {n : Nat} {v : Int} (h : okW l) (hn : l.length = n) (hv : wv l = v) : l = digs n v := by
  rw [← hn, ← hv]; exact eq_digs h
theorem canon_tail {x : Int} {l : List Int} (h : (x :: l).getLast? ≠ some 0) : l.getLast? ≠ some 0 := by
  cases l with
  | nil => simp
  | cons a b => simpa using h
theorem wv_inj {l m : List Int} (hl : okW l) (hm : okW m) (cl : l.getLast? ≠ some 0) (cm : m.getLast? ≠ some 0) (h : wv l = wv m) : l = m := by
  induction l generalizing m with
  | nil =>
    cases m with
    | nil => rfl
    | cons y s => have := wv_pos hm cm (by simp); simp only [wv] at h this; omega
  | cons x r ih =>
    cases m with
    | nil => have := wv_pos hl cl (by simp); simp only [wv] at h this; omega
    | cons y s =>
      obtain ⟨h1, h2⟩ := okW_tail hl
      obtain ⟨h3, h4⟩ := okW_tail hm
      have := wv_nonneg h2
      have := wv_nonneg h4
      simp only [wv] at h
      rw [show x = y by omega, ih h2 h4 (canon_tail cl) (canon_tail cm) (by omega)]
theorem trim_eq {l m : List Int} (hl : okW l) (hm : okW m) (h : wv l = wv m) : trimL l = trimL m :=
  wv_inj (okW_trimL hl) (okW_trimL hm) (trimL_canon l) (trimL_canon m) (by rw [wv_trimL, wv_trimL, h])
theorem trim_digs {l : List Int} {n : Nat} {v : Int} (hl : okW l) (h : wv l = v) (hv : v < 4294967296 ^ n) : trimL l = trimL (digs n v) :=
  trim_eq hl (okW_digs _ _) (by rw [wv_digs (h ▸ wv_nonneg hl) hv, h])
theorem wv_ge {l : List Int} (h : okW l) (hc : l.getLast? ≠ some 0) (hl : l ≠ []) : 4294967296 ^ (l.length - 1) ≤ wv l := by
  induction l with
  | nil => exact absurd rfl hl
  | cons x r ih =>
    obtain ⟨h1, h2⟩ := okW_tail h
    cases r with
    | nil => have := wv_pos h hc hl; simp; omega
    | cons a b =>
      have h3 := ih h2 (canon_tail hc) (by simp)
      simp only [List.length_cons, Nat.add_sub_cancel] at h3 ⊢
      rw [wv, Int.pow_succ]; omega
theorem pow_pos (n : Nat) : (0 : Int) < 4294967296 ^ n := Int.pow_pos (by decide)
theorem pow_mono {m n : Nat} (h : m ≤ n) : (4294967296 : Int) ^ m ≤ 4294967296 ^ n := by
  obtain ⟨k, rfl⟩ := Nat.exists_eq_add_of_le h
  clear h
  induction k with
  | zero => exact Int.le_refl _
  | succ k ih => have h := pow_pos (m + k); rw [← Nat.add_assoc, Int.pow_succ]; omega
theorem length_le_of_wv {l : List Int} {n : Nat} (h : okW l) (hc : l.getLast? ≠ some 0) (hv : wv l < 4294967296 ^ n) : l.length ≤ n := by
  by_cases hl : l = []
  · simp [hl]
  · have h1 := wv_ge h hc hl
    by_cases hn : l.length ≤ n
    · exact hn
    · have := pow_mono (show n ≤ l.length - 1 by omega)
      omega
theorem wv_lt_of_length {l m : List Int} (hl : okW l) (hm : okW m) (cm : m.getLast? ≠ some 0) (h : l.length < m.length) : wv l < wv m := by
  have h1 := wv_lt hl
  have h2 := wv_ge hm cm (by rintro rfl; simp at h)
  have := pow_mono (show l.length ≤ m.length - 1 by omega)
  omega
theorem wv_set {l : List Int} {j : Nat} (hj : j < l.length) (v : Int) : wv (l.set j v) = wv l + 4294967296 ^ j * (v - l.getD j 0) := by
  induction l generalizing j with
  | nil => simp at hj
  | cons x r ih =>
    cases j with
    | zero => simp [wv]; omega
    | succ j =>
      simp only [List.set_cons_succ, wv, List.getD_cons_succ, ih (by simpa using hj), Int.pow_succ]
      grind
theorem wv_take_succ {l : List Int} {i : Nat} (h : i < l.length) : wv (l.take (i + 1)) = wv (l.take i) + 4294967296 ^ i * l.getD i 0 := by
  induction l generalizing i with
  | nil => simp at h
  | cons x r ih =>
    cases i with
    | zero => simp [wv]
    | succ i =>
      simp only [List.take_succ_cons, wv, List.getD_cons_succ, ih (by simpa using h), Int.pow_succ]
      grind
theorem wv_drop {l : List Int} {i : Nat} (h : i < l.length) : wv (l.drop i) = l.getD i 0 + 4294967296 * wv (l.drop (i + 1)) := by
  induction l generalizing i with
  | nil => simp at h
  | cons x r ih =>
    cases i with
    | zero => simp [wv]
    | succ i => simp only [List.drop_succ_cons, List.getD_cons_succ]; exact ih (by simpa using h)
theorem drop_set_of_lt {l : List Int} {i j : Nat} (v : Int) (h : i < j) : (l.set i v).drop j = l.drop j := by
  rw [List.drop_set, if_pos h]
theorem okW_set {l : List Int} (h : okW l) (j : Nat) {v : Int} (h1 : 0 ≤ v) (h2 : v < 4294967296) : okW (l.set j v) := by
  intro x hx
  rcases List.mem_or_eq_of_mem_set hx with hx | rfl
  · exact h x hx
  · exact ⟨h1, h2⟩
theorem okW_take {l : List Int} (h : okW l) (j : Nat) : okW (l.take j) := fun x hx => h x (List.mem_of_mem_take hx)
theorem okW_drop {l : List Int} (h : okW l) (j : Nat) : okW (l.drop j) := fun x hx => h x (List.mem_of_mem_drop hx)
theorem okW_getD {l : List Int} (h : okW l) (j : Nat) : 0 ≤ l.getD j 0 ∧ l.getD j 0 < 4294967296 := by
  by_cases hj : j < l.length
  · rw [List.getD_eq_getElem?_getD, List.getElem?_eq_getElem hj]; exact h _ (List.getElem_mem _)
  · rw [List.getD_eq_getElem?_getD, List.getElem?_eq_none (by omega)]; simp
theorem okW_zeros (n : Nat) : okW (List.replicate n 0) := fun x hx => by rw [List.eq_of_mem_replicate hx]; omega
theorem wv_zeros (n : Nat) : wv (List.replicate n 0) = 0 := by
  induction n with
  | zero => rfl
  | succ n ih => simp [List.replicate_succ, wv, ih]
theorem getD_zeros (n i : Nat) : (List.replicate n (0 : Int)).getD i 0 = 0 := by
  simp [List.getD_eq_getElem?_getD, List.getElem?_replicate]
  split <;> rfl
theorem getD_set {l : List Int} {i j : Nat} (h : i < l.length) (v : Int) : (l.set i v).getD j 0 = if i = j then v else l.getD j 0 := by
  simp only [List.getD_eq_getElem?_getD, List.getElem?_set]
  split
  · rename_i e; subst e; simp [h]
  · rfl
theorem mul_bound {x y : Int} (h1 : 0 ≤ x) (h2 : x < 4294967296) (h3 : 0 ≤ y) (h4 : y < 4294967296) : 0 ≤ x * y ∧ x * y ≤ 18446744065119617025 := by
  refine ⟨Int.mul_nonneg h1 h3, ?_⟩
  have : x * y ≤ 4294967295 * 4294967295 := Int.mul_le_mul (by omega) (by omega) h3 (by omega)
  omega
theorem div_digit {r x n : Int} (h0 : 0 ≤ r) (h1 : r < n) (hx : 0 ≤ x) (hx2 : x < 4294967296) : 0 ≤ (r * 4294967296 + x) / n ∧ (r * 4294967296 + x) / n < 4294967296 ∧ 0 ≤ (r * 4294967296 + x) % n ∧ (r * 4294967296 + x) % n < n := by
  have hn : 0 < n := by omega
  exact ⟨Int.ediv_nonneg (by omega) (by omega), Int.ediv_lt_of_lt_mul hn (by omega), Int.emod_nonneg _ (by omega), Int.emod_lt_of_pos _ hn⟩
theorem tn_add (a b : Nat) : ((a : Int) + (b : Int)).toNat = a + b := by omega
theorem tn_add1 (a : Nat) : ((a : Int) + 1).toNat = a + 1 := by omega
theorem sh32 : (2 : Int) ^ min (Int.toNat 32) IntKind.u64.bits = 4294967296 := rfl
theorem fdiv32 (x : Int) : x.fdiv 4294967296 = x / 4294967296 := Int.fdiv_eq_ediv_of_nonneg _ (by decide)

def sgn (x : Int) : Int := if x = 0 then 0 else if x < 0 then -1 else 1
theorem made_z {neg : Bool} {ws : List Int} (h : okW ws) : zval (neg && decide (0 < (trimL ws).length)) (trimL ws) = zval neg ws ∧ canonZ (neg && decide (0 < (trimL ws).length)) (trimL ws) := by
  have h1 := wv_trimL ws
  by_cases hl : trimL ws = []
  · rw [hl] at h1 ⊢
    simp only [wv] at h1
    refine ⟨?_, by simp, by simp⟩
    cases neg <;> simp [zval, wv, ← h1]
  · have : 0 < (trimL ws).length := List.length_pos_iff.2 hl
    simp only [this, decide_true, Bool.and_true]
    exact ⟨by simp only [zval, h1], trimL_canon ws, fun _ => hl⟩
theorem compat_ok {ops : List Oper} {es : List Ef} (h : compat ops es = true) : compat ops es = true := h
theorem AVle_int {k : IntKind} {x y : Int} (e : x = y) : AVle (.v (.int k x)) (.v (.int k y)) := AVle_of_eq (by rw [e])
theorem AVle_bool {x y : Bool} (e : x = y) : AVle (vb x) (vb y) := AVle_of_eq (by rw [e])
theorem AVle_lst {k : K} {x y : List k.T} (e : x = y) : AVle (.lst k x) (.lst k y) := AVle_of_eq (by rw [e])
theorem sgn_zval {neg : Bool} {ws : List Int} (h : okW ws) : sgn (zval neg ws) = if trimL ws = [] then 0 else if neg = true then -1 else 1 := by
  have h0 := wv_nonneg h
  by_cases hl : trimL ws = []
  · rw [if_pos hl]
    have := (wv_trimL_zero h).1 hl
    simp [zval, this, sgn]
  · rw [if_neg hl]
    have : wv ws ≠ 0 := fun e => hl ((wv_trimL_zero h).2 e)
    cases neg <;> simp only [zval, sgn] <;> simp <;> omega
end Go.AE
