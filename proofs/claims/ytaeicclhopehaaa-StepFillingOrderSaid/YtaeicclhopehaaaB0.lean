/- Plain lemmas for the walks: machine numbers, words, and how a value opens. -/
import Derived.Test.YtaeicclhopehaaaAeG
namespace Go.AE
open Go.RowKit
set_option linter.unusedVariables false
set_option linter.unusedSimpArgs false

theorem wrap64 {x : Int} (h1 : -9223372036854775808 ≤ x) (h2 : x < 9223372036854775808) : IntKind.i64.wrap x = x := by
  have e : IntKind.i64.wrap x = if 9223372036854775808 ≤ x % 18446744073709551616 then x % 18446744073709551616 - 18446744073709551616 else x % 18446744073709551616 := by
    simp [IntKind.wrap, IntKind.bits, IntKind.signed]
  rw [e]; split <;> omega
theorem wrapu64m {x : Int} : IntKind.u64.wrap x = x % 18446744073709551616 := by
  simp [IntKind.wrap, IntKind.bits, IntKind.signed]
theorem wrapu64 {x : Int} (h1 : 0 ≤ x) (h2 : x < 18446744073709551616) : IntKind.u64.wrap x = x := by
  rw [wrapu64m]; omega
theorem wrapu32m {x : Int} : IntKind.u32.wrap x = x % 4294967296 := by
  simp [IntKind.wrap, IntKind.bits, IntKind.signed]
theorem wrapu32 {x : Int} (h1 : 0 ≤ x) (h2 : x < 4294967296) : IntKind.u32.wrap x = x := by
  rw [wrapu32m]; omega

/-! ### Words -/
def trimL : List Int → List Int
  | [] => []
  | x :: r => if trimL r = [] ∧ x = 0 then [] else x :: trimL r
theorem trimL_snoc (l : List Int) (x : Int) : trimL (l ++ [x]) = if x = 0 then trimL l else l ++ [x] := by
  induction l with
  | nil => simp [trimL]
  | cons y r ih =>
    simp only [List.cons_append, trimL, ih]
    by_cases h : x = 0
    · simp only [if_pos h]
    · simp [h]
theorem trimL_canon (l : List Int) : (trimL l).getLast? ≠ some 0 := by
  induction l with
  | nil => simp [trimL]
  | cons y r ih =>
    simp only [trimL]
    split
    · simp
    · rename_i h
      cases hr : trimL r with
      | nil => rw [hr] at h; simp at h ⊢; exact h
      | cons a b => rw [hr] at ih; simpa using ih
theorem wv_trimL (l : List Int) : wv (trimL l) = wv l := by
  induction l with
  | nil => rfl
  | cons y r ih =>
    simp only [trimL]
    split
    · rename_i h; rw [h.1] at ih; simp only [wv] at ih ⊢; omega
    · simp only [wv, ih]
theorem trimL_length (l : List Int) : (trimL l).length ≤ l.length := by
  induction l with
  | nil => simp [trimL]
  | cons y r ih => simp only [trimL]; split <;> simp; omega
def okW (l : List Int) : Prop := ∀ x ∈ l, 0 ≤ x ∧ x < 4294967296
theorem okW_trimL {l : List Int} (h : okW l) : okW (trimL l) := by
  induction l with
  | nil => exact h
  | cons y r ih =>
    simp only [trimL]
    have hr : okW r := fun x hx => h x (List.mem_cons_of_mem _ hx)
    split
    · intro x hx; cases hx
    · intro x hx
      rcases List.mem_cons.1 hx with rfl | hx
      · exact h _ (by simp)
      · exact ih hr x hx
theorem trimL_of_canon {l : List Int} (h : l.getLast? ≠ some 0) : trimL l = l := by
  induction l with
  | nil => rfl
  | cons y r ih =>
    cases r with
    | nil => simp at h; simp [trimL, h]
    | cons a b =>
      have := ih (by simpa using h)
      rw [trimL, if_neg (by rw [this]; simp), this]
theorem wv_nonneg {l : List Int} (h : okW l) : 0 ≤ wv l := by
  induction l with
  | nil => simp [wv]
  | cons y r ih =>
    have := ih (fun x hx => h x (List.mem_cons_of_mem _ hx))
    have := h y (by simp)
    simp only [wv]; omega
theorem wv_pos {l : List Int} (h : okW l) (hc : l.getLast? ≠ some 0) (hl : l ≠ []) : 0 < wv l := by
  induction l with
  | nil => exact absurd rfl hl
  | cons y r ih =>
    have hr : okW r := fun x hx => h x (List.mem_cons_of_mem _ hx)
    have hy := h y (by simp)
    have := wv_nonneg hr
    simp only [wv]
    cases r with
    | nil => simp at hc; simp only [wv]; omega
    | cons a b => have := ih hr (by simpa using hc) (by simp); omega
theorem wv_trimL_zero {l : List Int} (h : okW l) : trimL l = [] ↔ wv l = 0 := by
  constructor
  · intro e; rw [← wv_trimL, e]; rfl
  · intro e
    by_cases hl : trimL l = []
    · exact hl
    · have := wv_pos (okW_trimL h) (trimL_canon l) hl
      rw [wv_trimL] at this; omega
theorem wv_append (a b : List Int) : wv (a ++ b) = wv a + 4294967296 ^ a.length * wv b := by
  induction a with
  | nil => simp [wv]
  | cons x r ih => simp only [List.cons_append, wv, ih, List.length_cons, Int.pow_succ]; grind
theorem wv_lt {l : List Int} (h : okW l) : wv l < 4294967296 ^ l.length := by
  induction l with
  | nil => simp [wv]
  | cons x r ih =>
    have := ih (fun x hx => h x (List.mem_cons_of_mem _ hx))
    have hx := h x (by simp)
    simp only [wv, List.length_cons, Int.pow_succ]; omega
theorem okW_append {a b : List Int} (ha : okW a) (hb : okW b) : okW (a ++ b) := fun x hx => (List.mem_append.1 hx).elim (ha x) (hb x)

/-! ### How a value opens -/
theorem okW_of_RL {F : Fz} {ws : List Int} {v : Value} (h : RL F 1 Ru32 ws v) : okW ws := by
  obtain ⟨A, c, rfl, h1, h2⟩ := h
  intro x hx
  have hne : ws ≠ [] := by rintro rfl; cases hx
  obtain ⟨b, off, C, T, fr, h3, h4, h5⟩ := h2 hne
  obtain ⟨i, hi, rfl⟩ := List.mem_iff_getElem.1 hx
  obtain ⟨cs, h6, ⟨h7, h8⟩, h9⟩ := h5 i hi
  exact h8
theorem open_z {F : Fz} {x : Int} {c : Bool} {s : Nat} {v : Value} (h : RVp F (.z x c s) v) : ∃ neg ws, RVp F (.pair (vb neg) (.lst .u32 ws)) v ∧ okW ws ∧ ws.length ≤ s ∧ x = zval neg ws ∧ (c = true → canonZ neg ws) := by
  obtain ⟨cs, ⟨neg, sv, ws, rfl, h2, h3, h4, h5⟩, rfl⟩ := (show ∃ cs, RC F (.z x c s) cs ∧ v = .agg cs.toArray from h)
  exact ⟨neg, ws, (show ∃ cs, RC F _ cs ∧ _ = Value.agg cs.toArray from ⟨_, ⟨[_], [_], rfl, ⟨rfl, rfl⟩, sv, rfl, h2⟩, rfl⟩), okW_of_RL h2, h3, h4, h5⟩
theorem open_q {F : Fz} {x : Rat} {c : Bool} {s : Nat} {v : Value} (h : RVp F (.q x c s) v) : ∃ n d cn cd, RVp F (.pair (.z n cn s) (.z d cd s)) v ∧ x = qval n d ∧ (c = true → cn = true ∧ cd = true ∧ canonQ n d) := by
  obtain ⟨cs, ⟨n, d, c1, c2, cn, cd, rfl, h2, h3, h4, h5⟩, rfl⟩ := (show ∃ cs, RC F (.q x c s) cs ∧ v = .agg cs.toArray from h)
  exact ⟨n, d, cn, cd, (show ∃ cs, RC F _ cs ∧ _ = Value.agg cs.toArray from ⟨_, ⟨c1, c2, rfl, h2, h3⟩, rfl⟩), h4, h5⟩
theorem okW_lst {F : Fz} {ws : List Int} {v : Value} (h : RVp F (.lst .u32 ws) v) : okW ws := by
  obtain ⟨u, e, h2⟩ := (show ∃ u, [v] = [u] ∧ RL F 1 Ru32 ws u from h)
  cases e
  exact okW_of_RL h2
theorem okW_pair {F : Fz} {neg : Bool} {ws : List Int} {v : Value} (h : RVp F (.pair (vb neg) (.lst .u32 ws)) v) : okW ws := by
  obtain ⟨cs, ⟨c1, c2, rfl, ⟨_, rfl⟩, u, rfl, h2⟩, rfl⟩ := (show ∃ cs, RC F _ cs ∧ v = Value.agg cs.toArray from h)
  exact okW_of_RL h2
theorem AVle_z {neg : Bool} {ws : List Int} {x : Int} {c : Bool} {s : Nat} (h1 : ws.length ≤ s) (h2 : x = zval neg ws) (h3 : c = true → canonZ neg ws) : AVle (.pair (vb neg) (.lst .u32 ws)) (.z x c s) := by
  intro F v h
  obtain ⟨cs, ⟨c1, c2, rfl, ⟨_, rfl⟩, u, rfl, h4⟩, rfl⟩ := (show ∃ cs, RC F _ cs ∧ v = Value.agg cs.toArray from h)
  exact (show ∃ cs, RC F (.z x c s) cs ∧ _ = Value.agg cs.toArray from ⟨_, ⟨neg, u, ws, rfl, h4, h1, h2, h3⟩, rfl⟩)
theorem RZ_le {F : Fz} {x : Int} {c d : Bool} {s t : Nat} {cs : List Value} (hs : s ≤ t) (hc : d = true → c = true) (h : RZ F x c s cs) : RZ F x d t cs := by
  obtain ⟨neg, sv, ws, a1, a2, a3, a4, a5⟩ := h
  exact ⟨neg, sv, ws, a1, a2, by omega, a4, fun h => a5 (hc h)⟩
theorem AVle_zz {x y : Int} {c d : Bool} {s t : Nat} (e : x = y) (hs : s ≤ t) (hc : d = true → c = true) : AVle (.z x c s) (.z y d t) := by
  subst e
  intro F v h
  obtain ⟨cs, h2, rfl⟩ := (show ∃ cs, RC F (.z x c s) cs ∧ v = .agg cs.toArray from h)
  exact (show ∃ cs, RC F (.z x d t) cs ∧ _ = Value.agg cs.toArray from ⟨_, RZ_le hs hc h2, rfl⟩)
theorem AVle_q {n d : Int} {x : Rat} {c cn cd : Bool} {s s1 s2 : Nat} (h1 : s1 ≤ s) (h2 : s2 ≤ s) (h3 : x = qval n d) (h4 : c = true → cn = true ∧ cd = true ∧ canonQ n d) : AVle (.pair (.z n cn s1) (.z d cd s2)) (.q x c s) := by
  intro F v h
  obtain ⟨cs, ⟨c1, c2, rfl, h5, h6⟩, rfl⟩ := (show ∃ cs, RC F _ cs ∧ v = Value.agg cs.toArray from h)
  exact (show ∃ cs, RC F (.q x c s) cs ∧ _ = Value.agg cs.toArray from ⟨_, ⟨n, d, c1, c2, cn, cd, rfl, RZ_le h1 (fun h => h) h5, RZ_le h2 (fun h => h) h6, h3, h4⟩, rfl⟩)
theorem AVle_qq {x y : Rat} {c d : Bool} {s t : Nat} (e : x = y) (hs : s ≤ t) (hc : d = true → c = true) : AVle (.q x c s) (.q y d t) := by
  subst e
  intro F v h
  obtain ⟨cs, ⟨n, dd, c1, c2, cn, cd, rfl, h5, h6, h7, h8⟩, rfl⟩ := (show ∃ cs, RC F (.q x c s) cs ∧ v = Value.agg cs.toArray from h)
  exact (show ∃ cs, RC F (.q x d t) cs ∧ _ = Value.agg cs.toArray from ⟨_, ⟨n, dd, c1, c2, cn, cd, rfl, RZ_le hs (fun h => h) h5, RZ_le hs (fun h => h) h6, h7, fun h => h8 (hc h)⟩, rfl⟩)
theorem RC_qle {x y : Rat} {c d : Bool} {s t : Nat} (e : x = y) (hc : d = true → c = true) (hs : s ≤ t) : ∀ F cs, RC F (.q x c s) cs → RC F (.q y d t) cs := by
  subst e
  rintro F cs ⟨n, dd, c1, c2, cn, cd, rfl, h5, h6, h7, h8⟩
  exact ⟨n, dd, c1, c2, cn, cd, rfl, RZ_le hs (fun h => h) h5, RZ_le hs (fun h => h) h6, h7, fun h => h8 (hc h)⟩
theorem AV.le_nil {n : Nat} {k : K} : AV.le n (.v (.slice none 0 0)) (.lst k []) := by
  intro F G v hv
  obtain ⟨_, e⟩ := (show plainV (.slice none 0 0) = true ∧ [v] = [.slice none 0 0] from hv)
  cases e
  exact (show ∃ u, [_] = [u] ∧ RL F k.es (RK F k) [] u from ⟨_, rfl, none, 0, rfl, by simp, fun h => absurd rfl h⟩)
theorem RVs_cons {F : Fz} {a : AV} {r : List AV} {vs : List Value} : RVs F (a :: r) vs ↔ ∃ v rs, vs = v :: rs ∧ RVp F a v ∧ RVs F r rs := Iff.rfl
theorem RVs_nil {F : Fz} {vs : List Value} : RVs F [] vs ↔ vs = [] := Iff.rfl
end Go.AE
