/- Plain lemmas for the walks: machine numbers, words, and how a value opens. What is known of the program's types, and that it is so. Plain lemmas: words as digits. Plain lemmas: rationals. Contracts: package whole, the functions of words. -/
import Derived.Test.YtaeicclhopehaaaGreatGb
import Derived.Test.YtaeicclhopehaaaGreatProg
import Derived.KernelRfl
import Derived.Laws.StructEq
namespace Go.AE
open Go.RowKit
set_option linter.unusedVariables false
set_option linter.unusedSimpArgs false

theorem wrap64 {x : Int} (h1 : -9223372036854775808 ≤ x) (h2 : x < 9223372036854775808) : IntKind.i64.wrap x = x := by
  have e : IntKind.i64.wrap x = if 9223372036854775808 ≤ x % 18446744073709551616 then x % 18446744073709551616 - 18446744073709551616 else x % 18446744073709551616 := by
    simp [IntKind.wrap, IntKind.bits, IntKind.signed]
  rw [e]; split <;> omega
theorem wrapu64m {x : Int} : IntKind.u64.wrap x = x % 18446744073709551616 := by
  simp [IntKind.wrap, IntKind.bits, IntKind.signed]
theorem wrapu64 {x : Int} (h1 : 0 ≤ x) (h2 : x < 18446744073709551616) : IntKind.u64.wrap x = x := by
  rw [wrapu64m]; omega
theorem wrapu32m {x : Int} : IntKind.u32.wrap x = x % 4294967296 := by
  simp [IntKind.wrap, IntKind.bits, IntKind.signed]
theorem wrapu32 {x : Int} (h1 : 0 ≤ x) (h2 : x < 4294967296) : IntKind.u32.wrap x = x := by
  rw [wrapu32m]; omega

/-! ### Words -/
def trimL : List Int → List Int
  | [] => []
  | x :: r => if trimL r = [] ∧ x = 0 then [] else x :: trimL r
theorem trimL_snoc (l : List Int) (x : Int) : trimL (l ++ [x]) = if x = 0 then trimL l else l ++ [x] := by
  induction l with
  | nil => simp [trimL]
  | cons y r ih =>
    simp only [List.cons_append, trimL, ih]
    by_cases h : x = 0
    · simp only [if_pos h]
    · simp [h]
theorem trimL_canon (l : List Int) : (trimL l).getLast? ≠ some 0 := by
  induction l with
  | nil => simp [trimL]
  | cons y r ih =>
    simp only [trimL]
    split
    · simp
    · rename_i h
      cases hr : trimL r with
      | nil => rw [hr] at h; simp at h ⊢; exact h
      | cons a b => rw [hr] at ih; simpa using ih
theorem wv_trimL (l : List Int) : wv (trimL l) = wv l := by
  induction l with
  | nil => rfl
  | cons y r ih =>
    simp only [trimL]
    split
    · rename_i h; rw [h.1] at ih; simp only [wv] at ih ⊢; omega
    · simp only [wv, ih]
theorem trimL_length (l : List Int) : (trimL l).length ≤ l.length := by
  induction l with
  | nil => simp [trimL]
  | cons y r ih => simp only [trimL]; split <;> simp; omega
def okW (l : List Int) : Prop := ∀ x ∈ l, 0 ≤ x ∧ x < 4294967296
theorem okW_trimL {l : List Int} (h : okW l) : okW (trimL l) := by
  induction l with
  | nil => exact h
  | cons y r ih =>
    simp only [trimL]
    have hr : okW r := fun x hx => h x (List.mem_cons_of_mem _ hx)
    split
    · intro x hx; cases hx
    · intro x hx
      rcases List.mem_cons.1 hx with rfl | hx
      · exact h _ (by simp)
      · exact ih hr x hx
theorem trimL_of_canon {l : List Int} (h : l.getLast? ≠ some 0) : trimL l = l := by
  induction l with
  | nil => rfl
  | cons y r ih =>
    cases r with
    | nil => simp at h; simp [trimL, h]
    | cons a b =>
      have := ih (by simpa using h)
      rw [trimL, if_neg (by rw [this]; simp), this]
theorem wv_nonneg {l : List Int} (h : okW l) : 0 ≤ wv l := by
  induction l with
  | nil => simp [wv]
  | cons y r ih =>
    have := ih (fun x hx => h x (List.mem_cons_of_mem _ hx))
    have := h y (by simp)
    simp only [wv]; omega
theorem wv_pos {l : List Int} (h : okW l) (hc : l.getLast? ≠ some 0) (hl : l ≠ []) : 0 < wv l := by
  induction l with
  | nil => exact absurd rfl hl
  | cons y r ih =>
    have hr : okW r := fun x hx => h x (List.mem_cons_of_mem _ hx)
    have hy := h y (by simp)
    have := wv_nonneg hr
    simp only [wv]
    cases r with
    | nil => simp at hc; simp only [wv]; omega
    | cons a b => have := ih hr (by simpa using hc) (by simp); omega
theorem wv_trimL_zero {l : List Int} (h : okW l) : trimL l = [] ↔ wv l = 0 := by
  constructor
  · intro e; rw [← wv_trimL, e]; rfl
  · intro e
    by_cases hl : trimL l = []
    · exact hl
    · have := wv_pos (okW_trimL h) (trimL_canon l) hl
      rw [wv_trimL] at this; omega
theorem wv_append (a b : List Int) : wv (a ++ b) = wv a + 4294967296 ^ a.length * wv b := by
  induction a with
  | nil => simp [wv]
  | cons x r ih => simp only [List.cons_append, wv, ih, List.length_cons, Int.pow_succ]; grind
theorem wv_lt {l : List Int} (h : okW l) : wv l < 4294967296 ^ l.length := by
  induction l with
  | nil => simp [wv]
  | cons x r ih =>
    have := ih (fun x hx => h x (List.mem_cons_of_mem _ hx))
    have hx := h x (by simp)
    simp only [wv, List.length_cons, Int.pow_succ]; omega
theorem okW_append {a b : List Int} (ha : okW a) (hb : okW b) : okW (a ++ b) := fun x hx => (List.mem_append.1 hx).elim (ha x) (hb x)

/-! ### How a value opens -/
theorem okW_of_RL {F : Fz} {ws : List Int} {v : Value} (h : RL F 1 Ru32 ws v) : okW ws := by
  obtain ⟨A, c, rfl, h1, h2⟩ := h
  intro x hx
  have hne : ws ≠ [] := by rintro rfl; cases hx
  obtain ⟨b, off, C, T, fr, h3, h4, h5⟩ := h2 hne
  obtain ⟨i, hi, rfl⟩ := List.mem_iff_getElem.1 hx
  obtain ⟨cs, h6, ⟨h7, h8⟩, h9⟩ := h5 i hi
  exact h8
theorem open_z {F : Fz} {x : Int} {c : Bool} {s : Nat} {v : Value} (h : RVp F (.z x c s) v) : ∃ neg ws, RVp F (.pair (vb neg) (.lst .u32 ws)) v ∧ okW ws ∧ ws.length ≤ s ∧ x = zval neg ws ∧ (c = true → canonZ neg ws) := by
  obtain ⟨cs, ⟨neg, sv, ws, rfl, h2, h3, h4, h5⟩, rfl⟩ := (show ∃ cs, RC F (.z x c s) cs ∧ v = .agg cs.toArray from h)
  exact ⟨neg, ws, (show ∃ cs, RC F _ cs ∧ _ = Value.agg cs.toArray from ⟨_, ⟨[_], [_], rfl, ⟨rfl, rfl⟩, sv, rfl, h2⟩, rfl⟩), okW_of_RL h2, h3, h4, h5⟩
theorem open_q {F : Fz} {x : Rat} {c : Bool} {s : Nat} {v : Value} (h : RVp F (.q x c s) v) : ∃ n d cn cd, RVp F (.pair (.z n cn s) (.z d cd s)) v ∧ x = qval n d ∧ (c = true → cn = true ∧ cd = true ∧ canonQ n d) := by
  obtain ⟨cs, ⟨n, d, c1, c2, cn, cd, rfl, h2, h3, h4, h5⟩, rfl⟩ := (show ∃ cs, RC F (.q x c s) cs ∧ v = .agg cs.toArray from h)
  exact ⟨n, d, cn, cd, (show ∃ cs, RC F _ cs ∧ _ = Value.agg cs.toArray from ⟨_, ⟨c1, c2, rfl, h2, h3⟩, rfl⟩), h4, h5⟩
theorem okW_lst {F : Fz} {ws : List Int} {v : Value} (h : RVp F (.lst .u32 ws) v) : okW ws := by
  obtain ⟨u, e, h2⟩ := (show ∃ u, [v] = [u] ∧ RL F 1 Ru32 ws u from h)
  cases e
  exact okW_of_RL h2
theorem okW_pair {F : Fz} {neg : Bool} {ws : List Int} {v : Value} (h : RVp F (.pair (vb neg) (.lst .u32 ws)) v) : okW ws := by
  obtain ⟨cs, ⟨c1, c2, rfl, ⟨_, rfl⟩, u, rfl, h2⟩, rfl⟩ := (show ∃ cs, RC F _ cs ∧ v = Value.agg cs.toArray from h)
  exact okW_of_RL h2
theorem AVle_z {neg : Bool} {ws : List Int} {x : Int} {c : Bool} {s : Nat} (h1 : ws.length ≤ s) (h2 : x = zval neg ws) (h3 : c = true → canonZ neg ws) : AVle (.pair (vb neg) (.lst .u32 ws)) (.z x c s) := by
  intro F v h
  obtain ⟨cs, ⟨c1, c2, rfl, ⟨_, rfl⟩, u, rfl, h4⟩, rfl⟩ := (show ∃ cs, RC F _ cs ∧ v = Value.agg cs.toArray from h)
  exact (show ∃ cs, RC F (.z x c s) cs ∧ _ = Value.agg cs.toArray from ⟨_, ⟨neg, u, ws, rfl, h4, h1, h2, h3⟩, rfl⟩)
theorem RZ_le {F : Fz} {x : Int} {c d : Bool} {s t : Nat} {cs : List Value} (hs : s ≤ t) (hc : d = true → c = true) (h : RZ F x c s cs) : RZ F x d t cs := by
  obtain ⟨neg, sv, ws, a1, a2, a3, a4, a5⟩ := h
  exact ⟨neg, sv, ws, a1, a2, by omega, a4, fun h => a5 (hc h)⟩
theorem AVle_zz {x y : Int} {c d : Bool} {s t : Nat} (e : x = y) (hs : s ≤ t) (hc : d = true → c = true) : AVle (.z x c s) (.z y d t) := by
  subst e
  intro F v h
  obtain ⟨cs, h2, rfl⟩ := (show ∃ cs, RC F (.z x c s) cs ∧ v = .agg cs.toArray from h)
  exact (show ∃ cs, RC F (.z x d t) cs ∧ _ = Value.agg cs.toArray from ⟨_, RZ_le hs hc h2, rfl⟩)
theorem AVle_q {n d : Int} {x : Rat} {c cn cd : Bool} {s s1 s2 : Nat} (h1 : s1 ≤ s) (h2 : s2 ≤ s) (h3 : x = qval n d) (h4 : c = true → cn = true ∧ cd = true ∧ canonQ n d) : AVle (.pair (.z n cn s1) (.z d cd s2)) (.q x c s) := by
  intro F v h
  obtain ⟨cs, ⟨c1, c2, rfl, h5, h6⟩, rfl⟩ := (show ∃ cs, RC F _ cs ∧ v = Value.agg cs.toArray from h)
  exact (show ∃ cs, RC F (.q x c s) cs ∧ _ = Value.agg cs.toArray from ⟨_, ⟨n, d, c1, c2, cn, cd, rfl, RZ_le h1 (fun h => h) h5, RZ_le h2 (fun h => h) h6, h3, h4⟩, rfl⟩)
theorem AVle_qq {x y : Rat} {c d : Bool} {s t : Nat} (e : x = y) (hs : s ≤ t) (hc : d = true → c = true) : AVle (.q x c s) (.q y d t) := by
  subst e
  intro F v h
  obtain ⟨cs, ⟨n, dd, c1, c2, cn, cd, rfl, h5, h6, h7, h8⟩, rfl⟩ := (show ∃ cs, RC F (.q x c s) cs ∧ v = Value.agg cs.toArray from h)
  exact (show ∃ cs, RC F (.q x d t) cs ∧ _ = Value.agg cs.toArray from ⟨_, ⟨n, dd, c1, c2, cn, cd, rfl, RZ_le hs (fun h => h) h5, RZ_le hs (fun h => h) h6, h7, fun h => h8 (hc h)⟩, rfl⟩)
theorem RC_qle {x y : Rat} {c d : Bool} {s t : Nat} (e : x = y) (hc : d = true → c = true) (hs : s ≤ t) : ∀ F cs, RC F (.q x c s) cs → RC F (.q y d t) cs := by
  subst e
  rintro F cs ⟨n, dd, c1, c2, cn, cd, rfl, h5, h6, h7, h8⟩
  exact ⟨n, dd, c1, c2, cn, cd, rfl, RZ_le hs (fun h => h) h5, RZ_le hs (fun h => h) h6, h7, fun h => h8 (hc h)⟩
theorem AV.le_nil {n : Nat} {k : K} : AV.le n (.v (.slice none 0 0)) (.lst k []) := by
  intro F G v hv
  obtain ⟨_, e⟩ := (show plainV (.slice none 0 0) = true ∧ [v] = [.slice none 0 0] from hv)
  cases e
  exact (show ∃ u, [_] = [u] ∧ RL F k.es (RK F k) [] u from ⟨_, rfl, none, 0, rfl, by simp, fun h => absurd rfl h⟩)
theorem RVs_cons {F : Fz} {a : AV} {r : List AV} {vs : List Value} : RVs F (a :: r) vs ↔ ∃ v rs, vs = v :: rs ∧ RVp F a v ∧ RVs F r rs := Iff.rfl
theorem RVs_nil {F : Fz} {vs : List Value} : RVs F [] vs ↔ vs = [] := Iff.rfl
end Go.AE

/- What is known of the program's types, and that it is so. -/
namespace Go.AE
open Go.Proofs Go.RowKit
set_option linter.unusedVariables false
set_option linter.unusedSimpArgs false
set_option maxRecDepth 20000

def ti_sz : TypeId → Option (Nat × Bool) := fun t => match t with
    | 2 => some (1, false)
    | 3 => some (1, false)
    | 4 => some (1, false)
    | 5 => some (1, false)
    | 59 => some (1, false)
    | 118 => some (1, false)
    | 131 => some (1, false)
    | 31 => some (1, false)
    | 22 => some (1, false)
    | 23 => some (1, false)
    | 50 => some (1, false)
    | 30 => some (1, false)
    | 92 => some (1, false)
    | 98 => some (1, false)
    | 89 => some (1, false)
    | 120 => some (1, false)
    | 77 => some (1, false)
    | 79 => some (1, true)
    | 47 => some (2, true)
    | 25 => some (2, true)
    | 27 => some (4, true)
    | 105 => some (4, true)
    | 49 => some (9, true)
    | 94 => some (5, true)
    | _ => none
def ti_zero : TypeId → Option AV := fun t => match t with
    | 2 => some (vi 0)
    | 3 => some (vi 0)
    | 4 => some (vb false)
    | 31 => some (vi 0)
    | 22 => some (.lst .stp [])
    | 23 => some (.lst .u32 [])
    | 50 => some (.lst .bool [])
    | 30 => some (.lst .q [])
    | 92 => some (.lst .way [])
    | 98 => some (.lst .i64 [])
    | 120 => some (.lst .i64 [])
    | 47 => some (.pair (vi 0) (vi 0))
    | 25 => some (.pair (vb false) (.lst .u32 []))
    | 27 => some (.pair (.z 0 true 0) (.z 0 true 0))
    | 105 => some (.pair (.z 0 true 0) (.z 0 true 0))
    | 49 => some (.pair (vi 0) (.pair (vi 0) (.pair (.lst .stp []) (.pair (vi 0) (.pair (vi 0) (.pair (vi 0) (.pair (vi 0) (.pair (vi 0) (vi 0)))))))))
    | 94 => some (.pair (.q 0 true 0) (.lst .bool []))
    | _ => none
def ti_zeroB : TypeId → Option AV := fun t => match t with
    | 47 => some (.pair (vi 0) (vi 0))
    | 25 => some (.pair (vb false) (.lst .u32 []))
    | 27 => some (.pair (.z 0 true 0) (.z 0 true 0))
    | 105 => some (.pair (.z 0 true 0) (.z 0 true 0))
    | 49 => some (.pair (vi 0) (.pair (vi 0) (.pair (.lst .stp []) (.pair (vi 0) (.pair (vi 0) (.pair (vi 0) (.pair (vi 0) (.pair (vi 0) (vi 0)))))))))
    | 94 => some (.pair (.q 0 true 0) (.lst .bool []))
    | _ => none
def ti_fld : TypeId → Nat → Option (Nat × Nat) := fun t j => match t, j with
    | 47, 0 => some (0, 1)
    | 47, 1 => some (1, 1)
    | 25, 0 => some (0, 1)
    | 25, 1 => some (1, 1)
    | 27, 0 => some (0, 2)
    | 27, 1 => some (2, 2)
    | 105, 0 => some (0, 2)
    | 105, 1 => some (2, 2)
    | 49, 0 => some (0, 1)
    | 49, 1 => some (1, 1)
    | 49, 2 => some (2, 1)
    | 49, 3 => some (3, 1)
    | 49, 4 => some (4, 1)
    | 49, 5 => some (5, 1)
    | 49, 6 => some (6, 1)
    | 49, 7 => some (7, 1)
    | 49, 8 => some (8, 1)
    | 94, 0 => some (0, 4)
    | 94, 1 => some (4, 1)
    | 79, 0 => some (0, 1)
    | _, _ => none
def ti_ek : TypeId → Option (TypeId × K) := fun t => match t with
    | 22 => some (47, .stp)
    | 23 => some (59, .u32)
    | 50 => some (4, .bool)
    | 30 => some (27, .q)
    | 92 => some (94, .way)
    | 98 => some (2, .i64)
    | 89 => some (50, .bs)
    | 120 => some (3, .i64)
    | _ => none
def ti_int : TypeId → Option IntKind := fun t => match t with
    | 2 => some .i64
    | 3 => some .i64
    | 5 => some .u8
    | 59 => some .u32
    | 118 => some .u64
    | 131 => some .u64
    | 31 => some .i64
    | _ => none
def ti_isb : TypeId → Bool := fun t => match t with
    | 4 => true
    | _ => false
def ti_eq2 : TypeId → Bool := fun t => match t with
    | 47 => true
    | _ => false
def ti_f1 : TypeId → Nat → Option (Nat × Nat × Bool) := fun t j => match t, j with
    | 135, 0 => some (0, 1, false)
    | 105, 0 => some (0, 2, true)
    | 105, 1 => some (2, 2, true)
    | 27, 0 => some (0, 2, true)
    | 27, 1 => some (2, 2, true)
    | _, _ => none
def ti_ms : TypeId → Bool := fun t => match t with
    | 136 => true
    | _ => false
def ti : TI := ⟨ti_sz, ti_zero, ti_zeroB, ti_fld, ti_ek, ti_int, ti_isb, ti_eq2, ti_f1, ti_ms, fun _ => none, fun _ => none⟩
theorem tie_sz : ti.sz = ti_sz := rfl
theorem tie_zero : ti.zero = ti_zero := rfl
theorem tie_zeroB : ti.zeroB = ti_zeroB := rfl
theorem tie_fld : ti.fld = ti_fld := rfl
theorem tie_ek : ti.ek = ti_ek := rfl
theorem tie_int : ti.int = ti_int := rfl
theorem tie_isb : ti.isb = ti_isb := rfl
theorem tie_eq2 : ti.eq2 = ti_eq2 := rfl
theorem tie_f1 : ti.f1 = ti_f1 := rfl
theorem tie_ms : ti.ms = ti_ms := rfl

theorem mix : Tryz.prog.follows .mixedOrders = true := by kernel_rfl

theorem rl_nil {α : Type} (F : Fz) (es : Nat) (R : α → List Value → Prop) : RL F es R [] (.slice none 0 0) := ⟨none, 0, rfl, by simp, fun h => absurd rfl h⟩
theorem rz_zero (F : Fz) : RZ F 0 true 0 [.bool false, .slice none 0 0] := ⟨false, _, [], rfl, rl_nil _ _ _, by simp, rfl, fun _ => ⟨by simp, fun h => by cases h⟩⟩
theorem rq_zero (F : Fz) : RQ F 0 true 0 [.bool false, .slice none 0 0, .bool false, .slice none 0 0] :=
  ⟨0, 0, _, _, true, true, rfl, rz_zero F, rz_zero F, by simp [qval], fun _ => ⟨rfl, rfl, .inl rfl⟩⟩
theorem rc_i (F : Fz) (n : Int) : RC F (vi n) [.int .i64 n] := ⟨rfl, rfl⟩
theorem rc_l (F : Fz) (k : K) : RC F (.lst k []) [.slice none 0 0] := ⟨_, rfl, rl_nil _ _ _⟩
theorem rc_p {F : Fz} {a b : AV} {c d : List Value} (h : RC F a c) (g : RC F b d) : RC F (.pair a b) (c ++ d) := ⟨_, _, rfl, h, g⟩

theorem rc_b (F : Fz) (b : Bool) : RC F (vb b) [.bool b] := ⟨rfl, rfl⟩
theorem rc_z (F : Fz) : RC F (.z 0 true 0) [.bool false, .slice none 0 0] := rz_zero F
theorem rc_q (F : Fz) : RC F (.q 0 true 0) [.bool false, .slice none 0 0, .bool false, .slice none 0 0] := rq_zero F
theorem rc_unit (F : Fz) : RC F (.pair (vi 0) (.pair (vi 0) (.pair (.lst .stp []) (.pair (vi 0) (.pair (vi 0) (.pair (vi 0) (.pair (vi 0) (.pair (vi 0) (vi 0))))))))) [.int .i64 0, .int .i64 0, .slice none 0 0, .int .i64 0, .int .i64 0, .int .i64 0, .int .i64 0, .int .i64 0, .int .i64 0] :=
  rc_p (rc_i F 0) (rc_p (rc_i F 0) (rc_p (rc_l F _) (rc_p (rc_i F 0) (rc_p (rc_i F 0) (rc_p (rc_i F 0) (rc_p (rc_i F 0) (rc_p (rc_i F 0) (rc_i F 0))))))))
theorem rc_ex (F : Fz) : RC F (.pair (.lst .stp []) (.pair (vi 0) (.pair (vi 0) (vi 0)))) [.slice none 0 0, .int .i64 0, .int .i64 0, .int .i64 0] :=
  rc_p (rc_l F _) (rc_p (rc_i F 0) (rc_p (rc_i F 0) (rc_i F 0)))

theorem eq2_any {P : Program} {t t2 : TypeId} {f1 f2 : Field} (h0 : P.underlying t = some (.struct #[f1, f2])) (h1 : f1.name = "Qty") (h2 : f1.type = t2) (h3 : f1.offset = 0) (h4 : f2.name = "Price") (h5 : f2.type = t2) (h6 : f2.offset = 1)
    (e1 : P.underlying t2 = some (.int .i64)) (e3 : P.eqGuardType P.depth t = false) (e4 : P.stoodInHeld t = false) (x y : Operand) (a b c d : Int) (w : World) :
    (do eqGuard .eql t x y (.agg #[.int .i64 a, .int .i64 b]) (.agg #[.int .i64 c, .int .i64 d]); binOp .eql t (.agg #[.int .i64 a, .int .i64 b]) (.agg #[.int .i64 c, .int .i64 d])).run P w = .ok (.bool (a == c && b == d)) w ∧
    (do eqGuard .neq t x y (.agg #[.int .i64 a, .int .i64 b]) (.agg #[.int .i64 c, .int .i64 d]); binOp .neq t (.agg #[.int .i64 a, .int .i64 b]) (.agg #[.int .i64 c, .int .i64 d])).run P w = .ok (.bool (!(a == c && b == d))) w := by
  have key : (Op.equal t (.agg #[.int .i64 a, .int .i64 b]) (.agg #[.int .i64 c, .int .i64 d])).run P w = .ok (a == c && b == d) w := by
    unfold Op.equal
    rw [show Op.maxDepth = 9998 + 1 + 1 from rfl]
    have hi : ∀ (p q : Int) (n : Nat), (Op.equalIn (n+1) t2 (.int .i64 p) (.int .i64 q)).run P w = .ok (p == q) w := by
      intro p q n
      rw [Op.equalIn.eq_2]
      simp [run_underlying e1]
    have hp : ∀ (p q : Int) , (part t2 #[.int .i64 p, .int .i64 q] 0).run P w = .ok (.int .i64 p) w := by
      intro p q
      simp [part, isAgg, run_underlying e1]
    have hp1 : ∀ (p q : Int) , (part t2 #[.int .i64 p, .int .i64 q] 1).run P w = .ok (.int .i64 q) w := by
      intro p q
      simp [part, isAgg, run_underlying e1]
    have hf : P.fieldsOf t = #[f1, f2] := by simp [Program.fieldsOf, h0]
    rw [run_equalIn_struct (P := P) w _ t _ _ (by rw [hf]; exact h0) e4, hf]
    simp only [Op.eqFields, h1, h2, h3, h4, h5, h6, Sem.run_bind, hp, hi, Result.andThen_ok, if_pos (show ("Qty" : String) ≠ "_" by decide), if_pos (show ("Price" : String) ≠ "_" by decide)]
    by_cases hac : a = c <;> by_cases hbd : b = d <;> simp [hac, hbd, hp1, hi, show (9999 : Nat) = 9998 + 1 from rfl]
  constructor
  · simp [eqGuard, e3, binOp, key]
  · simp [eqGuard, e3, binOp, key]
theorem tiOk : TIOk Tryz.prog ti where
  sz := by
    intro t n b h
    simp only [ti, ti_sz, ti_zero, ti_zeroB, ti_fld, ti_ek, ti_int, ti_isb, ti_eq2, ti_f1, ti_ms] at h
    split at h <;> first | (cases h; exact ⟨rfl, rfl⟩) | cases h
  zero := by
    intro t a h
    simp only [ti, ti_sz, ti_zero, ti_zeroB, ti_fld, ti_ek, ti_int, ti_isb, ti_eq2, ti_f1, ti_ms] at h
    split at h <;> first
      | (cases h; first
          | exact ⟨_, rfl, fun F => rc_i F 0⟩
          | exact ⟨_, rfl, fun F => rc_b F false⟩
          | exact ⟨_, rfl, fun F => rc_l F _⟩
          | exact ⟨_, rfl, fun F => rc_p (rc_i F 0) (rc_i F 0)⟩
          | exact ⟨_, rfl, fun F => rc_p (rc_b F false) (rc_l F _)⟩
          | exact ⟨_, rfl, fun F => rc_p (rc_z F) (rc_z F)⟩
          | exact ⟨_, rfl, fun F => rc_unit F⟩
          | exact ⟨_, rfl, fun F => rc_ex F⟩
          | exact ⟨_, rfl, fun F => rc_p (rc_q F) (rc_l F _)⟩)
      | cases h
  zeroB := by
    intro t a h
    simp only [ti, ti_sz, ti_zero, ti_zeroB, ti_fld, ti_ek, ti_int, ti_isb, ti_eq2, ti_f1, ti_ms] at h
    have key : ∀ t' j off n, ti.fld t' j = some (off, n) → j < 9 := by
      intro t' j off n h
      simp only [ti, ti_sz, ti_zero, ti_zeroB, ti_fld, ti_ek, ti_int, ti_isb, ti_eq2, ti_f1, ti_ms] at h
      split at h <;> first | (cases h; decide) | cases h
    split at h <;> first
      | (cases h
         refine ⟨_, _, _, rfl, ?_, rfl, rfl, rfl, ?_⟩
         · first
             | exact fun F => rc_p (rc_i F 0) (rc_i F 0)
             | exact fun F => rc_p (rc_b F false) (rc_l F _)
             | exact fun F => rc_p (rc_z F) (rc_z F)
             | exact fun F => rc_unit F
             | exact fun F => rc_ex F
             | exact fun F => rc_p (rc_q F) (rc_l F _)
             | exact fun F => rc_p (rc_b F false) (rc_q F)
         · intro j off n h
           have hj := key _ _ _ _ h
           have : j = 0 ∨ j = 1 ∨ j = 2 ∨ j = 3 ∨ j = 4 ∨ j = 5 ∨ j = 6 ∨ j = 7 ∨ j = 8 := by omega
           rcases this with rfl | rfl | rfl | rfl | rfl | rfl | rfl | rfl | rfl <;> first | (cases h; rfl) | cases h)
      | cases h
  fld := by
    intro t j off n h
    simp only [ti, ti_sz, ti_zero, ti_zeroB, ti_fld, ti_ek, ti_int, ti_isb, ti_eq2, ti_f1, ti_ms] at h
    split at h <;> first | (cases h; exact ⟨_, _, _, rfl, rfl, rfl, rfl, rfl, by decide⟩) | cases h
  ek := by
    intro t e k h
    simp only [ti, ti_sz, ti_zero, ti_zeroB, ti_fld, ti_ek, ti_int, ti_isb, ti_eq2, ti_f1, ti_ms] at h
    split at h <;> first
      | (cases h; refine ⟨rfl, _, _, rfl, rfl, rfl, rfl, rfl, ?_⟩
         intro F
         first
           | exact (rfl : _ = _)
           | exact ⟨rfl, by decide, by decide⟩
           | exact rq_zero F
           | exact ⟨_, rfl, rl_nil _ _ _⟩
           | exact ⟨_, _, rfl, rq_zero F, rl_nil _ _ _⟩)
      | cases h
  int := by
    intro t k h
    simp only [ti, ti_sz, ti_zero, ti_zeroB, ti_fld, ti_ek, ti_int, ti_isb, ti_eq2, ti_f1, ti_ms] at h
    split at h <;> first | (cases h; rfl) | cases h
  isb := by
    intro t h
    simp only [ti, ti_sz, ti_zero, ti_zeroB, ti_fld, ti_ek, ti_int, ti_isb, ti_eq2, ti_f1, ti_ms] at h
    split at h <;> first | rfl | cases h
  eq2 := by
    intro t h x y a b c d w
    simp only [ti, ti_sz, ti_zero, ti_zeroB, ti_fld, ti_ek, ti_int, ti_isb, ti_eq2, ti_f1, ti_ms] at h
    split at h
    · exact eq2_any (t2 := 2) rfl rfl rfl rfl rfl rfl rfl rfl (by kernel_rfl) (by kernel_rfl) x y a b c d w
    · cases h
  f1 := by
    intro t j off n b h
    simp only [ti, ti_sz, ti_zero, ti_zeroB, ti_fld, ti_ek, ti_int, ti_isb, ti_eq2, ti_f1, ti_ms] at h
    split at h <;> first | (cases h; exact ⟨_, _, _, rfl, rfl, rfl, rfl, rfl, rfl, rfl, fun h => by first | rfl | cases h⟩) | cases h
  ms := by
    intro t h
    simp only [ti, ti_sz, ti_zero, ti_zeroB, ti_fld, ti_ek, ti_int, ti_isb, ti_eq2, ti_f1, ti_ms] at h
    split at h <;> first | exact ⟨_, _, rfl, rfl⟩ | cases h
  clo := by intro g T1 T2 cc h; cases h
  hof := by intro g g' T1 T2 cc h; cases h
end Go.AE

/- Plain lemmas: words as digits. -/
namespace Go.AE
set_option linter.unusedVariables false
set_option linter.unusedSimpArgs false

def digs : Nat → Int → List Int
  | 0, _ => []
  | n + 1, v => v % 4294967296 :: digs n (v / 4294967296)
theorem digs_length (n : Nat) (v : Int) : (digs n v).length = n := by
  induction n generalizing v with
  | zero => rfl
  | succ n ih => simp [digs, ih]
theorem okW_digs (n : Nat) (v : Int) : okW (digs n v) := by
  induction n generalizing v with
  | zero => intro x hx; cases hx
  | succ n ih =>
    intro x hx
    simp only [digs] at hx
    rcases List.mem_cons.1 hx with rfl | hx
    · omega
    · exact ih _ x hx
theorem wv_digs {n : Nat} {v : Int} (h0 : 0 ≤ v) (h : v < 4294967296 ^ n) : wv (digs n v) = v := by
  induction n generalizing v with
  | zero => simp at h; simp only [digs, wv]; omega
  | succ n ih =>
    rw [Int.pow_succ] at h
    simp only [digs, wv]
    rw [ih (by omega) (by omega)]
    omega
theorem okW_tail {x : Int} {l : List Int} (h : okW (x :: l)) : (0 ≤ x ∧ x < 4294967296) ∧ okW l := ⟨h x (by simp), fun y hy => h y (by simp [hy])⟩
theorem eq_digs {l : List Int} (h : okW l) : l = digs l.length (wv l) := by
  induction l with
  | nil => rfl
  | cons x r ih =>
    obtain ⟨h1, h2⟩ := okW_tail h
    simp only [List.length_cons, digs, wv]
    have := wv_nonneg h2
    rw [show (x + 4294967296 * wv r) % 4294967296 = x by omega, show (x + 4294967296 * wv r) / 4294967296 = wv r by omega, ← ih h2]
theorem eq_digs_of {l : List Int} {n : Nat} {v : Int} (h : okW l) (hn : l.length = n) (hv : wv l = v) : l = digs n v := by
  rw [← hn, ← hv]; exact eq_digs h
theorem canon_tail {x : Int} {l : List Int} (h : (x :: l).getLast? ≠ some 0) : l.getLast? ≠ some 0 := by
  cases l with
  | nil => simp
  | cons a b => simpa using h
theorem wv_inj {l m : List Int} (hl : okW l) (hm : okW m) (cl : l.getLast? ≠ some 0) (cm : m.getLast? ≠ some 0) (h : wv l = wv m) : l = m := by
  induction l generalizing m with
  | nil =>
    cases m with
    | nil => rfl
    | cons y s => have := wv_pos hm cm (by simp); simp only [wv] at h this; omega
  | cons x r ih =>
    cases m with
    | nil => have := wv_pos hl cl (by simp); simp only [wv] at h this; omega
    | cons y s =>
      obtain ⟨h1, h2⟩ := okW_tail hl
      obtain ⟨h3, h4⟩ := okW_tail hm
      have := wv_nonneg h2
      have := wv_nonneg h4
      simp only [wv] at h
      rw [show x = y by omega, ih h2 h4 (canon_tail cl) (canon_tail cm) (by omega)]
theorem trim_eq {l m : List Int} (hl : okW l) (hm : okW m) (h : wv l = wv m) : trimL l = trimL m :=
  wv_inj (okW_trimL hl) (okW_trimL hm) (trimL_canon l) (trimL_canon m) (by rw [wv_trimL, wv_trimL, h])
theorem trim_digs {l : List Int} {n : Nat} {v : Int} (hl : okW l) (h : wv l = v) (hv : v < 4294967296 ^ n) : trimL l = trimL (digs n v) :=
  trim_eq hl (okW_digs _ _) (by rw [wv_digs (h ▸ wv_nonneg hl) hv, h])
theorem wv_ge {l : List Int} (h : okW l) (hc : l.getLast? ≠ some 0) (hl : l ≠ []) : 4294967296 ^ (l.length - 1) ≤ wv l := by
  induction l with
  | nil => exact absurd rfl hl
  | cons x r ih =>
    obtain ⟨h1, h2⟩ := okW_tail h
    cases r with
    | nil => have := wv_pos h hc hl; simp; omega
    | cons a b =>
      have h3 := ih h2 (canon_tail hc) (by simp)
      simp only [List.length_cons, Nat.add_sub_cancel] at h3 ⊢
      rw [wv, Int.pow_succ]; omega
theorem pow_pos (n : Nat) : (0 : Int) < 4294967296 ^ n := Int.pow_pos (by decide)
theorem pow_mono {m n : Nat} (h : m ≤ n) : (4294967296 : Int) ^ m ≤ 4294967296 ^ n := by
  obtain ⟨k, rfl⟩ := Nat.exists_eq_add_of_le h
  clear h
  induction k with
  | zero => exact Int.le_refl _
  | succ k ih => have h := pow_pos (m + k); rw [← Nat.add_assoc, Int.pow_succ]; omega
theorem length_le_of_wv {l : List Int} {n : Nat} (h : okW l) (hc : l.getLast? ≠ some 0) (hv : wv l < 4294967296 ^ n) : l.length ≤ n := by
  by_cases hl : l = []
  · simp [hl]
  · have h1 := wv_ge h hc hl
    by_cases hn : l.length ≤ n
    · exact hn
    · have := pow_mono (show n ≤ l.length - 1 by omega)
      omega
theorem wv_lt_of_length {l m : List Int} (hl : okW l) (hm : okW m) (cm : m.getLast? ≠ some 0) (h : l.length < m.length) : wv l < wv m := by
  have h1 := wv_lt hl
  have h2 := wv_ge hm cm (by rintro rfl; simp at h)
  have := pow_mono (show l.length ≤ m.length - 1 by omega)
  omega
theorem wv_set {l : List Int} {j : Nat} (hj : j < l.length) (v : Int) : wv (l.set j v) = wv l + 4294967296 ^ j * (v - l.getD j 0) := by
  induction l generalizing j with
  | nil => simp at hj
  | cons x r ih =>
    cases j with
    | zero => simp [wv]; omega
    | succ j =>
      simp only [List.set_cons_succ, wv, List.getD_cons_succ, ih (by simpa using hj), Int.pow_succ]
      grind
theorem wv_take_succ {l : List Int} {i : Nat} (h : i < l.length) : wv (l.take (i + 1)) = wv (l.take i) + 4294967296 ^ i * l.getD i 0 := by
  induction l generalizing i with
  | nil => simp at h
  | cons x r ih =>
    cases i with
    | zero => simp [wv]
    | succ i =>
      simp only [List.take_succ_cons, wv, List.getD_cons_succ, ih (by simpa using h), Int.pow_succ]
      grind
theorem wv_drop {l : List Int} {i : Nat} (h : i < l.length) : wv (l.drop i) = l.getD i 0 + 4294967296 * wv (l.drop (i + 1)) := by
  induction l generalizing i with
  | nil => simp at h
  | cons x r ih =>
    cases i with
    | zero => simp [wv]
    | succ i => simp only [List.drop_succ_cons, List.getD_cons_succ]; exact ih (by simpa using h)
theorem drop_set_of_lt {l : List Int} {i j : Nat} (v : Int) (h : i < j) : (l.set i v).drop j = l.drop j := by
  rw [List.drop_set, if_pos h]
theorem okW_set {l : List Int} (h : okW l) (j : Nat) {v : Int} (h1 : 0 ≤ v) (h2 : v < 4294967296) : okW (l.set j v) := by
  intro x hx
  rcases List.mem_or_eq_of_mem_set hx with hx | rfl
  · exact h x hx
  · exact ⟨h1, h2⟩
theorem okW_take {l : List Int} (h : okW l) (j : Nat) : okW (l.take j) := fun x hx => h x (List.mem_of_mem_take hx)
theorem okW_drop {l : List Int} (h : okW l) (j : Nat) : okW (l.drop j) := fun x hx => h x (List.mem_of_mem_drop hx)
theorem okW_getD {l : List Int} (h : okW l) (j : Nat) : 0 ≤ l.getD j 0 ∧ l.getD j 0 < 4294967296 := by
  by_cases hj : j < l.length
  · rw [List.getD_eq_getElem?_getD, List.getElem?_eq_getElem hj]; exact h _ (List.getElem_mem _)
  · rw [List.getD_eq_getElem?_getD, List.getElem?_eq_none (by omega)]; simp
theorem okW_zeros (n : Nat) : okW (List.replicate n 0) := fun x hx => by rw [List.eq_of_mem_replicate hx]; omega
theorem wv_zeros (n : Nat) : wv (List.replicate n 0) = 0 := by
  induction n with
  | zero => rfl
  | succ n ih => simp [List.replicate_succ, wv, ih]
theorem getD_zeros (n i : Nat) : (List.replicate n (0 : Int)).getD i 0 = 0 := by
  simp [List.getD_eq_getElem?_getD, List.getElem?_replicate]
  split <;> rfl
theorem getD_set {l : List Int} {i j : Nat} (h : i < l.length) (v : Int) : (l.set i v).getD j 0 = if i = j then v else l.getD j 0 := by
  simp only [List.getD_eq_getElem?_getD, List.getElem?_set]
  split
  · rename_i e; subst e; simp [h]
  · rfl
theorem mul_bound {x y : Int} (h1 : 0 ≤ x) (h2 : x < 4294967296) (h3 : 0 ≤ y) (h4 : y < 4294967296) : 0 ≤ x * y ∧ x * y ≤ 18446744065119617025 := by
  refine ⟨Int.mul_nonneg h1 h3, ?_⟩
  have : x * y ≤ 4294967295 * 4294967295 := Int.mul_le_mul (by omega) (by omega) h3 (by omega)
  omega
theorem div_digit {r x n : Int} (h0 : 0 ≤ r) (h1 : r < n) (hx : 0 ≤ x) (hx2 : x < 4294967296) : 0 ≤ (r * 4294967296 + x) / n ∧ (r * 4294967296 + x) / n < 4294967296 ∧ 0 ≤ (r * 4294967296 + x) % n ∧ (r * 4294967296 + x) % n < n := by
  have hn : 0 < n := by omega
  exact ⟨Int.ediv_nonneg (by omega) (by omega), Int.ediv_lt_of_lt_mul hn (by omega), Int.emod_nonneg _ (by omega), Int.emod_lt_of_pos _ hn⟩
theorem tn_add (a b : Nat) : ((a : Int) + (b : Int)).toNat = a + b := by omega
theorem tn_add1 (a : Nat) : ((a : Int) + 1).toNat = a + 1 := by omega
theorem sh32 : (2 : Int) ^ min (Int.toNat 32) IntKind.u64.bits = 4294967296 := rfl
theorem fdiv32 (x : Int) : x.fdiv 4294967296 = x / 4294967296 := Int.fdiv_eq_ediv_of_nonneg _ (by decide)

def sgn (x : Int) : Int := if x = 0 then 0 else if x < 0 then -1 else 1
theorem made_z {neg : Bool} {ws : List Int} (h : okW ws) : zval (neg && decide (0 < (trimL ws).length)) (trimL ws) = zval neg ws ∧ canonZ (neg && decide (0 < (trimL ws).length)) (trimL ws) := by
  have h1 := wv_trimL ws
  by_cases hl : trimL ws = []
  · rw [hl] at h1 ⊢
    simp only [wv] at h1
    refine ⟨?_, by simp, by simp⟩
    cases neg <;> simp [zval, wv, ← h1]
  · have : 0 < (trimL ws).length := List.length_pos_iff.2 hl
    simp only [this, decide_true, Bool.and_true]
    exact ⟨by simp only [zval, h1], trimL_canon ws, fun _ => hl⟩
theorem compat_ok {ops : List Oper} {es : List Ef} (h : compat ops es = true) : compat ops es = true := h
theorem AVle_int {k : IntKind} {x y : Int} (e : x = y) : AVle (.v (.int k x)) (.v (.int k y)) := AVle_of_eq (by rw [e])
theorem AVle_bool {x y : Bool} (e : x = y) : AVle (vb x) (vb y) := AVle_of_eq (by rw [e])
theorem AVle_lst {k : K} {x y : List k.T} (e : x = y) : AVle (.lst k x) (.lst k y) := AVle_of_eq (by rw [e])
theorem sgn_zval {neg : Bool} {ws : List Int} (h : okW ws) : sgn (zval neg ws) = if trimL ws = [] then 0 else if neg = true then -1 else 1 := by
  have h0 := wv_nonneg h
  by_cases hl : trimL ws = []
  · rw [if_pos hl]
    have := (wv_trimL_zero h).1 hl
    simp [zval, this, sgn]
  · rw [if_neg hl]
    have : wv ws ≠ 0 := fun e => hl ((wv_trimL_zero h).2 e)
    cases neg <;> simp only [zval, sgn] <;> simp <;> omega
end Go.AE

/- Plain lemmas: rationals. -/
namespace Go.AE
open Go.RowKit
set_option linter.unusedVariables false
set_option linter.unusedSimpArgs false

theorem rat_ne {d : Int} (h : d ≠ 0) : (d : Rat) ≠ 0 := by
  intro e; apply h; exact_mod_cast e
theorem rat_pos {d : Int} (h : 0 < d) : (0 : Rat) < (d : Rat) := by exact_mod_cast h
theorem least_split {n d : Int} (hd : 0 < d) : (0 : Int) < Int.gcd n d ∧ n / Int.gcd n d * Int.gcd n d = n ∧ d / Int.gcd n d * Int.gcd n d = d ∧ 0 < d / Int.gcd n d ∧ Int.gcd (n / Int.gcd n d) (d / Int.gcd n d) = 1 := by
  have h0 : 0 < Int.gcd n d := Int.gcd_pos_of_ne_zero_right _ (by omega)
  have h1 : n / Int.gcd n d * Int.gcd n d = n := Int.ediv_mul_cancel (Int.gcd_dvd_left ..)
  have h2 : d / Int.gcd n d * Int.gcd n d = d := Int.ediv_mul_cancel (Int.gcd_dvd_right ..)
  refine ⟨by omega, h1, h2, ?_, ?_⟩
  · rcases Int.lt_or_le 0 (d / Int.gcd n d) with h | h
    · exact h
    · have := Int.mul_nonpos_of_nonpos_of_nonneg h (show (0 : Int) ≤ Int.gcd n d by omega)
      omega
  · exact Int.gcd_ediv_gcd_ediv_gcd h0
theorem rat_div_of {n d g n' d' : Int} (hg : g ≠ 0) (hd : d ≠ 0) (h1 : n' * g = n) (h2 : d' * g = d) : (n' : Rat) / (d' : Rat) = (n : Rat) / (d : Rat) := by
  subst h1 h2
  have hd' : d' ≠ 0 := by rintro rfl; simp at hd
  have := rat_ne hg
  have := rat_ne hd'
  rw [Rat.intCast_mul, Rat.intCast_mul]
  grind
theorem ofD_pos' (d : Int) : 0 < (if d = 0 then 1 else if d < 0 then -d else d) := by split <;> (try split) <;> omega
end Go.AE

/- Contracts: package whole, the functions of words. -/
namespace Go.AE
open Go.Proofs Go.RowKit
set_option linter.unusedVariables false
set_option linter.unusedSimpArgs false
set_option maxRecDepth 20000

def env0 : Env := fun _ => none
theorem env0_ok : EnvOk Tryz.prog env0 := fun g ct h => by cases h

def ctTrim : Ct := fun l => match l with
  | [.lst .u32 ws] => some (ws.length ≤ 1099511627776, .lst .u32 (trimL ws))
  | _ => none

theorem ok130 : Sound Tryz.prog 130 ctTrim := by
  refine sound_of (fn := Tryz.f130) rfl rfl rfl tiOk env0_ok mix ?_ ?_
  · intro l p r h hp F vs hv
    unfold ctTrim at h
    split at h <;> cases h
    rename_i ws
    refine ⟨_, hv, ?_⟩
    show Run Tryz.prog ti env0 21 (finR ti [.tmp 2] (.lst .u32 (trimL ws))) _ _ _
    repeat' (first | with_reducible refine run_seq ?_ | with_reducible refine run_block ?_ | with_reducible refine step_code ?_ | with_reducible refine step_blk ?_ | with_reducible refine run_skip ?_ | with_reducible refine run_exit ?_ | with_reducible refine exits_code ?_ | with_reducible refine exits_here ?_ | with_reducible refine exits_blk rfl ?_ | with_reducible refine exits_lp ?_ | with_reducible refine run_ret ?_ | ((first | with_reducible refine run_region ?_ | with_reducible refine run_draw (by kernel_rfl) ?_); simp only [↓guardP_tt, ↓guardP_tf, ↓guardP_ft, ↓guardP_ff, guardP_t, guardP_f, evalQ, evalR, effQ, effR, skipS, opEff, evO, plainV, lkS, lkM, updL, putS, tie_sz, tie_zero, tie_zeroB, tie_fld, tie_ek, tie_int, tie_isb, tie_eq2, tie_f1, tie_ms,  ti_f1, ti_ms, ti_sz, ti_zero, ti_zeroB, ti_fld, ti_ek, ti_int, ti_isb, ti_eq2, binA, binI, intOp, funOf_v, cloOf_v, calIds, appEff, frE, foldB, foldS, castL_self, K.enc, K.dec, K.zero, K.es, K.bytes, AV.part, AV.setPart, AV.cells, AV.agg, AV.nth, Bool.false_eq_true, callEff, pubs, pub, nilAV, MM.upd, MM.set, argS, gdst, opIds, lids, AV.ids, List.getD_cons_succ, List.getD_cons_zero, List.map, List.tail, List.headD, List.nil_append, List.append_nil, List.cons_append, List.length_nil, List.length_cons, List.zip_cons_cons, List.zip_nil_right, List.set_cons_zero, List.set_cons_succ, List.replicate, Option.isSome_some, Option.map_some, Bool.not_true, Bool.not_false, forall_const, false_implies, Nat.reduceAdd, Nat.reduceEqDiff, Nat.reduceLT, Nat.reduceSub, Nat.reduceMul, Nat.reduceLeDiff, ↓reduceIte, and_true, true_and, and_self, false_and, and_false, reduceCtorEq, env0]) | (with_reducible refine run_cond (by with_unfolding_all exact rfl) ?_ ?_ <;> intro hc <;> (try simp only [vb, decide_eq_true_eq, decide_eq_false_iff_not, beq_iff_eq, beq_eq_false_iff_ne, bne_iff_ne, bne_eq_false_iff_eq, Bool.not_eq_true', Bool.not_eq_false', reduceCtorEq] at hc) <;> (try (first | simp (disch := omega) only [wrap64, wrapu64, wrapu32, sh32, fdiv32, Int.tdiv_eq_ediv_of_nonneg, Int.tmod_eq_emod_of_nonneg, tn_add, tn_add1, Int.toNat_natCast, Int.toNat_zero, List.drop_zero] at hc | simp only [wrapu64m, wrapu32m] at hc))) | ((with_reducible refine compat_ok ?_); kernel_rfl) | with_reducible apply And.intro | (first | simp (disch := omega) only [wrap64, wrapu64, wrapu32, sh32, fdiv32, Int.tdiv_eq_ediv_of_nonneg, Int.tmod_eq_emod_of_nonneg, tn_add, tn_add1, Int.toNat_natCast, Int.toNat_zero, List.drop_zero] | simp only [wrapu64m, wrapu32m]) | (with_reducible intro hg; (try simp only [vb, decide_eq_true_eq, decide_eq_false_iff_not, beq_iff_eq, beq_eq_false_iff_ne, bne_iff_ne, bne_eq_false_iff_eq, Bool.not_eq_true', Bool.not_eq_false', reduceCtorEq] at hg); (try (first | simp (disch := omega) only [wrap64, wrapu64, wrapu32, sh32, fdiv32, Int.tdiv_eq_ediv_of_nonneg, Int.tmod_eq_emod_of_nonneg, tn_add, tn_add1, Int.toNat_natCast, Int.toNat_zero, List.drop_zero] at hg | simp only [wrapu64m, wrapu32m] at hg))))
    refine run_loop (ι := List Int) (fun ws' => ⟨[(0, .lst .u32 ws')], [], 1⟩) (fun ws' => trimL ws' = trimL ws ∧ ws'.length ≤ 1099511627776) (fun ws' => ws'.length) ws ⟨rfl, hp⟩ ?_ ?_
    · (refine AS.le_of ?_ ?_ <;> simp only [slLe, memLe, entLe, lkS, lkM, Nat.reduceEqDiff, Nat.reduceLT, or_true, true_or, reduceCtorEq, ↓reduceIte, and_true, true_and] <;> (repeat' with_reducible apply And.intro) <;> (try (first | ((with_reducible refine AV.le_refl ?_); rfl) | with_reducible exact AV.le_junk | with_reducible exact AV.le_nil | ((with_reducible refine AV.le_int ?_); omega) | (with_reducible refine AV.le_int ?_) | (with_reducible refine AV.le_bool ?_) | ((with_reducible refine AV.le_lst ?_); try rfl) | (with_reducible refine AV.le_q ?_ ?_ ?_) | exact fun _ _ h => h | (with_reducible refine RC_qle ?_ ?_ ?_))))
    rintro ws' ⟨hw, hl⟩
    repeat' (first | with_reducible refine run_seq ?_ | with_reducible refine run_block ?_ | with_reducible refine step_code ?_ | with_reducible refine step_blk ?_ | with_reducible refine run_skip ?_ | with_reducible refine run_exit ?_ | with_reducible refine exits_code ?_ | with_reducible refine exits_here ?_ | with_reducible refine exits_blk rfl ?_ | with_reducible refine exits_lp ?_ | with_reducible refine run_ret ?_ | ((first | with_reducible refine run_region ?_ | with_reducible refine run_draw (by kernel_rfl) ?_); simp only [↓guardP_tt, ↓guardP_tf, ↓guardP_ft, ↓guardP_ff, guardP_t, guardP_f, evalQ, evalR, effQ, effR, skipS, opEff, evO, plainV, lkS, lkM, updL, putS, tie_sz, tie_zero, tie_zeroB, tie_fld, tie_ek, tie_int, tie_isb, tie_eq2, tie_f1, tie_ms,  ti_f1, ti_ms, ti_sz, ti_zero, ti_zeroB, ti_fld, ti_ek, ti_int, ti_isb, ti_eq2, binA, binI, intOp, funOf_v, cloOf_v, calIds, appEff, frE, foldB, foldS, castL_self, K.enc, K.dec, K.zero, K.es, K.bytes, AV.part, AV.setPart, AV.cells, AV.agg, AV.nth, Bool.false_eq_true, callEff, pubs, pub, nilAV, MM.upd, MM.set, argS, gdst, opIds, lids, AV.ids, List.getD_cons_succ, List.getD_cons_zero, List.map, List.tail, List.headD, List.nil_append, List.append_nil, List.cons_append, List.length_nil, List.length_cons, List.zip_cons_cons, List.zip_nil_right, List.set_cons_zero, List.set_cons_succ, List.replicate, Option.isSome_some, Option.map_some, Bool.not_true, Bool.not_false, forall_const, false_implies, Nat.reduceAdd, Nat.reduceEqDiff, Nat.reduceLT, Nat.reduceSub, Nat.reduceMul, Nat.reduceLeDiff, ↓reduceIte, and_true, true_and, and_self, false_and, and_false, reduceCtorEq, env0]) | (with_reducible refine run_cond (by with_unfolding_all exact rfl) ?_ ?_ <;> intro hc <;> (try simp only [vb, decide_eq_true_eq, decide_eq_false_iff_not, beq_iff_eq, beq_eq_false_iff_ne, bne_iff_ne, bne_eq_false_iff_eq, Bool.not_eq_true', Bool.not_eq_false', reduceCtorEq] at hc) <;> (try (first | simp (disch := omega) only [wrap64, wrapu64, wrapu32, sh32, fdiv32, Int.tdiv_eq_ediv_of_nonneg, Int.tmod_eq_emod_of_nonneg, tn_add, tn_add1, Int.toNat_natCast, Int.toNat_zero, List.drop_zero] at hc | simp only [wrapu64m, wrapu32m] at hc))) | ((with_reducible refine compat_ok ?_); kernel_rfl) | with_reducible apply And.intro | (first | simp (disch := omega) only [wrap64, wrapu64, wrapu32, sh32, fdiv32, Int.tdiv_eq_ediv_of_nonneg, Int.tmod_eq_emod_of_nonneg, tn_add, tn_add1, Int.toNat_natCast, Int.toNat_zero, List.drop_zero] | simp only [wrapu64m, wrapu32m]) | (with_reducible intro hg; (try simp only [vb, decide_eq_true_eq, decide_eq_false_iff_not, beq_iff_eq, beq_eq_false_iff_ne, bne_iff_ne, bne_eq_false_iff_eq, Bool.not_eq_true', Bool.not_eq_false', reduceCtorEq] at hg); (try (first | simp (disch := omega) only [wrap64, wrapu64, wrapu32, sh32, fdiv32, Int.tdiv_eq_ediv_of_nonneg, Int.tmod_eq_emod_of_nonneg, tn_add, tn_add1, Int.toNat_natCast, Int.toNat_zero, List.drop_zero] at hg | simp only [wrapu64m, wrapu32m] at hg))))
    all_goals try omega
    · have hne : ws' ≠ [] := by rintro rfl; simp at hg
      have e : ws' = ws'.take (ws'.length - 1) ++ [ws'.getD (ws'.length - 1) 0] := by
        rw [← List.dropLast_eq_take]
        conv => lhs; rw [← List.dropLast_concat_getLast hne]
        simp [List.getLast_eq_getElem, List.getD_eq_getElem?_getD, List.getElem?_eq_getElem (show ws'.length - 1 < ws'.length by omega)]
      have e2 : ((ws'.length : Int) - 1).toNat = ws'.length - 1 := by omega
      rw [e2] at hc
      rw [hc] at e
      refine step_lp ⟨ws'.take (ws'.length - 1), ⟨?_, by simp; omega⟩, by simp; omega, ?_⟩
      · rw [← hw]; conv => rhs; rw [e, trimL_snoc, if_pos rfl]
      · rw [e2]; (refine AS.le_of ?_ ?_ <;> simp only [slLe, memLe, entLe, lkS, lkM, Nat.reduceEqDiff, Nat.reduceLT, or_true, true_or, reduceCtorEq, ↓reduceIte, and_true, true_and] <;> (repeat' with_reducible apply And.intro) <;> (try (first | ((with_reducible refine AV.le_refl ?_); rfl) | with_reducible exact AV.le_junk | with_reducible exact AV.le_nil | ((with_reducible refine AV.le_int ?_); omega) | (with_reducible refine AV.le_int ?_) | (with_reducible refine AV.le_bool ?_) | ((with_reducible refine AV.le_lst ?_); try rfl) | (with_reducible refine AV.le_q ?_ ?_ ?_) | exact fun _ _ h => h | (with_reducible refine RC_qle ?_ ?_ ?_))))
    · have hne : ws' ≠ [] := by rintro rfl; simp at hg
      have e : ws' = ws'.take (ws'.length - 1) ++ [ws'.getD (ws'.length - 1) 0] := by
        rw [← List.dropLast_eq_take]
        conv => lhs; rw [← List.dropLast_concat_getLast hne]
        simp [List.getLast_eq_getElem, List.getD_eq_getElem?_getD, List.getElem?_eq_getElem (show ws'.length - 1 < ws'.length by omega)]
      have e2 : ((ws'.length : Int) - 1).toNat = ws'.length - 1 := by omega
      rw [e2] at hc
      simp only [finR, resAs, resA, resLe, lsLe, lkS, lkM, pubs, pub, tie_sz, ti_sz, tie_ek, ti_ek,  nilAV, MM.upd, MM.set, AV.part, AV.cells, AV.agg, List.tail, List.headD, Nat.reduceAdd, Nat.reduceEqDiff, Nat.reduceLT, ↓reduceIte, and_true, true_and, and_self, reduceCtorEq]
      refine AVle_of_eq ?_
      rw [← hw]
      conv => rhs; rw [e, trimL_snoc, if_neg hc, ← e]
    · simp only [finR, resAs, resA, resLe, lsLe, lkS, lkM, pubs, pub, tie_sz, ti_sz, tie_ek, ti_ek,  nilAV, MM.upd, MM.set, AV.part, AV.cells, AV.agg, List.tail, List.headD, Nat.reduceAdd, Nat.reduceEqDiff, Nat.reduceLT, ↓reduceIte, and_true, true_and, and_self, reduceCtorEq]
      refine AVle_of_eq ?_
      have : ws' = [] := List.eq_nil_of_length_eq_zero (by omega)
      subst this
      rw [← hw]; rfl
  · intro l p r h
    unfold ctTrim at h
    split at h <;> cases h
    exact Nat.le_of_ble_eq_true rfl

def env1 : Env := fun g => match g with | 130 => some ctTrim | _ => none
theorem env1_ok : EnvOk Tryz.prog env1 := by
  intro g ct h
  simp only [env1] at h
  split at h <;> first | (cases h; exact ok130) | cases h

def ctMade : Ct := fun l => match l with
  | [.v (.bool neg), .lst .u32 ws] => some (ws.length ≤ 1099511627776, .z (zval neg ws) true ws.length)
  | _ => none
theorem ok133 : Sound Tryz.prog 133 ctMade := by
  refine sound_of (fn := Tryz.f133) rfl rfl rfl tiOk env1_ok mix ?_ (by intro l p r h; unfold ctMade at h; split at h <;> cases h <;> exact Nat.le_of_ble_eq_true rfl)
  intro l p r h hp F vs hv
  unfold ctMade at h
  split at h <;> cases h
  rename_i neg ws
  obtain ⟨v0, rest0, rfl, a0, hv⟩ := hv
  obtain ⟨v1, rest1, rfl, a1, hv⟩ := hv
  have ok1 := okW_lst a1
  refine ⟨[_, _], ⟨_, _, rfl, a0, _, _, rfl, a1, hv⟩, ?_⟩
  show Run Tryz.prog ti env1 15 (finR ti [.cell 4 25] _) _ _ _
  repeat' (first | with_reducible refine run_seq ?_ | with_reducible refine run_block ?_ | with_reducible refine step_code ?_ | with_reducible refine step_blk ?_ | with_reducible refine run_skip ?_ | with_reducible refine run_exit ?_ | with_reducible refine exits_code ?_ | with_reducible refine exits_here ?_ | with_reducible refine exits_blk rfl ?_ | with_reducible refine exits_lp ?_ | with_reducible refine run_ret ?_ | ((first | with_reducible refine run_region ?_ | with_reducible refine run_draw (by kernel_rfl) ?_); simp only [↓guardP_tt, ↓guardP_tf, ↓guardP_ft, ↓guardP_ff, guardP_t, guardP_f, evalQ, evalR, effQ, effR, skipS, opEff, evO, plainV, lkS, lkM, updL, putS, tie_sz, tie_zero, tie_zeroB, tie_fld, tie_ek, tie_int, tie_isb, tie_eq2, tie_f1, tie_ms,  ti_f1, ti_ms, ti_sz, ti_zero, ti_zeroB, ti_fld, ti_ek, ti_int, ti_isb, ti_eq2, binA, binI, intOp, funOf_v, cloOf_v, calIds, appEff, frE, foldB, foldS, castL_self, K.enc, K.dec, K.zero, K.es, K.bytes, AV.part, AV.setPart, AV.cells, AV.agg, AV.nth, Bool.false_eq_true, callEff, pubs, pub, nilAV, MM.upd, MM.set, argS, gdst, opIds, lids, AV.ids, List.getD_cons_succ, List.getD_cons_zero, List.map, List.tail, List.headD, List.nil_append, List.append_nil, List.cons_append, List.length_nil, List.length_cons, List.zip_cons_cons, List.zip_nil_right, List.set_cons_zero, List.set_cons_succ, List.replicate, Option.isSome_some, Option.map_some, Bool.not_true, Bool.not_false, forall_const, false_implies, Nat.reduceAdd, Nat.reduceEqDiff, Nat.reduceLT, Nat.reduceSub, Nat.reduceMul, Nat.reduceLeDiff, ↓reduceIte, and_true, true_and, and_self, false_and, and_false, reduceCtorEq, env1, ctTrim]) | (with_reducible refine run_cond (by with_unfolding_all exact rfl) ?_ ?_ <;> intro hc <;> (try simp only [vb, decide_eq_true_eq, decide_eq_false_iff_not, beq_iff_eq, beq_eq_false_iff_ne, bne_iff_ne, bne_eq_false_iff_eq, Bool.not_eq_true', Bool.not_eq_false', reduceCtorEq] at hc) <;> (try (first | simp (disch := omega) only [wrap64, wrapu64, wrapu32, sh32, fdiv32, Int.tdiv_eq_ediv_of_nonneg, Int.tmod_eq_emod_of_nonneg, tn_add, tn_add1, Int.toNat_natCast, Int.toNat_zero, List.drop_zero] at hc | simp only [wrapu64m, wrapu32m] at hc))) | ((with_reducible refine compat_ok ?_); kernel_rfl) | with_reducible apply And.intro | (first | simp (disch := omega) only [wrap64, wrapu64, wrapu32, sh32, fdiv32, Int.tdiv_eq_ediv_of_nonneg, Int.tmod_eq_emod_of_nonneg, tn_add, tn_add1, Int.toNat_natCast, Int.toNat_zero, List.drop_zero] | simp only [wrapu64m, wrapu32m]) | (with_reducible intro hg; (try simp only [vb, decide_eq_true_eq, decide_eq_false_iff_not, beq_iff_eq, beq_eq_false_iff_ne, bne_iff_ne, bne_eq_false_iff_eq, Bool.not_eq_true', Bool.not_eq_false', reduceCtorEq] at hg); (try (first | simp (disch := omega) only [wrap64, wrapu64, wrapu32, sh32, fdiv32, Int.tdiv_eq_ediv_of_nonneg, Int.tmod_eq_emod_of_nonneg, tn_add, tn_add1, Int.toNat_natCast, Int.toNat_zero, List.drop_zero] at hg | simp only [wrapu64m, wrapu32m] at hg))))
  all_goals try exact hp
  · simp only [finR, resAs, resA, resLe, lsLe, lkS, lkM, pubs, pub, tie_sz, ti_sz, tie_ek, ti_ek,  nilAV, MM.upd, MM.set, AV.part, AV.cells, AV.agg, List.tail, List.headD, Nat.reduceAdd, Nat.reduceEqDiff, Nat.reduceLT, ↓reduceIte, and_true, true_and, and_self, reduceCtorEq]
    refine AVle_z (trimL_length ws) ?_ ?_
    · rw [← (made_z (neg := neg) ok1).1, hg]; simp
    · intro _; have := (made_z (neg := neg) ok1).2; rw [hg] at this; simpa using this
  · simp only [finR, resAs, resA, resLe, lsLe, lkS, lkM, pubs, pub, tie_sz, ti_sz, tie_ek, ti_ek,  nilAV, MM.upd, MM.set, AV.part, AV.cells, AV.agg, List.tail, List.headD, Nat.reduceAdd, Nat.reduceEqDiff, Nat.reduceLT, ↓reduceIte, and_true, true_and, and_self, reduceCtorEq]
    refine AVle_z (trimL_length ws) ?_ ?_
    · rw [← (made_z (neg := neg) ok1).1, hg]; simp
    · intro _; have := (made_z (neg := neg) ok1).2; rw [hg] at this; simpa using this

def ctSign : Ct := fun l => match l with
  | [.z x c s] => some (s ≤ 1099511627776, vi (sgn x))
  | _ => none
theorem ok96 : Sound Tryz.prog 96 ctSign := by
  refine sound_of (fn := Tryz.f96) rfl rfl rfl tiOk env1_ok mix ?_ (by intro l p r h; unfold ctSign at h; split at h <;> cases h <;> exact Nat.le_of_ble_eq_true rfl)
  intro l p r h hp F vs hv
  unfold ctSign at h
  split at h <;> cases h
  rename_i x c s
  obtain ⟨v0, rest0, rfl, a0, hv⟩ := hv
  obtain ⟨n0, w0, a0, ok0, len0, val0, can0⟩ := open_z a0
  refine ⟨[_], ⟨_, _, rfl, a0, hv⟩, ?_⟩
  show Run Tryz.prog ti env1 12 (finR ti [.tmp 2] _) _ _ _
  repeat' (first | with_reducible refine run_seq ?_ | with_reducible refine run_block ?_ | with_reducible refine step_code ?_ | with_reducible refine step_blk ?_ | with_reducible refine run_skip ?_ | with_reducible refine run_exit ?_ | with_reducible refine exits_code ?_ | with_reducible refine exits_here ?_ | with_reducible refine exits_blk rfl ?_ | with_reducible refine exits_lp ?_ | with_reducible refine run_ret ?_ | ((first | with_reducible refine run_region ?_ | with_reducible refine run_draw (by kernel_rfl) ?_); simp only [↓guardP_tt, ↓guardP_tf, ↓guardP_ft, ↓guardP_ff, guardP_t, guardP_f, evalQ, evalR, effQ, effR, skipS, opEff, evO, plainV, lkS, lkM, updL, putS, tie_sz, tie_zero, tie_zeroB, tie_fld, tie_ek, tie_int, tie_isb, tie_eq2, tie_f1, tie_ms,  ti_f1, ti_ms, ti_sz, ti_zero, ti_zeroB, ti_fld, ti_ek, ti_int, ti_isb, ti_eq2, binA, binI, intOp, funOf_v, cloOf_v, calIds, appEff, frE, foldB, foldS, castL_self, K.enc, K.dec, K.zero, K.es, K.bytes, AV.part, AV.setPart, AV.cells, AV.agg, AV.nth, Bool.false_eq_true, callEff, pubs, pub, nilAV, MM.upd, MM.set, argS, gdst, opIds, lids, AV.ids, List.getD_cons_succ, List.getD_cons_zero, List.map, List.tail, List.headD, List.nil_append, List.append_nil, List.cons_append, List.length_nil, List.length_cons, List.zip_cons_cons, List.zip_nil_right, List.set_cons_zero, List.set_cons_succ, List.replicate, Option.isSome_some, Option.map_some, Bool.not_true, Bool.not_false, forall_const, false_implies, Nat.reduceAdd, Nat.reduceEqDiff, Nat.reduceLT, Nat.reduceSub, Nat.reduceMul, Nat.reduceLeDiff, ↓reduceIte, and_true, true_and, and_self, false_and, and_false, reduceCtorEq, env1, ctTrim]) | (with_reducible refine run_cond (by with_unfolding_all exact rfl) ?_ ?_ <;> intro hc <;> (try simp only [vb, decide_eq_true_eq, decide_eq_false_iff_not, beq_iff_eq, beq_eq_false_iff_ne, bne_iff_ne, bne_eq_false_iff_eq, Bool.not_eq_true', Bool.not_eq_false', reduceCtorEq] at hc) <;> (try (first | simp (disch := omega) only [wrap64, wrapu64, wrapu32, sh32, fdiv32, Int.tdiv_eq_ediv_of_nonneg, Int.tmod_eq_emod_of_nonneg, tn_add, tn_add1, Int.toNat_natCast, Int.toNat_zero, List.drop_zero] at hc | simp only [wrapu64m, wrapu32m] at hc))) | ((with_reducible refine compat_ok ?_); kernel_rfl) | with_reducible apply And.intro | (first | simp (disch := omega) only [wrap64, wrapu64, wrapu32, sh32, fdiv32, Int.tdiv_eq_ediv_of_nonneg, Int.tmod_eq_emod_of_nonneg, tn_add, tn_add1, Int.toNat_natCast, Int.toNat_zero, List.drop_zero] | simp only [wrapu64m, wrapu32m]) | (with_reducible intro hg; (try simp only [vb, decide_eq_true_eq, decide_eq_false_iff_not, beq_iff_eq, beq_eq_false_iff_ne, bne_iff_ne, bne_eq_false_iff_eq, Bool.not_eq_true', Bool.not_eq_false', reduceCtorEq] at hg); (try (first | simp (disch := omega) only [wrap64, wrapu64, wrapu32, sh32, fdiv32, Int.tdiv_eq_ediv_of_nonneg, Int.tmod_eq_emod_of_nonneg, tn_add, tn_add1, Int.toNat_natCast, Int.toNat_zero, List.drop_zero] at hg | simp only [wrapu64m, wrapu32m] at hg))))
  all_goals try omega
  · simp only [finR, resAs, resA, resLe, lsLe, lkS, lkM, pubs, pub, tie_sz, ti_sz, tie_ek, ti_ek,  nilAV, MM.upd, MM.set, AV.part, AV.cells, AV.agg, List.tail, List.headD, Nat.reduceAdd, Nat.reduceEqDiff, Nat.reduceLT, ↓reduceIte, and_true, true_and, and_self, reduceCtorEq]
    refine AVle_int ?_
    rw [val0, sgn_zval ok0, if_pos (List.eq_nil_of_length_eq_zero (by omega))]
  · simp only [finR, resAs, resA, resLe, lsLe, lkS, lkM, pubs, pub, tie_sz, ti_sz, tie_ek, ti_ek,  nilAV, MM.upd, MM.set, AV.part, AV.cells, AV.agg, List.tail, List.headD, Nat.reduceAdd, Nat.reduceEqDiff, Nat.reduceLT, ↓reduceIte, and_true, true_and, and_self, reduceCtorEq]
    refine AVle_int ?_
    rw [val0, sgn_zval ok0, if_neg (by intro h; simp_all), if_pos hc]
  · simp only [finR, resAs, resA, resLe, lsLe, lkS, lkM, pubs, pub, tie_sz, ti_sz, tie_ek, ti_ek,  nilAV, MM.upd, MM.set, AV.part, AV.cells, AV.agg, List.tail, List.headD, Nat.reduceAdd, Nat.reduceEqDiff, Nat.reduceLT, ↓reduceIte, and_true, true_and, and_self, reduceCtorEq]
    refine AVle_int ?_
    rw [val0, sgn_zval ok0, if_neg (by intro h; simp_all), if_neg (by simp [hc])]

def env2 : Env := fun g => match g with | 130 => some ctTrim | 133 => some ctMade | _ => none
theorem env2_ok : EnvOk Tryz.prog env2 := by
  intro g ct h
  simp only [env2] at h
  split at h <;> first | (cases h; exact ok130) | (cases h; exact ok133) | cases h
def ctFromI : Ct := fun l => match l with
  | [.v (.int .i64 n)] => some (-9223372036854775808 ≤ n ∧ n < 9223372036854775808, .z n true 2)
  | _ => none
theorem ok100 : Sound Tryz.prog 100 ctFromI := by
  refine sound_of (fn := Tryz.f100) rfl rfl rfl tiOk env2_ok mix ?_ (by intro l p r h; unfold ctFromI at h; split at h <;> cases h <;> exact Nat.le_of_ble_eq_true rfl)
  intro l p r h hp F vs hv
  unfold ctFromI at h
  split at h <;> cases h
  rename_i n
  obtain ⟨v0, rest0, rfl, a0, hv⟩ := hv
  refine ⟨[_], ⟨_, _, rfl, a0, hv⟩, ?_⟩
  show Run Tryz.prog ti env2 19 (finR ti [.cell 2 25] _) _ _ _
  repeat' (first | with_reducible refine run_seq ?_ | with_reducible refine run_block ?_ | with_reducible refine step_code ?_ | with_reducible refine step_blk ?_ | with_reducible refine run_skip ?_ | with_reducible refine run_exit ?_ | with_reducible refine exits_code ?_ | with_reducible refine exits_here ?_ | with_reducible refine exits_blk rfl ?_ | with_reducible refine exits_lp ?_ | with_reducible refine run_ret ?_ | ((first | with_reducible refine run_region ?_ | with_reducible refine run_draw (by kernel_rfl) ?_); simp only [↓guardP_tt, ↓guardP_tf, ↓guardP_ft, ↓guardP_ff, guardP_t, guardP_f, evalQ, evalR, effQ, effR, skipS, opEff, evO, plainV, lkS, lkM, updL, putS, tie_sz, tie_zero, tie_zeroB, tie_fld, tie_ek, tie_int, tie_isb, tie_eq2, tie_f1, tie_ms,  ti_f1, ti_ms, ti_sz, ti_zero, ti_zeroB, ti_fld, ti_ek, ti_int, ti_isb, ti_eq2, binA, binI, intOp, funOf_v, cloOf_v, calIds, appEff, frE, foldB, foldS, castL_self, K.enc, K.dec, K.zero, K.es, K.bytes, AV.part, AV.setPart, AV.cells, AV.agg, AV.nth, Bool.false_eq_true, callEff, pubs, pub, nilAV, MM.upd, MM.set, argS, gdst, opIds, lids, AV.ids, List.getD_cons_succ, List.getD_cons_zero, List.map, List.tail, List.headD, List.nil_append, List.append_nil, List.cons_append, List.length_nil, List.length_cons, List.zip_cons_cons, List.zip_nil_right, List.set_cons_zero, List.set_cons_succ, List.replicate, Option.isSome_some, Option.map_some, Bool.not_true, Bool.not_false, forall_const, false_implies, Nat.reduceAdd, Nat.reduceEqDiff, Nat.reduceLT, Nat.reduceSub, Nat.reduceMul, Nat.reduceLeDiff, ↓reduceIte, and_true, true_and, and_self, false_and, and_false, reduceCtorEq, env2, ctMade]) | (with_reducible refine run_cond (by with_unfolding_all exact rfl) ?_ ?_ <;> intro hc <;> (try simp only [vb, decide_eq_true_eq, decide_eq_false_iff_not, beq_iff_eq, beq_eq_false_iff_ne, bne_iff_ne, bne_eq_false_iff_eq, Bool.not_eq_true', Bool.not_eq_false', reduceCtorEq] at hc) <;> (try (first | simp (disch := omega) only [wrap64, wrapu64, wrapu32, sh32, fdiv32, Int.tdiv_eq_ediv_of_nonneg, Int.tmod_eq_emod_of_nonneg, tn_add, tn_add1, Int.toNat_natCast, Int.toNat_zero, List.drop_zero] at hc | simp only [wrapu64m, wrapu32m] at hc))) | ((with_reducible refine compat_ok ?_); kernel_rfl) | with_reducible apply And.intro | (first | simp (disch := omega) only [wrap64, wrapu64, wrapu32, sh32, fdiv32, Int.tdiv_eq_ediv_of_nonneg, Int.tmod_eq_emod_of_nonneg, tn_add, tn_add1, Int.toNat_natCast, Int.toNat_zero, List.drop_zero] | simp only [wrapu64m, wrapu32m]) | (with_reducible intro hg; (try simp only [vb, decide_eq_true_eq, decide_eq_false_iff_not, beq_iff_eq, beq_eq_false_iff_ne, bne_iff_ne, bne_eq_false_iff_eq, Bool.not_eq_true', Bool.not_eq_false', reduceCtorEq] at hg); (try (first | simp (disch := omega) only [wrap64, wrapu64, wrapu32, sh32, fdiv32, Int.tdiv_eq_ediv_of_nonneg, Int.tmod_eq_emod_of_nonneg, tn_add, tn_add1, Int.toNat_natCast, Int.toNat_zero, List.drop_zero] at hg | simp only [wrapu64m, wrapu32m] at hg))))
  all_goals try omega
  · simp only [finR, resAs, resA, resLe, lsLe, lkS, lkM, pubs, pub, tie_sz, ti_sz, tie_ek, ti_ek,  nilAV, MM.upd, MM.set, AV.part, AV.cells, AV.agg, List.tail, List.headD, Nat.reduceAdd, Nat.reduceEqDiff, Nat.reduceLT, ↓reduceIte, and_true, true_and, and_self, reduceCtorEq]
    refine AVle_zz ?_ (by decide) (fun _ => rfl)
    simp only [zval, wv, hc, decide_true, ↓reduceIte]
    omega
  · simp only [finR, resAs, resA, resLe, lsLe, lkS, lkM, pubs, pub, tie_sz, ti_sz, tie_ek, ti_ek,  nilAV, MM.upd, MM.set, AV.part, AV.cells, AV.agg, List.tail, List.headD, Nat.reduceAdd, Nat.reduceEqDiff, Nat.reduceLT, ↓reduceIte, and_true, true_and, and_self, reduceCtorEq]
    refine AVle_zz ?_ (by decide) (fun _ => rfl)
    simp only [zval, wv, hc, decide_false, ↓reduceIte]
    simp
    omega
def ctIsCan : Ct := fun l => match l with
  | [.z x c s] => some (s ≤ 1099511627776 ∧ c = true, vb true)
  | _ => none
def ctMul : Ct := fun l => match l with
  | [.lst .u32 a, .lst .u32 b] => some (a.length + b.length ≤ 1099511627776, .lst .u32 (digs (a.length + b.length) (wv a * wv b)))
  | _ => none
theorem ok134 : Sound Tryz.prog 134 ctMul := by
  refine sound_of (fn := Tryz.f134) rfl rfl rfl tiOk env0_ok mix ?_ (by intro l p r h; unfold ctMul at h; split at h <;> cases h <;> exact Nat.le_of_ble_eq_true rfl)
  intro l p r h hp F vs hv
  unfold ctMul at h
  split at h <;> cases h
  rename_i a b
  obtain ⟨v0, rest0, rfl, a0, hv⟩ := hv
  have ok0 := okW_lst a0
  obtain ⟨v1, rest1, rfl, a1, hv⟩ := hv
  have ok1 := okW_lst a1
  refine ⟨[_, _], ⟨_, _, rfl, a0, _, _, rfl, a1, hv⟩, ?_⟩
  show Run Tryz.prog ti env0 66 (finR ti [.tmp 4] _) _ _ _
  repeat' (first | with_reducible refine run_seq ?_ | with_reducible refine run_block ?_ | with_reducible refine step_code ?_ | with_reducible refine step_blk ?_ | with_reducible refine run_skip ?_ | with_reducible refine run_exit ?_ | with_reducible refine exits_code ?_ | with_reducible refine exits_here ?_ | with_reducible refine exits_blk rfl ?_ | with_reducible refine exits_lp ?_ | with_reducible refine run_ret ?_ | ((first | with_reducible refine run_region ?_ | with_reducible refine run_draw (by kernel_rfl) ?_); simp only [↓guardP_tt, ↓guardP_tf, ↓guardP_ft, ↓guardP_ff, guardP_t, guardP_f, evalQ, evalR, effQ, effR, skipS, opEff, evO, plainV, lkS, lkM, updL, putS, tie_sz, tie_zero, tie_zeroB, tie_fld, tie_ek, tie_int, tie_isb, tie_eq2, tie_f1, tie_ms,  ti_f1, ti_ms, ti_sz, ti_zero, ti_zeroB, ti_fld, ti_ek, ti_int, ti_isb, ti_eq2, binA, binI, intOp, funOf_v, cloOf_v, calIds, appEff, frE, foldB, foldS, castL_self, K.enc, K.dec, K.zero, K.es, K.bytes, AV.part, AV.setPart, AV.cells, AV.agg, AV.nth, Bool.false_eq_true, callEff, pubs, pub, nilAV, MM.upd, MM.set, argS, gdst, opIds, lids, AV.ids, List.getD_cons_succ, List.getD_cons_zero, List.map, List.tail, List.headD, List.nil_append, List.append_nil, List.cons_append, List.length_nil, List.length_cons, List.zip_cons_cons, List.zip_nil_right, List.set_cons_zero, List.set_cons_succ, List.replicate, Option.isSome_some, Option.map_some, Bool.not_true, Bool.not_false, forall_const, false_implies, Nat.reduceAdd, Nat.reduceEqDiff, Nat.reduceLT, Nat.reduceSub, Nat.reduceMul, Nat.reduceLeDiff, ↓reduceIte, and_true, true_and, and_self, false_and, and_false, reduceCtorEq, env0]) | (with_reducible refine run_cond (by with_unfolding_all exact rfl) ?_ ?_ <;> intro hc <;> (try simp only [vb, decide_eq_true_eq, decide_eq_false_iff_not, beq_iff_eq, beq_eq_false_iff_ne, bne_iff_ne, bne_eq_false_iff_eq, Bool.not_eq_true', Bool.not_eq_false', reduceCtorEq] at hc) <;> (try (first | simp (disch := omega) only [wrap64, wrapu64, wrapu32, sh32, fdiv32, Int.tdiv_eq_ediv_of_nonneg, Int.tmod_eq_emod_of_nonneg, tn_add, tn_add1, Int.toNat_natCast, Int.toNat_zero, List.drop_zero] at hc | simp only [wrapu64m, wrapu32m] at hc))) | ((with_reducible refine compat_ok ?_); kernel_rfl) | with_reducible apply And.intro | (first | simp (disch := omega) only [wrap64, wrapu64, wrapu32, sh32, fdiv32, Int.tdiv_eq_ediv_of_nonneg, Int.tmod_eq_emod_of_nonneg, tn_add, tn_add1, Int.toNat_natCast, Int.toNat_zero, List.drop_zero] | simp only [wrapu64m, wrapu32m]) | (with_reducible intro hg; (try simp only [vb, decide_eq_true_eq, decide_eq_false_iff_not, beq_iff_eq, beq_eq_false_iff_ne, bne_iff_ne, bne_eq_false_iff_eq, Bool.not_eq_true', Bool.not_eq_false', reduceCtorEq] at hg); (try (first | simp (disch := omega) only [wrap64, wrapu64, wrapu32, sh32, fdiv32, Int.tdiv_eq_ediv_of_nonneg, Int.tmod_eq_emod_of_nonneg, tn_add, tn_add1, Int.toNat_natCast, Int.toNat_zero, List.drop_zero] at hg | simp only [wrapu64m, wrapu32m] at hg))))
  all_goals try omega
  refine run_loop (ι := Nat × List Int) (fun x => ⟨[(19, vi x.1), (18, vi a.length), (17, .lst .u32 a), (5, .row 6), (0, .lst .u32 a), (1, .lst .u32 b)], [(6, some (.row 59 .u32 x.2 false))], 7⟩)
    (fun x => x.1 ≤ a.length ∧ x.2.length = a.length + b.length ∧ okW x.2 ∧ wv x.2 = wv (a.take x.1) * wv b ∧ ∀ j, x.1 + b.length ≤ j → x.2.getD j 0 = 0) (fun x => a.length - x.1) (0, List.replicate (a.length + b.length) 0) ⟨Nat.zero_le _, by simp, okW_zeros _, by simp [wv_zeros, wv], fun j _ => getD_zeros _ j⟩ ?_ ?_
  · (refine AS.le_of ?_ ?_ <;> simp only [slLe, memLe, entLe, lkS, lkM, Nat.reduceEqDiff, Nat.reduceLT, or_true, true_or, reduceCtorEq, ↓reduceIte, and_true, true_and] <;> (repeat' with_reducible apply And.intro) <;> (try (first | ((with_reducible refine AV.le_refl ?_); rfl) | with_reducible exact AV.le_junk | with_reducible exact AV.le_nil | ((with_reducible refine AV.le_int ?_); omega) | (with_reducible refine AV.le_int ?_) | (with_reducible refine AV.le_bool ?_) | ((with_reducible refine AV.le_lst ?_); try rfl) | (with_reducible refine AV.le_q ?_ ?_ ?_) | exact fun _ _ h => h | (with_reducible refine RC_qle ?_ ?_ ?_))))
  rintro ⟨i, o⟩ ⟨hi, ho1, ho2, ho3, ho4⟩
  simp only at hi ho1 ho2 ho3 ho4
  have hx := okW_getD ok0 i
  repeat' (first | with_reducible refine run_seq ?_ | with_reducible refine run_block ?_ | with_reducible refine step_code ?_ | with_reducible refine step_blk ?_ | with_reducible refine run_skip ?_ | with_reducible refine run_exit ?_ | with_reducible refine exits_code ?_ | with_reducible refine exits_here ?_ | with_reducible refine exits_blk rfl ?_ | with_reducible refine exits_lp ?_ | with_reducible refine run_ret ?_ | ((first | with_reducible refine run_region ?_ | with_reducible refine run_draw (by kernel_rfl) ?_); simp only [↓guardP_tt, ↓guardP_tf, ↓guardP_ft, ↓guardP_ff, guardP_t, guardP_f, evalQ, evalR, effQ, effR, skipS, opEff, evO, plainV, lkS, lkM, updL, putS, tie_sz, tie_zero, tie_zeroB, tie_fld, tie_ek, tie_int, tie_isb, tie_eq2, tie_f1, tie_ms,  ti_f1, ti_ms, ti_sz, ti_zero, ti_zeroB, ti_fld, ti_ek, ti_int, ti_isb, ti_eq2, binA, binI, intOp, funOf_v, cloOf_v, calIds, appEff, frE, foldB, foldS, castL_self, K.enc, K.dec, K.zero, K.es, K.bytes, AV.part, AV.setPart, AV.cells, AV.agg, AV.nth, Bool.false_eq_true, callEff, pubs, pub, nilAV, MM.upd, MM.set, argS, gdst, opIds, lids, AV.ids, List.getD_cons_succ, List.getD_cons_zero, List.map, List.tail, List.headD, List.nil_append, List.append_nil, List.cons_append, List.length_nil, List.length_cons, List.zip_cons_cons, List.zip_nil_right, List.set_cons_zero, List.set_cons_succ, List.replicate, Option.isSome_some, Option.map_some, Bool.not_true, Bool.not_false, forall_const, false_implies, Nat.reduceAdd, Nat.reduceEqDiff, Nat.reduceLT, Nat.reduceSub, Nat.reduceMul, Nat.reduceLeDiff, ↓reduceIte, and_true, true_and, and_self, false_and, and_false, reduceCtorEq, env0]) | (with_reducible refine run_cond (by with_unfolding_all exact rfl) ?_ ?_ <;> intro hc <;> (try simp only [vb, decide_eq_true_eq, decide_eq_false_iff_not, beq_iff_eq, beq_eq_false_iff_ne, bne_iff_ne, bne_eq_false_iff_eq, Bool.not_eq_true', Bool.not_eq_false', reduceCtorEq] at hc) <;> (try (first | simp (disch := omega) only [wrap64, wrapu64, wrapu32, sh32, fdiv32, Int.tdiv_eq_ediv_of_nonneg, Int.tmod_eq_emod_of_nonneg, tn_add, tn_add1, Int.toNat_natCast, Int.toNat_zero, List.drop_zero] at hc | simp only [wrapu64m, wrapu32m] at hc))) | ((with_reducible refine compat_ok ?_); kernel_rfl) | with_reducible apply And.intro | (first | simp (disch := omega) only [wrap64, wrapu64, wrapu32, sh32, fdiv32, Int.tdiv_eq_ediv_of_nonneg, Int.tmod_eq_emod_of_nonneg, tn_add, tn_add1, Int.toNat_natCast, Int.toNat_zero, List.drop_zero] | simp only [wrapu64m, wrapu32m]) | (with_reducible intro hg; (try simp only [vb, decide_eq_true_eq, decide_eq_false_iff_not, beq_iff_eq, beq_eq_false_iff_ne, bne_iff_ne, bne_eq_false_iff_eq, Bool.not_eq_true', Bool.not_eq_false', reduceCtorEq] at hg); (try (first | simp (disch := omega) only [wrap64, wrapu64, wrapu32, sh32, fdiv32, Int.tdiv_eq_ediv_of_nonneg, Int.tmod_eq_emod_of_nonneg, tn_add, tn_add1, Int.toNat_natCast, Int.toNat_zero, List.drop_zero] at hg | simp only [wrapu64m, wrapu32m] at hg))))
  all_goals try omega
  · refine run_loop (ι := Nat × List Int × Int) (fun x => ⟨[(26, vi x.1), (25, vi b.length), (24, .lst .u32 b), (8, .v (.int .u64 x.2.2)), (7, .v (.int .u32 (a.getD i 0))), (6, vi i), (19, vi i), (18, vi a.length), (17, .lst .u32 a), (5, .row 6), (0, .lst .u32 a), (1, .lst .u32 b)], [(6, some (.row 59 .u32 x.2.1 false))], 7⟩)
      (fun x => x.1 ≤ b.length ∧ x.2.1.length = a.length + b.length ∧ okW x.2.1 ∧ wv x.2.1 + x.2.2 * 4294967296 ^ (i + x.1) = wv (a.take i) * wv b + a.getD i 0 * 4294967296 ^ i * wv (b.take x.1) ∧ (∀ j, i + b.length ≤ j → x.2.1.getD j 0 = 0) ∧ 0 ≤ x.2.2 ∧ x.2.2 < 4294967296) (fun x => b.length - x.1) (0, o, 0) ⟨Nat.zero_le _, ho1, ho2, by simp [wv, ho3], ho4, by simp, by simp⟩ ?_ ?_
    · (refine AS.le_of ?_ ?_ <;> simp only [slLe, memLe, entLe, lkS, lkM, Nat.reduceEqDiff, Nat.reduceLT, or_true, true_or, reduceCtorEq, ↓reduceIte, and_true, true_and] <;> (repeat' with_reducible apply And.intro) <;> (try (first | ((with_reducible refine AV.le_refl ?_); rfl) | with_reducible exact AV.le_junk | with_reducible exact AV.le_nil | ((with_reducible refine AV.le_int ?_); omega) | (with_reducible refine AV.le_int ?_) | (with_reducible refine AV.le_bool ?_) | ((with_reducible refine AV.le_lst ?_); try rfl) | (with_reducible refine AV.le_q ?_ ?_ ?_) | exact fun _ _ h => h | (with_reducible refine RC_qle ?_ ?_ ?_))))
    rintro ⟨k, o', c⟩ ⟨hk, h1, h2, h3, h4, h5, h6⟩
    simp only at hk h1 h2 h3 h4 h5 h6
    have hy := okW_getD ok1 k
    have hz := okW_getD h2 (i + k)
    have hb := mul_bound hx.1 hx.2 hy.1 hy.2
    repeat' (first | with_reducible refine run_seq ?_ | with_reducible refine run_block ?_ | with_reducible refine step_code ?_ | with_reducible refine step_blk ?_ | with_reducible refine run_skip ?_ | with_reducible refine run_exit ?_ | with_reducible refine exits_code ?_ | with_reducible refine exits_here ?_ | with_reducible refine exits_blk rfl ?_ | with_reducible refine exits_lp ?_ | with_reducible refine run_ret ?_ | ((first | with_reducible refine run_region ?_ | with_reducible refine run_draw (by kernel_rfl) ?_); simp only [↓guardP_tt, ↓guardP_tf, ↓guardP_ft, ↓guardP_ff, guardP_t, guardP_f, evalQ, evalR, effQ, effR, skipS, opEff, evO, plainV, lkS, lkM, updL, putS, tie_sz, tie_zero, tie_zeroB, tie_fld, tie_ek, tie_int, tie_isb, tie_eq2, tie_f1, tie_ms,  ti_f1, ti_ms, ti_sz, ti_zero, ti_zeroB, ti_fld, ti_ek, ti_int, ti_isb, ti_eq2, binA, binI, intOp, funOf_v, cloOf_v, calIds, appEff, frE, foldB, foldS, castL_self, K.enc, K.dec, K.zero, K.es, K.bytes, AV.part, AV.setPart, AV.cells, AV.agg, AV.nth, Bool.false_eq_true, callEff, pubs, pub, nilAV, MM.upd, MM.set, argS, gdst, opIds, lids, AV.ids, List.getD_cons_succ, List.getD_cons_zero, List.map, List.tail, List.headD, List.nil_append, List.append_nil, List.cons_append, List.length_nil, List.length_cons, List.zip_cons_cons, List.zip_nil_right, List.set_cons_zero, List.set_cons_succ, List.replicate, Option.isSome_some, Option.map_some, Bool.not_true, Bool.not_false, forall_const, false_implies, Nat.reduceAdd, Nat.reduceEqDiff, Nat.reduceLT, Nat.reduceSub, Nat.reduceMul, Nat.reduceLeDiff, ↓reduceIte, and_true, true_and, and_self, false_and, and_false, reduceCtorEq, env0]) | (with_reducible refine run_cond (by with_unfolding_all exact rfl) ?_ ?_ <;> intro hc <;> (try simp only [vb, decide_eq_true_eq, decide_eq_false_iff_not, beq_iff_eq, beq_eq_false_iff_ne, bne_iff_ne, bne_eq_false_iff_eq, Bool.not_eq_true', Bool.not_eq_false', reduceCtorEq] at hc) <;> (try (first | simp (disch := omega) only [wrap64, wrapu64, wrapu32, sh32, fdiv32, Int.tdiv_eq_ediv_of_nonneg, Int.tmod_eq_emod_of_nonneg, tn_add, tn_add1, Int.toNat_natCast, Int.toNat_zero, List.drop_zero] at hc | simp only [wrapu64m, wrapu32m] at hc))) | ((with_reducible refine compat_ok ?_); kernel_rfl) | with_reducible apply And.intro | (first | simp (disch := omega) only [wrap64, wrapu64, wrapu32, sh32, fdiv32, Int.tdiv_eq_ediv_of_nonneg, Int.tmod_eq_emod_of_nonneg, tn_add, tn_add1, Int.toNat_natCast, Int.toNat_zero, List.drop_zero] | simp only [wrapu64m, wrapu32m]) | (with_reducible intro hg; (try simp only [vb, decide_eq_true_eq, decide_eq_false_iff_not, beq_iff_eq, beq_eq_false_iff_ne, bne_iff_ne, bne_eq_false_iff_eq, Bool.not_eq_true', Bool.not_eq_false', reduceCtorEq] at hg); (try (first | simp (disch := omega) only [wrap64, wrapu64, wrapu32, sh32, fdiv32, Int.tdiv_eq_ediv_of_nonneg, Int.tmod_eq_emod_of_nonneg, tn_add, tn_add1, Int.toNat_natCast, Int.toNat_zero, List.drop_zero] at hg | simp only [wrapu64m, wrapu32m] at hg))))
    all_goals try omega
    · have hs := wv_set (l := o') (j := i + k) (by omega) ((c + (a.getD i 0 * b.getD k 0 + o'.getD (i + k) 0)) % 4294967296)
      have ht := wv_take_succ (l := b) (i := k) (by omega)
      refine step_lp ⟨(k + 1, o'.set (i + k) ((c + (a.getD i 0 * b.getD k 0 + o'.getD (i + k) 0)) % 4294967296), (c + (a.getD i 0 * b.getD k 0 + o'.getD (i + k) 0)) / 4294967296), ⟨by simp only; omega, by simp [h1], okW_set h2 _ (by omega) (by omega), ?_, ?_, by simp only; omega, by simp only; omega⟩, by simp only; omega, ?_⟩
      · simp only
        rw [hs, ht, ← Nat.add_assoc, Int.pow_succ, Int.pow_add]
        rw [Int.pow_add] at h3
        have hd := Int.mul_ediv_add_emod (c + (a.getD i 0 * b.getD k 0 + o'.getD (i + k) 0)) 4294967296
        generalize (c + (a.getD i 0 * b.getD k 0 + o'.getD (i + k) 0)) / 4294967296 = q at *
        generalize (c + (a.getD i 0 * b.getD k 0 + o'.getD (i + k) 0)) % 4294967296 = r at *
        grind
      · intro j hj
        simp only
        rw [getD_set (by omega), if_neg (by omega)]
        exact h4 j hj
      · (refine AS.le_of ?_ ?_ <;> simp only [slLe, memLe, entLe, lkS, lkM, Nat.reduceEqDiff, Nat.reduceLT, or_true, true_or, reduceCtorEq, ↓reduceIte, and_true, true_and] <;> (repeat' with_reducible apply And.intro) <;> (try (first | ((with_reducible refine AV.le_refl ?_); rfl) | with_reducible exact AV.le_junk | with_reducible exact AV.le_nil | ((with_reducible refine AV.le_int ?_); omega) | (with_reducible refine AV.le_int ?_) | (with_reducible refine AV.le_bool ?_) | ((with_reducible refine AV.le_lst ?_); try rfl) | (with_reducible refine AV.le_q ?_ ?_ ?_) | exact fun _ _ h => h | (with_reducible refine RC_qle ?_ ?_ ?_))))
    · have e : k = b.length := by omega
      subst e
      have hs := wv_set (l := o') (j := i + b.length) (by omega) c
      have ht := wv_take_succ (l := a) (i := i) (by omega)
      refine step_lp ⟨(i + 1, o'.set (i + b.length) c), ⟨by simp only; omega, by simp [h1], okW_set h2 _ (by omega) (by omega), ?_, ?_⟩, by simp only; omega, ?_⟩
      · simp only
        rw [hs, ht, h4 _ (Nat.le_refl _)]
        rw [List.take_length] at h3
        grind
      · intro j hj
        simp only at hj ⊢
        rw [getD_set (by omega), if_neg (by omega)]
        exact h4 j (by omega)
      · (refine AS.le_of ?_ ?_ <;> simp only [slLe, memLe, entLe, lkS, lkM, Nat.reduceEqDiff, Nat.reduceLT, or_true, true_or, reduceCtorEq, ↓reduceIte, and_true, true_and] <;> (repeat' with_reducible apply And.intro) <;> (try (first | ((with_reducible refine AV.le_refl ?_); rfl) | with_reducible exact AV.le_junk | with_reducible exact AV.le_nil | ((with_reducible refine AV.le_int ?_); omega) | (with_reducible refine AV.le_int ?_) | (with_reducible refine AV.le_bool ?_) | ((with_reducible refine AV.le_lst ?_); try rfl) | (with_reducible refine AV.le_q ?_ ?_ ?_) | exact fun _ _ h => h | (with_reducible refine RC_qle ?_ ?_ ?_))))
  · simp only [finR, resAs, resA, resLe, lsLe, lkS, lkM, pubs, pub, tie_sz, ti_sz, tie_ek, ti_ek,  nilAV, MM.upd, MM.set, AV.part, AV.cells, AV.agg, List.tail, List.headD, Nat.reduceAdd, Nat.reduceEqDiff, Nat.reduceLT, ↓reduceIte, and_true, true_and, and_self, reduceCtorEq]
    refine AVle_lst (eq_digs_of ho2 ho1 ?_)
    rw [ho3, show i = a.length by omega, List.take_length]
def ctSmall : Ct := fun l => match l with
  | [.lst .u32 a, .v (.int .u64 n)] => some (a.length ≤ 1099511627776 ∧ 0 < n ∧ n < 4294967296, .tup (.tc (.lst .u32 (trimL (digs a.length (wv a / n)))) (.tc (.v (.int .u64 (wv a % n))) .tn)))
  | _ => none
theorem ok157 : Sound Tryz.prog 157 ctSmall := by
  refine sound_of (fn := Tryz.f157) rfl rfl rfl tiOk env1_ok mix ?_ (by intro l p r h; unfold ctSmall at h; split at h <;> cases h <;> exact Nat.le_of_ble_eq_true rfl)
  intro l p r h hp F vs hv
  unfold ctSmall at h
  split at h <;> cases h
  rename_i a n
  obtain ⟨v0, rest0, rfl, a0, hv⟩ := hv
  have ok0 := okW_lst a0
  obtain ⟨v1, rest1, rfl, a1, hv⟩ := hv
  refine ⟨[_, _], ⟨_, _, rfl, a0, _, _, rfl, a1, hv⟩, ?_⟩
  show Run Tryz.prog ti env1 43 (finR ti [.tmp 4, .tmp 5] _) _ _ _
  repeat' (first | with_reducible refine run_seq ?_ | with_reducible refine run_block ?_ | with_reducible refine step_code ?_ | with_reducible refine step_blk ?_ | with_reducible refine run_skip ?_ | with_reducible refine run_exit ?_ | with_reducible refine exits_code ?_ | with_reducible refine exits_here ?_ | with_reducible refine exits_blk rfl ?_ | with_reducible refine exits_lp ?_ | with_reducible refine run_ret ?_ | ((first | with_reducible refine run_region ?_ | with_reducible refine run_draw (by kernel_rfl) ?_); simp only [↓guardP_tt, ↓guardP_tf, ↓guardP_ft, ↓guardP_ff, guardP_t, guardP_f, evalQ, evalR, effQ, effR, skipS, opEff, evO, plainV, lkS, lkM, updL, putS, tie_sz, tie_zero, tie_zeroB, tie_fld, tie_ek, tie_int, tie_isb, tie_eq2, tie_f1, tie_ms,  ti_f1, ti_ms, ti_sz, ti_zero, ti_zeroB, ti_fld, ti_ek, ti_int, ti_isb, ti_eq2, binA, binI, intOp, funOf_v, cloOf_v, calIds, appEff, frE, foldB, foldS, castL_self, K.enc, K.dec, K.zero, K.es, K.bytes, AV.part, AV.setPart, AV.cells, AV.agg, AV.nth, Bool.false_eq_true, callEff, pubs, pub, nilAV, MM.upd, MM.set, argS, gdst, opIds, lids, AV.ids, List.getD_cons_succ, List.getD_cons_zero, List.map, List.tail, List.headD, List.nil_append, List.append_nil, List.cons_append, List.length_nil, List.length_cons, List.zip_cons_cons, List.zip_nil_right, List.set_cons_zero, List.set_cons_succ, List.replicate, Option.isSome_some, Option.map_some, Bool.not_true, Bool.not_false, forall_const, false_implies, Nat.reduceAdd, Nat.reduceEqDiff, Nat.reduceLT, Nat.reduceSub, Nat.reduceMul, Nat.reduceLeDiff, ↓reduceIte, and_true, true_and, and_self, false_and, and_false, reduceCtorEq, env1, ctTrim]) | (with_reducible refine run_cond (by with_unfolding_all exact rfl) ?_ ?_ <;> intro hc <;> (try simp only [vb, decide_eq_true_eq, decide_eq_false_iff_not, beq_iff_eq, beq_eq_false_iff_ne, bne_iff_ne, bne_eq_false_iff_eq, Bool.not_eq_true', Bool.not_eq_false', reduceCtorEq] at hc) <;> (try (first | simp (disch := omega) only [wrap64, wrapu64, wrapu32, sh32, fdiv32, Int.tdiv_eq_ediv_of_nonneg, Int.tmod_eq_emod_of_nonneg, tn_add, tn_add1, Int.toNat_natCast, Int.toNat_zero, List.drop_zero] at hc | simp only [wrapu64m, wrapu32m] at hc))) | ((with_reducible refine compat_ok ?_); kernel_rfl) | with_reducible apply And.intro | (first | simp (disch := omega) only [wrap64, wrapu64, wrapu32, sh32, fdiv32, Int.tdiv_eq_ediv_of_nonneg, Int.tmod_eq_emod_of_nonneg, tn_add, tn_add1, Int.toNat_natCast, Int.toNat_zero, List.drop_zero] | simp only [wrapu64m, wrapu32m]) | (with_reducible intro hg; (try simp only [vb, decide_eq_true_eq, decide_eq_false_iff_not, beq_iff_eq, beq_eq_false_iff_ne, bne_iff_ne, bne_eq_false_iff_eq, Bool.not_eq_true', Bool.not_eq_false', reduceCtorEq] at hg); (try (first | simp (disch := omega) only [wrap64, wrapu64, wrapu32, sh32, fdiv32, Int.tdiv_eq_ediv_of_nonneg, Int.tmod_eq_emod_of_nonneg, tn_add, tn_add1, Int.toNat_natCast, Int.toNat_zero, List.drop_zero] at hg | simp only [wrapu64m, wrapu32m] at hg))))
  all_goals try omega
  refine run_loop (ι := Nat × List Int × Int) (fun x => ⟨[(13, vi x.1), (12, vi a.length), (4, .row 4), (5, .v (.int .u64 x.2.2)), (0, .lst .u32 a), (1, .v (.int .u64 n))], [(4, some (.row 59 .u32 x.2.1 false))], 5⟩)
    (fun x => x.1 ≤ a.length ∧ x.2.1.length = a.length ∧ okW x.2.1 ∧ wv (a.drop (a.length - x.1)) = wv (x.2.1.drop (a.length - x.1)) * n + x.2.2 ∧ 0 ≤ x.2.2 ∧ x.2.2 < n) (fun x => a.length - x.1) (0, List.replicate a.length 0, 0) ⟨Nat.zero_le _, by simp, okW_zeros _, by simp [wv], by simp, by simp; omega⟩ ?_ ?_
  · (refine AS.le_of ?_ ?_ <;> simp only [slLe, memLe, entLe, lkS, lkM, Nat.reduceEqDiff, Nat.reduceLT, or_true, true_or, reduceCtorEq, ↓reduceIte, and_true, true_and] <;> (repeat' with_reducible apply And.intro) <;> (try (first | ((with_reducible refine AV.le_refl ?_); rfl) | with_reducible exact AV.le_junk | with_reducible exact AV.le_nil | ((with_reducible refine AV.le_int ?_); omega) | (with_reducible refine AV.le_int ?_) | (with_reducible refine AV.le_bool ?_) | ((with_reducible refine AV.le_lst ?_); try rfl) | (with_reducible refine AV.le_q ?_ ?_ ?_) | exact fun _ _ h => h | (with_reducible refine RC_qle ?_ ?_ ?_))))
  rintro ⟨j, q, r⟩ ⟨hj, h1, h2, h3, h4, h5⟩
  simp only at hj h1 h2 h3 h4 h5
  have hx := okW_getD ok0 ((a.length : Int) - 1 - j).toNat
  have hd := div_digit h4 h5 hx.1 hx.2
  repeat' (first | with_reducible refine run_seq ?_ | with_reducible refine run_block ?_ | with_reducible refine step_code ?_ | with_reducible refine step_blk ?_ | with_reducible refine run_skip ?_ | with_reducible refine run_exit ?_ | with_reducible refine exits_code ?_ | with_reducible refine exits_here ?_ | with_reducible refine exits_blk rfl ?_ | with_reducible refine exits_lp ?_ | with_reducible refine run_ret ?_ | ((first | with_reducible refine run_region ?_ | with_reducible refine run_draw (by kernel_rfl) ?_); simp only [↓guardP_tt, ↓guardP_tf, ↓guardP_ft, ↓guardP_ff, guardP_t, guardP_f, evalQ, evalR, effQ, effR, skipS, opEff, evO, plainV, lkS, lkM, updL, putS, tie_sz, tie_zero, tie_zeroB, tie_fld, tie_ek, tie_int, tie_isb, tie_eq2, tie_f1, tie_ms,  ti_f1, ti_ms, ti_sz, ti_zero, ti_zeroB, ti_fld, ti_ek, ti_int, ti_isb, ti_eq2, binA, binI, intOp, funOf_v, cloOf_v, calIds, appEff, frE, foldB, foldS, castL_self, K.enc, K.dec, K.zero, K.es, K.bytes, AV.part, AV.setPart, AV.cells, AV.agg, AV.nth, Bool.false_eq_true, callEff, pubs, pub, nilAV, MM.upd, MM.set, argS, gdst, opIds, lids, AV.ids, List.getD_cons_succ, List.getD_cons_zero, List.map, List.tail, List.headD, List.nil_append, List.append_nil, List.cons_append, List.length_nil, List.length_cons, List.zip_cons_cons, List.zip_nil_right, List.set_cons_zero, List.set_cons_succ, List.replicate, Option.isSome_some, Option.map_some, Bool.not_true, Bool.not_false, forall_const, false_implies, Nat.reduceAdd, Nat.reduceEqDiff, Nat.reduceLT, Nat.reduceSub, Nat.reduceMul, Nat.reduceLeDiff, ↓reduceIte, and_true, true_and, and_self, false_and, and_false, reduceCtorEq, env1, ctTrim]) | (with_reducible refine run_cond (by with_unfolding_all exact rfl) ?_ ?_ <;> intro hc <;> (try simp only [vb, decide_eq_true_eq, decide_eq_false_iff_not, beq_iff_eq, beq_eq_false_iff_ne, bne_iff_ne, bne_eq_false_iff_eq, Bool.not_eq_true', Bool.not_eq_false', reduceCtorEq] at hc) <;> (try (first | simp (disch := omega) only [wrap64, wrapu64, wrapu32, sh32, fdiv32, Int.tdiv_eq_ediv_of_nonneg, Int.tmod_eq_emod_of_nonneg, tn_add, tn_add1, Int.toNat_natCast, Int.toNat_zero, List.drop_zero] at hc | simp only [wrapu64m, wrapu32m] at hc))) | ((with_reducible refine compat_ok ?_); kernel_rfl) | with_reducible apply And.intro | (first | simp (disch := omega) only [wrap64, wrapu64, wrapu32, sh32, fdiv32, Int.tdiv_eq_ediv_of_nonneg, Int.tmod_eq_emod_of_nonneg, tn_add, tn_add1, Int.toNat_natCast, Int.toNat_zero, List.drop_zero] | simp only [wrapu64m, wrapu32m]) | (with_reducible intro hg; (try simp only [vb, decide_eq_true_eq, decide_eq_false_iff_not, beq_iff_eq, beq_eq_false_iff_ne, bne_iff_ne, bne_eq_false_iff_eq, Bool.not_eq_true', Bool.not_eq_false', reduceCtorEq] at hg); (try (first | simp (disch := omega) only [wrap64, wrapu64, wrapu32, sh32, fdiv32, Int.tdiv_eq_ediv_of_nonneg, Int.tmod_eq_emod_of_nonneg, tn_add, tn_add1, Int.toNat_natCast, Int.toNat_zero, List.drop_zero] at hg | simp only [wrapu64m, wrapu32m] at hg))))
  all_goals try omega
  · have e : ((a.length : Int) - 1 - j).toNat = a.length - 1 - j := by omega
    rw [e] at hx hd ⊢
    refine step_lp ⟨(j + 1, q.set (a.length - 1 - j) ((r * 4294967296 + a.getD (a.length - 1 - j) 0) / n), (r * 4294967296 + a.getD (a.length - 1 - j) 0) % n), ⟨by simp only; omega, by simp [h1], okW_set h2 _ hd.1 hd.2.1, ?_, hd.2.2.1, hd.2.2.2⟩, by simp only; omega, ?_⟩
    · simp only
      rw [show a.length - (j + 1) = a.length - 1 - j by omega, wv_drop (l := a) (by omega), wv_drop (l := q.set _ _) (by simp; omega), getD_set (by omega), if_pos rfl, drop_set_of_lt _ (by omega), show a.length - 1 - j + 1 = a.length - j by omega, h3]
      have := Int.mul_ediv_add_emod (r * 4294967296 + a.getD (a.length - 1 - j) 0) n
      grind
    · (refine AS.le_of ?_ ?_ <;> simp only [slLe, memLe, entLe, lkS, lkM, Nat.reduceEqDiff, Nat.reduceLT, or_true, true_or, reduceCtorEq, ↓reduceIte, and_true, true_and] <;> (repeat' with_reducible apply And.intro) <;> (try (first | ((with_reducible refine AV.le_refl ?_); rfl) | with_reducible exact AV.le_junk | with_reducible exact AV.le_nil | ((with_reducible refine AV.le_int ?_); omega) | (with_reducible refine AV.le_int ?_) | (with_reducible refine AV.le_bool ?_) | ((with_reducible refine AV.le_lst ?_); try rfl) | (with_reducible refine AV.le_q ?_ ?_ ?_) | exact fun _ _ h => h | (with_reducible refine RC_qle ?_ ?_ ?_))))
  · simp only [finR, resAs, resA, resLe, lsLe, lkS, lkM, pubs, pub, tie_sz, ti_sz, tie_ek, ti_ek,  nilAV, MM.upd, MM.set, AV.part, AV.cells, AV.agg, List.tail, List.headD, Nat.reduceAdd, Nat.reduceEqDiff, Nat.reduceLT, ↓reduceIte, and_true, true_and, and_self, reduceCtorEq]
    rw [show a.length - j = 0 by omega] at h3
    simp only [List.drop_zero] at h3
    have e1 : wv q = wv a / n := by rw [h3, Int.add_comm, Int.add_mul_ediv_right _ _ (by omega), Int.ediv_eq_zero_of_lt h4 h5]; omega
    have e2 : r = wv a % n := by rw [h3, Int.add_comm, Int.add_mul_emod_self_right, Int.emod_eq_of_lt h4 h5]
    exact ⟨AVle_lst (by rw [← eq_digs_of h2 h1 e1]), AVle_int e2⟩
end Go.AE
