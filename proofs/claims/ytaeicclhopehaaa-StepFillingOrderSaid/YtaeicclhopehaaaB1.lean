/- What is known of the program's types, and that it is so. -/
import Derived.Test.YtaeicclhopehaaaAeG
import Derived.Test.YtaeicclhopehaaaProg
import Derived.KernelRfl
import Derived.Laws.StructEq
namespace Go.AE
open Go.Proofs Go.RowKit
set_option linter.unusedVariables false
set_option linter.unusedSimpArgs false
set_option maxRecDepth 20000

def ti_sz : TypeId → Option (Nat × Bool) := fun t => match t with
    | 2 => some (1, false) | 3 => some (1, false) | 4 => some (1, false) | 5 => some (1, false) | 72 => some (1, false) | 86 => some (1, false) | 136 => some (1, false) | 137 => some (1, false) | 37 => some (1, false)
    | 22 => some (1, false) | 29 => some (1, false) | 42 => some (1, false) | 44 => some (1, false) | 109 => some (1, false) | 122 => some (1, false) | 124 => some (1, false) | 151 => some (1, false) | 155 => some (1, false) | 71 => some (1, false) | 117 => some (1, false) | 119 => some (1, true)
    | 26 => some (2, true) | 31 => some (2, true) | 33 => some (4, true) | 93 => some (4, true) | 53 => some (9, true) | 69 => some (4, true) | 111 => some (5, true) | 130 => some (5, true)
    | _ => none
def ti_zero : TypeId → Option AV := fun t => match t with
    | 2 => some (vi 0) | 3 => some (vi 0) | 4 => some (vb false) | 37 => some (vi 0)
    | 22 => some (.lst .stp []) | 29 => some (.lst .u32 []) | 42 => some (.lst .bool []) | 44 => some (.lst .q []) | 109 => some (.lst .way []) | 122 => some (.lst .i64 []) | 155 => some (.lst .i64 [])
    | 26 => some (.pair (vi 0) (vi 0)) | 31 => some (.pair (vb false) (.lst .u32 [])) | 33 => some (.pair (.z 0 true 0) (.z 0 true 0)) | 93 => some (.pair (.z 0 true 0) (.z 0 true 0))
    | 53 => some (.pair (vi 0) (.pair (vi 0) (.pair (.lst .stp []) (.pair (vi 0) (.pair (vi 0) (.pair (vi 0) (.pair (vi 0) (.pair (vi 0) (vi 0)))))))))
    | 69 => some (.pair (.lst .stp []) (.pair (vi 0) (.pair (vi 0) (vi 0))))
    | 111 => some (.pair (.q 0 true 0) (.lst .bool []))
    | _ => none
def ti_zeroB : TypeId → Option AV := fun t => match t with
    | 26 => some (.pair (vi 0) (vi 0)) | 31 => some (.pair (vb false) (.lst .u32 [])) | 33 => some (.pair (.z 0 true 0) (.z 0 true 0)) | 93 => some (.pair (.z 0 true 0) (.z 0 true 0))
    | 53 => some (.pair (vi 0) (.pair (vi 0) (.pair (.lst .stp []) (.pair (vi 0) (.pair (vi 0) (.pair (vi 0) (.pair (vi 0) (.pair (vi 0) (vi 0)))))))))
    | 69 => some (.pair (.lst .stp []) (.pair (vi 0) (.pair (vi 0) (vi 0))))
    | 111 => some (.pair (.q 0 true 0) (.lst .bool []))
    | _ => none
def ti_fld : TypeId → Nat → Option (Nat × Nat) := fun t j => match t, j with
    | 26, 0 => some (0, 1) | 26, 1 => some (1, 1) | 31, 0 => some (0, 1) | 31, 1 => some (1, 1)
    | 33, 0 => some (0, 2) | 33, 1 => some (2, 2) | 93, 0 => some (0, 2) | 93, 1 => some (2, 2)
    | 53, 0 => some (0, 1) | 53, 1 => some (1, 1) | 53, 2 => some (2, 1) | 53, 3 => some (3, 1) | 53, 4 => some (4, 1) | 53, 5 => some (5, 1) | 53, 6 => some (6, 1) | 53, 7 => some (7, 1) | 53, 8 => some (8, 1)
    | 69, 0 => some (0, 1) | 69, 1 => some (1, 1) | 69, 2 => some (2, 1) | 69, 3 => some (3, 1)
    | 111, 0 => some (0, 4) | 111, 1 => some (4, 1) | 130, 0 => some (0, 1) | 130, 1 => some (1, 4) | 119, 0 => some (0, 1)
    | _, _ => none
def ti_ek : TypeId → Option (TypeId × K) := fun t => match t with
    | 22 => some (26, .stp) | 29 => some (72, .u32) | 42 => some (4, .bool) | 44 => some (33, .q) | 71 => some (69, .ex) | 109 => some (111, .way) | 122 => some (2, .i64) | 124 => some (44, .qs) | 151 => some (42, .bs) | 155 => some (3, .i64)
    | _ => none
def ti_int : TypeId → Option IntKind := fun t => match t with
    | 2 => some .i64 | 3 => some .i64 | 5 => some .u8 | 72 => some .u32 | 86 => some .u16 | 136 => some .u64 | 137 => some .u64 | 37 => some .i64
    | _ => none
def ti_isb : TypeId → Bool := fun t => match t with | 4 => true | _ => false
def ti_eq2 : TypeId → Bool := fun t => match t with | 26 => true | _ => false
def ti_f1 : TypeId → Nat → Option (Nat × Nat × Bool) := fun t j => match t, j with | 140, 0 => some (0, 1, false) | 93, 0 => some (0, 2, true) | 93, 1 => some (2, 2, true) | 33, 0 => some (0, 2, true) | 33, 1 => some (2, 2, true) | _, _ => none
def ti_ms : TypeId → Bool := fun t => match t with | 141 => true | _ => false
def ti : TI := ⟨ti_sz, ti_zero, ti_zeroB, ti_fld, ti_ek, ti_int, ti_isb, ti_eq2, ti_f1, ti_ms⟩
theorem tie_sz : ti.sz = ti_sz := rfl
theorem tie_zero : ti.zero = ti_zero := rfl
theorem tie_zeroB : ti.zeroB = ti_zeroB := rfl
theorem tie_fld : ti.fld = ti_fld := rfl
theorem tie_ek : ti.ek = ti_ek := rfl
theorem tie_int : ti.int = ti_int := rfl
theorem tie_isb : ti.isb = ti_isb := rfl
theorem tie_eq2 : ti.eq2 = ti_eq2 := rfl
theorem tie_f1 : ti.f1 = ti_f1 := rfl
theorem tie_ms : ti.ms = ti_ms := rfl

theorem mix : Try.prog.follows .mixedOrders = true := by kernel_rfl

theorem rl_nil {α : Type} (F : Fz) (es : Nat) (R : α → List Value → Prop) : RL F es R [] (.slice none 0 0) := ⟨none, 0, rfl, by simp, fun h => absurd rfl h⟩
theorem rz_zero (F : Fz) : RZ F 0 true 0 [.bool false, .slice none 0 0] := ⟨false, _, [], rfl, rl_nil _ _ _, by simp, rfl, fun _ => ⟨by simp, fun h => by cases h⟩⟩
theorem rq_zero (F : Fz) : RQ F 0 true 0 [.bool false, .slice none 0 0, .bool false, .slice none 0 0] :=
  ⟨0, 0, _, _, true, true, rfl, rz_zero F, rz_zero F, by simp [qval], fun _ => ⟨rfl, rfl, .inl rfl⟩⟩
theorem rc_i (F : Fz) (n : Int) : RC F (vi n) [.int .i64 n] := ⟨rfl, rfl⟩
theorem rc_l (F : Fz) (k : K) : RC F (.lst k []) [.slice none 0 0] := ⟨_, rfl, rl_nil _ _ _⟩
theorem rc_p {F : Fz} {a b : AV} {c d : List Value} (h : RC F a c) (g : RC F b d) : RC F (.pair a b) (c ++ d) := ⟨_, _, rfl, h, g⟩

theorem rc_b (F : Fz) (b : Bool) : RC F (vb b) [.bool b] := ⟨rfl, rfl⟩
theorem rc_z (F : Fz) : RC F (.z 0 true 0) [.bool false, .slice none 0 0] := rz_zero F
theorem rc_q (F : Fz) : RC F (.q 0 true 0) [.bool false, .slice none 0 0, .bool false, .slice none 0 0] := rq_zero F
theorem rc_unit (F : Fz) : RC F (.pair (vi 0) (.pair (vi 0) (.pair (.lst .stp []) (.pair (vi 0) (.pair (vi 0) (.pair (vi 0) (.pair (vi 0) (.pair (vi 0) (vi 0))))))))) [.int .i64 0, .int .i64 0, .slice none 0 0, .int .i64 0, .int .i64 0, .int .i64 0, .int .i64 0, .int .i64 0, .int .i64 0] :=
  rc_p (rc_i F 0) (rc_p (rc_i F 0) (rc_p (rc_l F _) (rc_p (rc_i F 0) (rc_p (rc_i F 0) (rc_p (rc_i F 0) (rc_p (rc_i F 0) (rc_p (rc_i F 0) (rc_i F 0))))))))
theorem rc_ex (F : Fz) : RC F (.pair (.lst .stp []) (.pair (vi 0) (.pair (vi 0) (vi 0)))) [.slice none 0 0, .int .i64 0, .int .i64 0, .int .i64 0] :=
  rc_p (rc_l F _) (rc_p (rc_i F 0) (rc_p (rc_i F 0) (rc_i F 0)))

theorem eq2_any {P : Program} {t t2 : TypeId} {f1 f2 : Field} (h0 : P.underlying t = some (.struct #[f1, f2])) (h1 : f1.name = "Qty") (h2 : f1.type = t2) (h3 : f1.offset = 0) (h4 : f2.name = "Price") (h5 : f2.type = t2) (h6 : f2.offset = 1)
    (e1 : P.underlying t2 = some (.int .i64)) (e3 : P.eqGuardType P.depth t = false) (e4 : P.stoodInHeld t = false) (x y : Operand) (a b c d : Int) (w : World) :
    (do eqGuard .eql t x y (.agg #[.int .i64 a, .int .i64 b]) (.agg #[.int .i64 c, .int .i64 d]); binOp .eql t (.agg #[.int .i64 a, .int .i64 b]) (.agg #[.int .i64 c, .int .i64 d])).run P w = .ok (.bool (a == c && b == d)) w ∧
    (do eqGuard .neq t x y (.agg #[.int .i64 a, .int .i64 b]) (.agg #[.int .i64 c, .int .i64 d]); binOp .neq t (.agg #[.int .i64 a, .int .i64 b]) (.agg #[.int .i64 c, .int .i64 d])).run P w = .ok (.bool (!(a == c && b == d))) w := by
  have key : (Op.equal t (.agg #[.int .i64 a, .int .i64 b]) (.agg #[.int .i64 c, .int .i64 d])).run P w = .ok (a == c && b == d) w := by
    unfold Op.equal
    rw [show Op.maxDepth = 9998 + 1 + 1 from rfl]
    have hi : ∀ (p q : Int) (n : Nat), (Op.equalIn (n+1) t2 (.int .i64 p) (.int .i64 q)).run P w = .ok (p == q) w := by
      intro p q n
      rw [Op.equalIn.eq_2]
      simp [run_underlying e1]
    have hp : ∀ (p q : Int) , (part t2 #[.int .i64 p, .int .i64 q] 0).run P w = .ok (.int .i64 p) w := by
      intro p q
      simp [part, isAgg, run_underlying e1]
    have hp1 : ∀ (p q : Int) , (part t2 #[.int .i64 p, .int .i64 q] 1).run P w = .ok (.int .i64 q) w := by
      intro p q
      simp [part, isAgg, run_underlying e1]
    have hf : P.fieldsOf t = #[f1, f2] := by simp [Program.fieldsOf, h0]
    rw [run_equalIn_struct (P := P) w _ t _ _ (by rw [hf]; exact h0) e4, hf]
    simp only [Op.eqFields, h1, h2, h3, h4, h5, h6, Sem.run_bind, hp, hi, Result.andThen_ok, if_pos (show ("Qty" : String) ≠ "_" by decide), if_pos (show ("Price" : String) ≠ "_" by decide)]
    by_cases hac : a = c <;> by_cases hbd : b = d <;> simp [hac, hbd, hp1, hi, show (9999 : Nat) = 9998 + 1 from rfl]
  constructor
  · simp [eqGuard, e3, binOp, key]
  · simp [eqGuard, e3, binOp, key]
theorem tiOk : TIOk Try.prog ti where
  sz := by
    intro t n b h
    simp only [ti, ti_sz, ti_zero, ti_zeroB, ti_fld, ti_ek, ti_int, ti_isb, ti_eq2, ti_f1, ti_ms] at h
    split at h <;> first | (cases h; exact ⟨rfl, rfl⟩) | cases h
  zero := by
    intro t a h
    simp only [ti, ti_sz, ti_zero, ti_zeroB, ti_fld, ti_ek, ti_int, ti_isb, ti_eq2, ti_f1, ti_ms] at h
    split at h <;> first
      | (cases h; first
          | exact ⟨_, rfl, fun F => rc_i F 0⟩
          | exact ⟨_, rfl, fun F => rc_b F false⟩
          | exact ⟨_, rfl, fun F => rc_l F _⟩
          | exact ⟨_, rfl, fun F => rc_p (rc_i F 0) (rc_i F 0)⟩
          | exact ⟨_, rfl, fun F => rc_p (rc_b F false) (rc_l F _)⟩
          | exact ⟨_, rfl, fun F => rc_p (rc_z F) (rc_z F)⟩
          | exact ⟨_, rfl, fun F => rc_unit F⟩
          | exact ⟨_, rfl, fun F => rc_ex F⟩
          | exact ⟨_, rfl, fun F => rc_p (rc_q F) (rc_l F _)⟩)
      | cases h
  zeroB := by
    intro t a h
    simp only [ti, ti_sz, ti_zero, ti_zeroB, ti_fld, ti_ek, ti_int, ti_isb, ti_eq2, ti_f1, ti_ms] at h
    have key : ∀ t' j off n, ti.fld t' j = some (off, n) → j < 9 := by
      intro t' j off n h
      simp only [ti, ti_sz, ti_zero, ti_zeroB, ti_fld, ti_ek, ti_int, ti_isb, ti_eq2, ti_f1, ti_ms] at h
      split at h <;> first | (cases h; decide) | cases h
    split at h <;> first
      | (cases h
         refine ⟨_, _, _, rfl, ?_, rfl, rfl, rfl, ?_⟩
         · first
             | exact fun F => rc_p (rc_i F 0) (rc_i F 0)
             | exact fun F => rc_p (rc_b F false) (rc_l F _)
             | exact fun F => rc_p (rc_z F) (rc_z F)
             | exact fun F => rc_unit F
             | exact fun F => rc_ex F
             | exact fun F => rc_p (rc_q F) (rc_l F _)
         · intro j off n h
           have hj := key _ _ _ _ h
           have : j = 0 ∨ j = 1 ∨ j = 2 ∨ j = 3 ∨ j = 4 ∨ j = 5 ∨ j = 6 ∨ j = 7 ∨ j = 8 := by omega
           rcases this with rfl | rfl | rfl | rfl | rfl | rfl | rfl | rfl | rfl <;> first | (cases h; rfl) | cases h)
      | cases h
  fld := by
    intro t j off n h
    simp only [ti, ti_sz, ti_zero, ti_zeroB, ti_fld, ti_ek, ti_int, ti_isb, ti_eq2, ti_f1, ti_ms] at h
    split at h <;> first | (cases h; exact ⟨_, _, _, rfl, rfl, rfl, rfl, rfl, by decide⟩) | cases h
  ek := by
    intro t e k h
    simp only [ti, ti_sz, ti_zero, ti_zeroB, ti_fld, ti_ek, ti_int, ti_isb, ti_eq2, ti_f1, ti_ms] at h
    split at h <;> first
      | (cases h; refine ⟨rfl, _, _, rfl, rfl, rfl, rfl, rfl, ?_⟩
         intro F
         first
           | exact (rfl : _ = _)
           | exact ⟨rfl, by decide, by decide⟩
           | exact rq_zero F
           | exact ⟨_, rfl, rl_nil _ _ _⟩
           | exact ⟨_, _, rfl, rq_zero F, rl_nil _ _ _⟩)
      | cases h
  int := by
    intro t k h
    simp only [ti, ti_sz, ti_zero, ti_zeroB, ti_fld, ti_ek, ti_int, ti_isb, ti_eq2, ti_f1, ti_ms] at h
    split at h <;> first | (cases h; rfl) | cases h
  isb := by
    intro t h
    simp only [ti, ti_sz, ti_zero, ti_zeroB, ti_fld, ti_ek, ti_int, ti_isb, ti_eq2, ti_f1, ti_ms] at h
    split at h <;> first | rfl | cases h
  eq2 := by
    intro t h x y a b c d w
    simp only [ti, ti_sz, ti_zero, ti_zeroB, ti_fld, ti_ek, ti_int, ti_isb, ti_eq2, ti_f1, ti_ms] at h
    split at h
    · exact eq2_any (t2 := 2) rfl rfl rfl rfl rfl rfl rfl rfl (by kernel_rfl) (by kernel_rfl) x y a b c d w
    · cases h
  f1 := by
    intro t j off n b h
    simp only [ti, ti_sz, ti_zero, ti_zeroB, ti_fld, ti_ek, ti_int, ti_isb, ti_eq2, ti_f1, ti_ms] at h
    split at h <;> first | (cases h; exact ⟨_, _, _, rfl, rfl, rfl, rfl, rfl, rfl, rfl, fun h => by first | rfl | cases h⟩) | cases h
  ms := by
    intro t h
    simp only [ti, ti_sz, ti_zero, ti_zeroB, ti_fld, ti_ek, ti_int, ti_isb, ti_eq2, ti_f1, ti_ms] at h
    split at h <;> first | exact ⟨_, _, rfl, rfl⟩ | cases h
end Go.AE
