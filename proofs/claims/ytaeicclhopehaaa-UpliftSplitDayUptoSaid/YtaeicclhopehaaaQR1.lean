/- How small numbers among the arguments read. -/
import Derived.Test.YtaeicclhopehaaaQR0
namespace Go.AE
open Go.Proofs Go.RowKit Go.ChangeShapes Go.WideShapes Go.ChangeAt
set_option linter.unusedVariables false
set_option maxRecDepth 20000
section
variable {H : Type} {enc : TypeId × Value → H} {W : World} {base b0 : Nat} {spare : Nat → Bool} {held : Bool} {v : Value} {d : DataW H} {p : List MemPlace} {r : Reach}
theorem arg_u16 (hval : Value.okWide Try.prog W r b0 86 v) (h : DataW.Trod enc Try.prog W base spare held 86 v d p) : ∃ n : Int, RVp (heapF W) (.v (.int .u16 n)) v ∧ 0 ≤ n ∧ n < 65536 := by
  obtain ⟨n, rfl, _, _, hw⟩ := open_int Try.underlying86 hval h
  simp only [Lit.wf, Bool.and_eq_true, decide_eq_true_eq, show IntKind.u16.min = 0 from rfl, show IntKind.u16.max = 65535 from rfl] at hw
  exact ⟨n, ⟨rfl, rfl⟩, hw.1, by omega⟩
theorem arg_u8 (hval : Value.okWide Try.prog W r b0 5 v) (h : DataW.Trod enc Try.prog W base spare held 5 v d p) : ∃ n : Int, RVp (heapF W) (.v (.int .u8 n)) v ∧ 0 ≤ n ∧ n < 256 := by
  obtain ⟨n, rfl, _, _, hw⟩ := open_int Try.underlying5 hval h
  simp only [Lit.wf, Bool.and_eq_true, decide_eq_true_eq, show IntKind.u8.min = 0 from rfl, show IntKind.u8.max = 255 from rfl] at hw
  exact ⟨n, ⟨rfl, rfl⟩, hw.1, by omega⟩
end
end Go.AE
