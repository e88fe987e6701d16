/- The statement UpliftRecovers, where what it reads is of bulk at most 1048576: for every such input the law returns true, and what it reads stays. -/
import Derived.Test.YtaeicclhopehaaaRows
import Derived.Test.YtaeicclhopehaaaQR2
import Derived.Test.YtaeicclhopehaaaGn
namespace Go.Proofs.Ytaeicclhopehaaa.upliftRecovers
open Go.AE Go.ChangeShapes Go.WideShapes Go.ChangeAt Go.RowKit
set_option linter.unusedVariables false
set_option maxRecDepth 100000 in
theorem lifted (os : Os) (started : os.Started) (H : Type) (enc : TypeId × Value → H) (F : Stop.Interp) :
    ReturnsInHanded {} Try.checked os 12 .any ((Rows.OpenSpec.upto Rows.upliftRecoversSpec).pre6 enc Try.prog Try.f12 Rows.upliftRecoversUptoRow.domain false) (((Rows.OpenSpec.upto Rows.upliftRecoversSpec).at F).post enc Try.prog Try.f12 false true false false) := by
  refine returnsInHanded_of_cond (C := Try.checked) (s := (Rows.OpenSpec.upto Rows.upliftRecoversSpec)) (k := Rows.uptoSmall) rfl own started (by kernel_rfl) Try.func12
    (OpenSpec.witness (enc := enc) (C := Try.checked) (s := (Rows.OpenSpec.upto Rows.upliftRecoversSpec)) (k := Rows.uptoSmall) rfl false ⟨#[], #[.slice none 0 0, .slice none 0 0], []⟩ 8 (by kernel_rfl) (by kernel_rfl) (by kernel_rfl)
      (x := ([.nil, .nil], [], [])) (by kernel_rfl) rfl (by kernel_rfl)) ?_
  intro W base args ds gs before hval0 hW hcnd hk _
  show Calls Try.prog 12 args W fun e W' => ∃ v, e = .returned v ∧ Rows.upliftRecoversSpec.post enc Try.prog Try.f12 false true false false W args v W'
  have hval : ∀ (j : Nat) t v, Try.f12.params[j]? = some t → args[j]? = some v → Value.okWide Try.prog W .any base t v := hval0
  have hW' := hW
  obtain ⟨p, q, hA0, hV, rfl, hfz, hnd⟩ := hW
  have hA : DataW.TrodAll enc Try.prog W 0 (fun _ => true) true Try.f12.params.toList args.toList ds p := hA0
  rw [Try.params12] at hA hval
  obtain ⟨v0, vs0, d0, ds0, p0, q0, hargs, rfl, rfl, h0, r0⟩ := trodAll_cons hA
  obtain ⟨v1, vs1, d1, ds1, p1, q1, rfl, rfl, rfl, h1, r1⟩ := trodAll_cons r0
  obtain ⟨rfl, rfl, rfl⟩ := trodAll_nil r1
  obtain rfl : args = #[v0, v1] := by cases args; simp_all
  obtain ⟨rfl, rfl⟩ := trodVars_none hV
  have hbulk := of_decide_eq_true hk
  simp only [List.append_nil, Rows.uptoBulkAll] at hbulk
  have k0 := h0
  have lt0 : ∀ x ∈ p0, x.block < W.heap.size := by obtain ⟨m, hm⟩ := k0; exact DataW.trod_lt m _ _ _ hm
  have bd0 : Rows.uptoBulk d0 ≤ 1048576 := by omega
  obtain ⟨a0, g0, w0⟩ := arg_qxsB (hval 0 44 v0 rfl rfl) h0
  have k1 := h1
  have lt1 : ∀ x ∈ p1, x.block < W.heap.size := by obtain ⟨m, hm⟩ := k1; exact DataW.trod_lt m _ _ _ hm
  have bd1 : Rows.uptoBulk d1 ≤ 1048576 := by omega
  obtain ⟨a1, g1, w1⟩ := arg_qxsB (hval 1 44 v1 rfl rfl) h1
  clear hA0 hval0
  refine (true_of ok12 (W := W) (args := [v0, v1]) (ct := ctL12) (al := [.lst .qx a0, .lst .qx a1]) rfl (⟨fun x hx => ⟨Nat.le_trans (w0 x hx).1 bd0, Nat.le_trans (w0 x hx).2 bd0⟩, fun x hx => ⟨Nat.le_trans (w1 x hx).1 bd1, Nat.le_trans (w1 x hx).2 bd1⟩⟩) ⟨_, _, rfl, g0, _, _, rfl, g1, rfl⟩).mono fun e W' ⟨he, bel⟩ => ?_
  subst he
  exact ⟨_, rfl, _, _, _, [], _, [], hW', trodAll_mk1 (shut_bool Try.underlying4 _), (trodAll_cons_mk (Below.trod laidOut (by kernel_rfl) (of_decide_eq_true (by kernel_rfl)) k0 bel lt0) (trodAll_cons_mk (Below.trod laidOut (by kernel_rfl) (of_decide_eq_true (by kernel_rfl)) k1 bel lt1) trodAll_mk0)), rfl, bel.frame _, fun h => by cases h⟩
theorem over : Rows.upliftRecoversUptoRow.holds Try.pinned (Rows.OpenSpec.upto Rows.upliftRecoversSpec) :=
  OpenClaim.holds_of_cond 12 Try.f12 rfl rfl rfl rfl rfl rfl rfl ⟨rfl, rfl, rfl, rfl, rfl⟩ rfl rfl rfl rfl rfl (by kernel_rfl) Try.func12 (by kernel_rfl)
    (of_decide_eq_true (by kernel_rfl)) (by unfold Func.isWrapper; first | (rw [if_pos (by decide +kernel)]; kernel_rfl) | (rw [if_neg (by decide +kernel)]; exact ⟨rfl, rfl⟩))
    (fun os started H enc _ F => lifted os started H enc F)
end Go.Proofs.Ytaeicclhopehaaa.upliftRecovers
namespace Go.Proofs.Ytaeicclhopehaaa
/-- UpliftRecovers: for every input of bulk at most 1048576 the law returns true. -/
theorem upliftRecoversUpto_holds : Rows.UpliftRecoversUptoSaid := upliftRecovers.over
#print axioms upliftRecoversUpto_holds
end Go.Proofs.Ytaeicclhopehaaa
