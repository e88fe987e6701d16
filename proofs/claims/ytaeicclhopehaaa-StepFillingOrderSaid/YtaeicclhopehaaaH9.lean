/- By hand: step.rising, step.falling. -/
import Derived.Test.YtaeicclhopehaaaH8
namespace Go.AE
open Go.Proofs Go.RowKit Go.Shelf
set_option linter.unusedVariables false
set_option linter.unusedSimpArgs false
set_option maxRecDepth 20000
attribute [local go_sem] Oper.semAt_some

set_option maxRecDepth 100000 in
set_option maxHeartbeats 1000000 in
theorem rising_in (F : Fence) (n : Nat) (hf : F.fn 93) (hro : F.round = none) (w : World) :
    CallsIn F n Try.prog 93 #[] w fun e w' => e = .returned (.agg #[.func (.func 120) #[] #[]]) ∧ Below w.heap.size w w' := by
  refine callsIn_of_wp Try.func93 rfl hf ?_ hro
  simp only [Try.ntmps93, List.size_toArray, List.length_cons, List.length_nil, Nat.reduceAdd, Nat.reduceSub, Array.replicate_succ, Array.replicate_zero, List.push_toArray, List.append_toArray, List.nil_append, List.cons_append]
  gi_wp2
  refine bodyPost_ret (v := .agg #[.func (.func 120) #[] #[]]) ?_ rfl ⟨rfl, (Below.refl _ w).alloc (Nat.le_refl _) _⟩
  simp [results, Try.f93, go_sem]
set_option maxRecDepth 100000 in
set_option maxHeartbeats 1000000 in
theorem falling_in (F : Fence) (n : Nat) (hf : F.fn 95) (hro : F.round = none) (w : World) :
    CallsIn F n Try.prog 95 #[] w fun e w' => e = .returned (.agg #[.func (.func 121) #[] #[]]) ∧ Below w.heap.size w w' := by
  refine callsIn_of_wp Try.func95 rfl hf ?_ hro
  simp only [Try.ntmps95, List.size_toArray, List.length_cons, List.length_nil, Nat.reduceAdd, Nat.reduceSub, Array.replicate_succ, Array.replicate_zero, List.push_toArray, List.append_toArray, List.nil_append, List.cons_append]
  gi_wp2
  refine bodyPost_ret (v := .agg #[.func (.func 121) #[] #[]]) ?_ rfl ⟨rfl, (Below.refl _ w).alloc (Nat.le_refl _) _⟩
  simp [results, Try.f95, go_sem]

def ctRise (g : Nat) : Ct := fun l => match l with
  | [] => some (True, .one (.func (.func g) #[] #[]))
  | _ => none
theorem ok93 : Sound Try.prog 93 (ctRise 120) := by
  refine ⟨⟨Try.f93, _, rfl, rfl, rfl⟩, ?_⟩
  intro l p r h hp w F args hF hv
  unfold ctRise at h
  split at h <;> cases h
  obtain rfl : args = [] := hv
  refine Calls.mono (wide_calls (rising_in Fence.wide 5 trivial rfl w)) ?_
  rintro e w' ⟨rfl, hB⟩
  obtain ⟨f1, f2, f3⟩ := Fz.all_ok hF hB
  exact ⟨F.all w w', _, f1, f2, f3, hB, rfl, (show ∃ cs, RC _ (.one (.func (.func 120) #[] #[])) cs ∧ Value.agg #[.func (.func 120) #[] #[]] = .agg cs.toArray from ⟨[_], ⟨rfl, rfl⟩, rfl⟩)⟩
theorem ok95 : Sound Try.prog 95 (ctRise 121) := by
  refine ⟨⟨Try.f95, _, rfl, rfl, rfl⟩, ?_⟩
  intro l p r h hp w F args hF hv
  unfold ctRise at h
  split at h <;> cases h
  obtain rfl : args = [] := hv
  refine Calls.mono (wide_calls (falling_in Fence.wide 5 trivial rfl w)) ?_
  rintro e w' ⟨rfl, hB⟩
  obtain ⟨f1, f2, f3⟩ := Fz.all_ok hF hB
  exact ⟨F.all w w', _, f1, f2, f3, hB, rfl, (show ∃ cs, RC _ (.one (.func (.func 121) #[] #[])) cs ∧ Value.agg #[.func (.func 121) #[] #[]] = .agg cs.toArray from ⟨[_], ⟨rfl, rfl⟩, rfl⟩)⟩
end Go.AE
