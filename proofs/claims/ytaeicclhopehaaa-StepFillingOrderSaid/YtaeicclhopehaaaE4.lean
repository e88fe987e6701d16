/- The chapter's examples hold: awake. -/
import Derived.Test.YtaeicclhopehaaaE3
namespace Go.AE
open Go.Proofs Go.RowKit
set_option linter.unusedVariables false
set_option linter.unusedSimpArgs false
set_option maxRecDepth 20000

def env41 : Env := fun g => match g with | 48 => some ctSteps | 22 => some ctIntR | 31 => some ctAlloc | 32 => some ctCost | 44 => some ctOffer | 45 => some ctBid | 20 => some ctSum | 21 => some ctCosts | 66 => some ctRows | 51 => some ctWanted | _ => none
theorem env41_ok : EnvOk Try.prog env41 := by
  intro g ct h
  simp only [env41] at h
  split at h <;> first | (cases h; exact ok48) | (cases h; exact ok22) | (cases h; exact ok31) | (cases h; exact ok32) | (cases h; exact ok44) | (cases h; exact ok45) | (cases h; exact ok20) | (cases h; exact ok21) | (cases h; exact ok66) | (cases h; exact ok51) | cases h
def ctAwake : Ct := fun l => match l with
  | [] => some (True, vb true)
  | _ => none
abbrev lA : List Stp := [(10, 3), (5, 7)]
abbrev mA : List Stp := [(4, 9), (4, 2)]
theorem aw1 : offK lA = 0 := by decide +kernel
theorem aw2 : bidK lA = 3 := by decide +kernel
theorem aw3 : bidK mA = 0 := by decide +kernel
theorem aw4 : sumK lA = 15 := by decide +kernel
theorem aw5 : allE lA ((12 : Int) : Rat) = 0 := by decide +kernel
theorem aw6 : allE lA ((16 : Int) : Rat) = 1 := by decide +kernel
theorem aw7 : costK lA ((12 : Int) : Rat) = ((44 : Int) : Rat) := by decide +kernel
theorem aw8 : allE mA ((6 : Int) : Rat) = 0 ∧ costK mA ((6 : Int) : Rat) = ((40 : Int) : Rat) := by decide +kernel
theorem aw9 : offK [(0, 1)] = 1 := by decide +kernel
theorem aw10 : supL lA ((5 : Int) : Rat) = 10 ∧ supM lA ((5 : Int) : Rat) = 10 := by decide +kernel
theorem aw11 : supL lA ((7 : Int) : Rat) = 10 ∧ supM lA ((7 : Int) : Rat) = 15 := by decide +kernel
theorem aw12 : supL lA ((3 : Int) : Rat) = 0 ∧ supM lA ((3 : Int) : Rat) = 10 := by decide +kernel
theorem aw13 : demL mA ((9 : Int) : Rat) = 0 ∧ demM mA ((9 : Int) : Rat) = 4 := by decide +kernel
theorem aw14 : (alR lA ((12 : Int) : Rat) 2).map (·.x) = [((10 : Int) : Rat), ((2 : Int) : Rat)] := by decide +kernel
theorem aw15 : ∀ v ∈ alR lA ((12 : Int) : Rat) 2, v.c = true ∧ v.s ≤ 1099511627776 := by
  rw [alR, if_pos aw5]
  intro v hv
  obtain ⟨i, hi, rfl⟩ := List.mem_map.1 hv
  have hi2 : i < 2 := by simpa using hi
  have := sAt_le (s := 2) (i := i) (by omega)
  exact ⟨rfl, by simp only; omega⟩
theorem aw16 : (alR lA ((12 : Int) : Rat) 2).length = 2 := by decide +kernel
theorem ok19 : Sound Try.prog 19 ctAwake := by
  refine sound_of (fn := Try.f19) rfl rfl rfl tiOk env41_ok mix ?_ (by intro l p r h; unfold ctAwake at h; split at h <;> cases h; exact Nat.le_of_ble_eq_true rfl)
  intro l p r h hp F vs hv
  unfold ctAwake at h
  split at h <;> cases h
  refine ⟨_, hv, ?_⟩
  show Run Try.prog ti env41 94 (finR ti [.tmp 0] _) _ _ _
  repeat' (first | with_reducible refine run_seq ?_ | with_reducible refine run_block ?_ | with_reducible refine step_code ?_ | with_reducible refine step_blk ?_ | with_reducible refine run_skip ?_ | with_reducible refine run_exit ?_ | with_reducible refine exits_code ?_ | with_reducible refine exits_here ?_ | with_reducible refine exits_blk rfl ?_ | with_reducible refine exits_lp ?_ | with_reducible refine run_ret ?_ | (with_reducible refine run_region ?_; simp only [↓guardP_tt, ↓guardP_tf, ↓guardP_ft, ↓guardP_ff, guardP_t, guardP_f, evalQ, evalR, effQ, effR, skipS, opEff, evO, plainV, lkS, lkM, updL, putS, tie_sz, tie_zero, tie_zeroB, tie_fld, tie_ek, tie_int, tie_isb, tie_eq2, tie_f1, tie_ms, tie2_sz, tie2_zero, tie2_zeroB, tie2_fld, tie2_ek, tie2_int, tie2_isb, tie2_eq2, tie2_f1, tie2_ms, ti_ek2, ti_f1, ti_ms, ti_sz, ti_zero, ti_zeroB, ti_fld, ti_ek, ti_int, ti_isb, ti_eq2, binA, binI, intOp, appEff, foldB, foldS, castL_self, K.enc, K.dec, K.zero, K.es, K.bytes, AV.part, AV.setPart, AV.cells, AV.agg, AV.nth, Bool.false_eq_true, callEff, pubs, pub, nilAV, MM.upd, MM.set, argS, gdst, opIds, lids, AV.ids, List.getD_cons_succ, List.getD_cons_zero, List.map, List.tail, List.headD, List.nil_append, List.append_nil, List.cons_append, List.length_nil, List.length_cons, List.zip_cons_cons, List.zip_nil_right, List.set_cons_zero, List.set_cons_succ, List.replicate, Option.isSome_some, Option.map_some, Bool.not_true, Bool.not_false, forall_const, false_implies, Nat.reduceAdd, Nat.reduceEqDiff, Nat.reduceLT, Nat.reduceSub, Nat.reduceMul, Nat.reduceLeDiff, ↓reduceIte, and_true, true_and, and_self, false_and, and_false, reduceCtorEq, env41, ctSteps, stepL, ctIntR, ctAlloc, ctCost, ctOffer, ctBid, ctSum, ctCosts, ctRows, ctWanted, qA, qC, List.append_eq, List.toList_toArray, aw1, aw2, aw3, aw4, aw5, aw6, aw7, aw8, aw9, aw10, aw11, aw12, aw13, aw14, beq_self_eq_true, decide_true, Int.reduceBEq, and_self, List.map_cons, List.map_nil, Bool.and_true, Bool.true_and]) | (with_reducible refine run_draw (by kernel_rfl) ?_; simp only [↓guardP_tt, ↓guardP_tf, ↓guardP_ft, ↓guardP_ff, guardP_t, guardP_f, evalQ, evalR, effQ, effR, skipS, opEff, evO, plainV, lkS, lkM, updL, putS, tie_sz, tie_zero, tie_zeroB, tie_fld, tie_ek, tie_int, tie_isb, tie_eq2, tie_f1, tie_ms, tie2_sz, tie2_zero, tie2_zeroB, tie2_fld, tie2_ek, tie2_int, tie2_isb, tie2_eq2, tie2_f1, tie2_ms, ti_ek2, ti_f1, ti_ms, ti_sz, ti_zero, ti_zeroB, ti_fld, ti_ek, ti_int, ti_isb, ti_eq2, binA, binI, intOp, appEff, foldB, foldS, castL_self, K.enc, K.dec, K.zero, K.es, K.bytes, AV.part, AV.setPart, AV.cells, AV.agg, AV.nth, Bool.false_eq_true, callEff, pubs, pub, nilAV, MM.upd, MM.set, argS, gdst, opIds, lids, AV.ids, List.getD_cons_succ, List.getD_cons_zero, List.map, List.tail, List.headD, List.nil_append, List.append_nil, List.cons_append, List.length_nil, List.length_cons, List.zip_cons_cons, List.zip_nil_right, List.set_cons_zero, List.set_cons_succ, List.replicate, Option.isSome_some, Option.map_some, Bool.not_true, Bool.not_false, forall_const, false_implies, Nat.reduceAdd, Nat.reduceEqDiff, Nat.reduceLT, Nat.reduceSub, Nat.reduceMul, Nat.reduceLeDiff, ↓reduceIte, and_true, true_and, and_self, false_and, and_false, reduceCtorEq, env41, ctSteps, stepL, ctIntR, ctAlloc, ctCost, ctOffer, ctBid, ctSum, ctCosts, ctRows, ctWanted, qA, qC, List.append_eq, List.toList_toArray, aw1, aw2, aw3, aw4, aw5, aw6, aw7, aw8, aw9, aw10, aw11, aw12, aw13, aw14, beq_self_eq_true, decide_true, Int.reduceBEq, and_self, List.map_cons, List.map_nil, Bool.and_true, Bool.true_and]) | (with_reducible refine run_cond (by with_unfolding_all exact rfl) ?_ ?_ <;> intro hc <;> (try simp only [vb, decide_eq_true_eq, decide_eq_false_iff_not, beq_iff_eq, beq_eq_false_iff_ne, bne_iff_ne, bne_eq_false_iff_eq, Bool.not_eq_true', Bool.not_eq_false', reduceCtorEq] at hc) <;> (try (first | simp (disch := omega) only [wrap64, wrapu64, wrapu32, sh32, fdiv32, Int.tdiv_eq_ediv_of_nonneg, Int.tmod_eq_emod_of_nonneg, tn_add, tn_add1, Int.toNat_natCast, Int.toNat_zero, List.drop_zero] at hc | simp only [wrapu64m, wrapu32m] at hc))) | ((with_reducible refine compat_ok ?_); kernel_rfl) | with_reducible apply And.intro | (first | simp (disch := omega) only [wrap64, wrapu64, wrapu32, sh32, fdiv32, Int.tdiv_eq_ediv_of_nonneg, Int.tmod_eq_emod_of_nonneg, tn_add, tn_add1, Int.toNat_natCast, Int.toNat_zero, List.drop_zero] | simp only [wrapu64m, wrapu32m]) | (with_reducible intro hg; (try simp only [vb, decide_eq_true_eq, decide_eq_false_iff_not, beq_iff_eq, beq_eq_false_iff_ne, bne_iff_ne, bne_eq_false_iff_eq, Bool.not_eq_true', Bool.not_eq_false', reduceCtorEq] at hg); (try (first | simp (disch := omega) only [wrap64, wrapu64, wrapu32, sh32, fdiv32, Int.tdiv_eq_ediv_of_nonneg, Int.tmod_eq_emod_of_nonneg, tn_add, tn_add1, Int.toNat_natCast, Int.toNat_zero, List.drop_zero] at hg | simp only [wrapu64m, wrapu32m] at hg))))
  all_goals try omega
  · rw [aw16]; decide
  · exact (aw15 _ hg).1
  · exact (aw15 _ hg).2
  · simp only [List.mem_cons, List.not_mem_nil, or_false] at hg
    rcases hg with rfl | rfl <;> rfl
  · simp only [List.mem_cons, List.not_mem_nil, or_false] at hg
    rcases hg with rfl | rfl <;> decide
  · simp only [finR, resAs, resA, resLe, lsLe, lkS, lkM, pubs, pub, tie_sz, ti_sz, tie_ek, ti_ek, tie2_sz, tie2_ek, ti_ek2, nilAV, MM.upd, MM.set, AV.part, AV.cells, AV.agg, List.tail, List.headD, Nat.reduceAdd, Nat.reduceEqDiff, Nat.reduceLT, ↓reduceIte, and_true, true_and, and_self, reduceCtorEq]
    exact AVle.rfl
end Go.AE
