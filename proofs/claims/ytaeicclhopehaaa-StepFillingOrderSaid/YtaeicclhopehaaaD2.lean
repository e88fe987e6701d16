/- Contracts: package unit, its states. -/
import Derived.Test.YtaeicclhopehaaaD1
namespace Go.AE
open Go.Proofs Go.RowKit
set_option linter.unusedVariables false
set_option linter.unusedSimpArgs false
set_option maxRecDepth 20000

def okU (u : U) : Prop := (0 ≤ u.min ∧ u.min ≤ maxU u) ∧ (0 ≤ u.spin ∧ u.spin ≤ 1000000) ∧ (1 ≤ u.up ∧ u.up ≤ 6) ∧ (1 ≤ u.down ∧ u.down ≤ 6) ∧ (-6 ≤ u.on ∧ u.on ≤ 6) ∧ u.on ≠ 0 ∧ (0 ≤ u.start ∧ u.start ≤ 1000000000) ∧ (0 ≤ u.idle ∧ u.idle ≤ 1000000000)
instance (u : U) : Decidable (okU u) := by unfold okU; infer_instance
def checkU (u : U) (n : Int) : Int := if ¬ (0 ≤ u.bus ∧ u.bus ≤ n - 1) ∨ n < 1 then 1 else if offK u.steps ≠ 0 then offK u.steps else if okU u then 0 else 1
def env24 : Env := fun g => match g with | 44 => some ctOffer | 65 => some ctMaxU | 122 => some ctWithin | 90 => some ctWithin | _ => none
theorem env24_ok : EnvOk Try.prog env24 := by
  intro g ct h
  simp only [env24] at h
  split at h <;> first | (cases h; exact ok44) | (cases h; exact ok65) | (cases h; exact ok122) | (cases h; exact ok90) | cases h
def ctCheckU : Ct := fun l => match l with
  | [a, .v (.int .i64 n)] => match uOf a with
    | some u => some (u.steps.length ≤ 1099511627776 ∧ 0 ≤ n ∧ n ≤ 1000, vi (checkU u n))
    | none => none
  | _ => none
theorem ok97 : Sound Try.prog 97 ctCheckU := by
  refine sound_of (fn := Try.f97) rfl rfl rfl tiOk env24_ok mix ?_ (by intro l p r h; unfold ctCheckU at h; split at h <;> first | cases h | (split at h <;> cases h; exact Nat.le_of_ble_eq_true rfl))
  intro l p r h hp F vs hv
  unfold ctCheckU at h
  split at h
  rotate_left
  · cases h
  split at h <;> cases h
  rename_i n _ u hu
  obtain rfl := uOf_eq hu
  refine ⟨_, hv, ?_⟩
  have heta : maxU ⟨u.bus, u.min, u.steps, u.up, u.down, u.start, u.idle, u.spin, u.on⟩ = maxU u := rfl
  show Run Try.prog ti env24 71 (finR ti [.tmp 4] _) _ _ _
  repeat' (first | with_reducible refine run_seq ?_ | with_reducible refine run_block ?_ | with_reducible refine step_code ?_ | with_reducible refine step_blk ?_ | with_reducible refine run_skip ?_ | with_reducible refine run_exit ?_ | with_reducible refine exits_code ?_ | with_reducible refine exits_here ?_ | with_reducible refine exits_blk rfl ?_ | with_reducible refine exits_lp ?_ | with_reducible refine run_ret ?_ | (with_reducible refine run_region ?_; simp only [↓guardP_tt, ↓guardP_tf, ↓guardP_ft, ↓guardP_ff, guardP_t, guardP_f, evalQ, evalR, effQ, effR, skipS, opEff, evO, plainV, lkS, lkM, updL, putS, tie_sz, tie_zero, tie_zeroB, tie_fld, tie_ek, tie_int, tie_isb, tie_eq2, tie_f1, tie_ms,  ti_f1, ti_ms, ti_sz, ti_zero, ti_zeroB, ti_fld, ti_ek, ti_int, ti_isb, ti_eq2, binA, binI, intOp, appEff, foldB, foldS, castL_self, K.enc, K.dec, K.zero, K.es, K.bytes, AV.part, AV.setPart, AV.cells, AV.agg, AV.nth, Bool.false_eq_true, callEff, pubs, pub, nilAV, MM.upd, MM.set, argS, gdst, opIds, lids, AV.ids, List.getD_cons_succ, List.getD_cons_zero, List.map, List.tail, List.headD, List.nil_append, List.append_nil, List.cons_append, List.length_nil, List.length_cons, List.zip_cons_cons, List.zip_nil_right, List.set_cons_zero, List.set_cons_succ, List.replicate, Option.isSome_some, Option.map_some, Bool.not_true, Bool.not_false, forall_const, false_implies, Nat.reduceAdd, Nat.reduceEqDiff, Nat.reduceLT, Nat.reduceSub, Nat.reduceMul, Nat.reduceLeDiff, ↓reduceIte, and_true, true_and, and_self, false_and, and_false, reduceCtorEq, env24, ctOffer, ctMaxU, ctWithin, uOf, heta]) | (with_reducible refine run_draw (by kernel_rfl) ?_; simp only [↓guardP_tt, ↓guardP_tf, ↓guardP_ft, ↓guardP_ff, guardP_t, guardP_f, evalQ, evalR, effQ, effR, skipS, opEff, evO, plainV, lkS, lkM, updL, putS, tie_sz, tie_zero, tie_zeroB, tie_fld, tie_ek, tie_int, tie_isb, tie_eq2, tie_f1, tie_ms,  ti_f1, ti_ms, ti_sz, ti_zero, ti_zeroB, ti_fld, ti_ek, ti_int, ti_isb, ti_eq2, binA, binI, intOp, appEff, foldB, foldS, castL_self, K.enc, K.dec, K.zero, K.es, K.bytes, AV.part, AV.setPart, AV.cells, AV.agg, AV.nth, Bool.false_eq_true, callEff, pubs, pub, nilAV, MM.upd, MM.set, argS, gdst, opIds, lids, AV.ids, List.getD_cons_succ, List.getD_cons_zero, List.map, List.tail, List.headD, List.nil_append, List.append_nil, List.cons_append, List.length_nil, List.length_cons, List.zip_cons_cons, List.zip_nil_right, List.set_cons_zero, List.set_cons_succ, List.replicate, Option.isSome_some, Option.map_some, Bool.not_true, Bool.not_false, forall_const, false_implies, Nat.reduceAdd, Nat.reduceEqDiff, Nat.reduceLT, Nat.reduceSub, Nat.reduceMul, Nat.reduceLeDiff, ↓reduceIte, and_true, true_and, and_self, false_and, and_false, reduceCtorEq, env24, ctOffer, ctMaxU, ctWithin, uOf, heta]) | (with_reducible refine run_cond (by with_unfolding_all exact rfl) ?_ ?_ <;> intro hc <;> (try simp only [vb, decide_eq_true_eq, decide_eq_false_iff_not, beq_iff_eq, beq_eq_false_iff_ne, bne_iff_ne, bne_eq_false_iff_eq, Bool.not_eq_true', Bool.not_eq_false', reduceCtorEq] at hc) <;> (try (first | simp (disch := omega) only [wrap64, wrapu64, wrapu32, sh32, fdiv32, Int.tdiv_eq_ediv_of_nonneg, Int.tmod_eq_emod_of_nonneg, tn_add, tn_add1, Int.toNat_natCast, Int.toNat_zero, List.drop_zero] at hc | simp only [wrapu64m, wrapu32m] at hc))) | ((with_reducible refine compat_ok ?_); kernel_rfl) | with_reducible apply And.intro | (first | simp (disch := omega) only [wrap64, wrapu64, wrapu32, sh32, fdiv32, Int.tdiv_eq_ediv_of_nonneg, Int.tmod_eq_emod_of_nonneg, tn_add, tn_add1, Int.toNat_natCast, Int.toNat_zero, List.drop_zero] | simp only [wrapu64m, wrapu32m]) | (with_reducible intro hg; (try simp only [vb, decide_eq_true_eq, decide_eq_false_iff_not, beq_iff_eq, beq_eq_false_iff_ne, bne_iff_ne, bne_eq_false_iff_eq, Bool.not_eq_true', Bool.not_eq_false', reduceCtorEq] at hg); (try (first | simp (disch := omega) only [wrap64, wrapu64, wrapu32, sh32, fdiv32, Int.tdiv_eq_ediv_of_nonneg, Int.tmod_eq_emod_of_nonneg, tn_add, tn_add1, Int.toNat_natCast, Int.toNat_zero, List.drop_zero] at hg | simp only [wrapu64m, wrapu32m] at hg))))
  all_goals try omega
  all_goals
    simp only [finR, resAs, resA, resLe, lsLe, lkS, lkM, pubs, pub, tie_sz, ti_sz, tie_ek, ti_ek,  nilAV, MM.upd, MM.set, AV.part, AV.cells, AV.agg, List.tail, List.headD, Nat.reduceAdd, Nat.reduceEqDiff, Nat.reduceLT, ↓reduceIte, and_true, true_and, and_self, reduceCtorEq]
    refine AVle_int ?_
    symm
    first
      | (rw [checkU, if_pos (by omega)])
      | (rw [checkU, if_neg (by omega), if_pos (by assumption)])
      | (rw [checkU, if_neg (by omega), if_neg (by simp only [ne_eq, Decidable.not_not]; assumption), if_pos (by unfold okU; omega)])
      | (rw [checkU, if_neg (by omega), if_neg (by simp only [ne_eq, Decidable.not_not]; assumption), if_neg (by unfold okU; omega)])
end Go.AE
