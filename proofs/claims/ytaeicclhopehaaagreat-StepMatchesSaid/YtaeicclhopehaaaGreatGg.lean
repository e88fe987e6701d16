/- Contracts: package unit. Contracts: package unit, its states. Contracts: package unit, states and schedules. Contracts: package unit, next states and schedules. Contracts: package path, hours and profits. States under other names of their own blocks: for loops that append. Plain lemmas: digits in base 2^16. -/
import Derived.Test.YtaeicclhopehaaaGreatGf
namespace Go.AE
open Go.Proofs Go.RowKit
set_option linter.unusedVariables false
set_option linter.unusedSimpArgs false
set_option maxRecDepth 20000

structure U where
  bus : Int
  min : Int
  steps : List Stp
  up : Int
  down : Int
  start : Int
  idle : Int
  spin : Int
  on : Int
def uOf : AV → Option U
  | .pair (.v (.int .i64 a)) (.pair (.v (.int .i64 b)) (.pair (.lst .stp l) (.pair (.v (.int .i64 c)) (.pair (.v (.int .i64 d)) (.pair (.v (.int .i64 e)) (.pair (.v (.int .i64 f)) (.pair (.v (.int .i64 g)) (.v (.int .i64 h))))))))) => some ⟨a, b, l, c, d, e, f, g, h⟩
  | _ => none
abbrev uAV (u : U) : AV := .pair (vi u.bus) (.pair (vi u.min) (.pair (.lst .stp u.steps) (.pair (vi u.up) (.pair (vi u.down) (.pair (vi u.start) (.pair (vi u.idle) (.pair (vi u.spin) (vi u.on))))))))
theorem uOf_eq {a : AV} {u : U} (h : uOf a = some u) : a = uAV u := by
  unfold uOf at h
  split at h <;> cases h
  rfl
def ctWithin : Ct := fun l => match l with
  | [.v (.int .i64 n), .v (.int .i64 a), .v (.int .i64 b)] => some (True, vb (decide (a ≤ n ∧ n ≤ b)))
  | _ => none
theorem ok106 : Sound Tryz.prog 106 ctWithin := by
  refine sound_of (fn := Tryz.f106) rfl rfl rfl tiOk env0_ok mix ?_ (by intro l p r h; unfold ctWithin at h; split at h <;> cases h <;> exact Nat.le_of_ble_eq_true rfl)
  intro l p r h hp F vs hv
  unfold ctWithin at h
  split at h <;> cases h
  rename_i n a b
  obtain ⟨v0, rest0, rfl, a0, hv⟩ := hv
  obtain ⟨v1, rest1, rfl, a1, hv⟩ := hv
  obtain ⟨v2, rest2, rfl, a2, hv⟩ := hv
  refine ⟨[_, _, _], ⟨_, _, rfl, a0, _, _, rfl, a1, _, _, rfl, a2, hv⟩, ?_⟩
  show Run Tryz.prog ti env0 15 (finR ti [.tmp 6] _) _ _ _
  repeat' (first | with_reducible refine run_seq ?_ | with_reducible refine run_block ?_ | with_reducible refine step_code ?_ | with_reducible refine step_blk ?_ | with_reducible refine run_skip ?_ | with_reducible refine run_exit ?_ | with_reducible refine exits_code ?_ | with_reducible refine exits_here ?_ | with_reducible refine exits_blk rfl ?_ | with_reducible refine exits_lp ?_ | with_reducible refine run_ret ?_ | ((first | with_reducible refine run_region ?_ | with_reducible refine run_draw (by kernel_rfl) ?_); simp only [↓guardP_tt, ↓guardP_tf, ↓guardP_ft, ↓guardP_ff, guardP_t, guardP_f, evalQ, evalR, effQ, effR, skipS, opEff, evO, plainV, lkS, lkM, updL, putS, tie_sz, tie_zero, tie_zeroB, tie_fld, tie_ek, tie_int, tie_isb, tie_eq2, tie_f1, tie_ms,  ti_f1, ti_ms, ti_sz, ti_zero, ti_zeroB, ti_fld, ti_ek, ti_int, ti_isb, ti_eq2, binA, binI, intOp, funOf_v, cloOf_v, calIds, appEff, frE, foldB, foldS, castL_self, K.enc, K.dec, K.zero, K.es, K.bytes, AV.part, AV.setPart, AV.cells, AV.agg, AV.nth, Bool.false_eq_true, callEff, pubs, pub, nilAV, MM.upd, MM.set, argS, gdst, opIds, lids, AV.ids, List.getD_cons_succ, List.getD_cons_zero, List.map, List.tail, List.headD, List.nil_append, List.append_nil, List.cons_append, List.length_nil, List.length_cons, List.zip_cons_cons, List.zip_nil_right, List.set_cons_zero, List.set_cons_succ, List.replicate, Option.isSome_some, Option.map_some, Bool.not_true, Bool.not_false, forall_const, false_implies, Nat.reduceAdd, Nat.reduceEqDiff, Nat.reduceLT, Nat.reduceSub, Nat.reduceMul, Nat.reduceLeDiff, ↓reduceIte, and_true, true_and, and_self, false_and, and_false, reduceCtorEq, env0]) | (with_reducible refine run_cond (by with_unfolding_all exact rfl) ?_ ?_ <;> intro hc <;> (try simp only [vb, decide_eq_true_eq, decide_eq_false_iff_not, beq_iff_eq, beq_eq_false_iff_ne, bne_iff_ne, bne_eq_false_iff_eq, Bool.not_eq_true', Bool.not_eq_false', reduceCtorEq] at hc) <;> (try (first | simp (disch := omega) only [wrap64, wrapu64, wrapu32, sh32, fdiv32, Int.tdiv_eq_ediv_of_nonneg, Int.tmod_eq_emod_of_nonneg, tn_add, tn_add1, Int.toNat_natCast, Int.toNat_zero, List.drop_zero] at hc | simp only [wrapu64m, wrapu32m] at hc))) | ((with_reducible refine compat_ok ?_); kernel_rfl) | with_reducible apply And.intro | (first | simp (disch := omega) only [wrap64, wrapu64, wrapu32, sh32, fdiv32, Int.tdiv_eq_ediv_of_nonneg, Int.tmod_eq_emod_of_nonneg, tn_add, tn_add1, Int.toNat_natCast, Int.toNat_zero, List.drop_zero] | simp only [wrapu64m, wrapu32m]) | (with_reducible intro hg; (try simp only [vb, decide_eq_true_eq, decide_eq_false_iff_not, beq_iff_eq, beq_eq_false_iff_ne, bne_iff_ne, bne_eq_false_iff_eq, Bool.not_eq_true', Bool.not_eq_false', reduceCtorEq] at hg); (try (first | simp (disch := omega) only [wrap64, wrapu64, wrapu32, sh32, fdiv32, Int.tdiv_eq_ediv_of_nonneg, Int.tmod_eq_emod_of_nonneg, tn_add, tn_add1, Int.toNat_natCast, Int.toNat_zero, List.drop_zero] at hg | simp only [wrapu64m, wrapu32m] at hg))))
  · simp only [finR, resAs, resA, resLe, lsLe, lkS, lkM, pubs, pub, tie_sz, ti_sz, tie_ek, ti_ek,  nilAV, MM.upd, MM.set, AV.part, AV.cells, AV.agg, List.tail, List.headD, Nat.reduceAdd, Nat.reduceEqDiff, Nat.reduceLT, ↓reduceIte, and_true, true_and, and_self, reduceCtorEq]
    exact AVle_bool (by simp only [decide_eq_decide]; omega)
  · simp only [finR, resAs, resA, resLe, lsLe, lkS, lkM, pubs, pub, tie_sz, ti_sz, tie_ek, ti_ek,  nilAV, MM.upd, MM.set, AV.part, AV.cells, AV.agg, List.tail, List.headD, Nat.reduceAdd, Nat.reduceEqDiff, Nat.reduceLT, ↓reduceIte, and_true, true_and, and_self, reduceCtorEq]
    exact AVle_bool (by symm; rw [decide_eq_false_iff_not]; omega)
theorem ok105 : Sound Tryz.prog 105 ctWithin := by
  refine sound_of (fn := Tryz.f105) rfl rfl rfl tiOk env0_ok mix ?_ (by intro l p r h; unfold ctWithin at h; split at h <;> cases h <;> exact Nat.le_of_ble_eq_true rfl)
  intro l p r h hp F vs hv
  unfold ctWithin at h
  split at h <;> cases h
  rename_i n a b
  obtain ⟨v0, rest0, rfl, a0, hv⟩ := hv
  obtain ⟨v1, rest1, rfl, a1, hv⟩ := hv
  obtain ⟨v2, rest2, rfl, a2, hv⟩ := hv
  refine ⟨[_, _, _], ⟨_, _, rfl, a0, _, _, rfl, a1, _, _, rfl, a2, hv⟩, ?_⟩
  show Run Tryz.prog ti env0 15 (finR ti [.tmp 6] _) _ _ _
  repeat' (first | with_reducible refine run_seq ?_ | with_reducible refine run_block ?_ | with_reducible refine step_code ?_ | with_reducible refine step_blk ?_ | with_reducible refine run_skip ?_ | with_reducible refine run_exit ?_ | with_reducible refine exits_code ?_ | with_reducible refine exits_here ?_ | with_reducible refine exits_blk rfl ?_ | with_reducible refine exits_lp ?_ | with_reducible refine run_ret ?_ | ((first | with_reducible refine run_region ?_ | with_reducible refine run_draw (by kernel_rfl) ?_); simp only [↓guardP_tt, ↓guardP_tf, ↓guardP_ft, ↓guardP_ff, guardP_t, guardP_f, evalQ, evalR, effQ, effR, skipS, opEff, evO, plainV, lkS, lkM, updL, putS, tie_sz, tie_zero, tie_zeroB, tie_fld, tie_ek, tie_int, tie_isb, tie_eq2, tie_f1, tie_ms,  ti_f1, ti_ms, ti_sz, ti_zero, ti_zeroB, ti_fld, ti_ek, ti_int, ti_isb, ti_eq2, binA, binI, intOp, funOf_v, cloOf_v, calIds, appEff, frE, foldB, foldS, castL_self, K.enc, K.dec, K.zero, K.es, K.bytes, AV.part, AV.setPart, AV.cells, AV.agg, AV.nth, Bool.false_eq_true, callEff, pubs, pub, nilAV, MM.upd, MM.set, argS, gdst, opIds, lids, AV.ids, List.getD_cons_succ, List.getD_cons_zero, List.map, List.tail, List.headD, List.nil_append, List.append_nil, List.cons_append, List.length_nil, List.length_cons, List.zip_cons_cons, List.zip_nil_right, List.set_cons_zero, List.set_cons_succ, List.replicate, Option.isSome_some, Option.map_some, Bool.not_true, Bool.not_false, forall_const, false_implies, Nat.reduceAdd, Nat.reduceEqDiff, Nat.reduceLT, Nat.reduceSub, Nat.reduceMul, Nat.reduceLeDiff, ↓reduceIte, and_true, true_and, and_self, false_and, and_false, reduceCtorEq, env0]) | (with_reducible refine run_cond (by with_unfolding_all exact rfl) ?_ ?_ <;> intro hc <;> (try simp only [vb, decide_eq_true_eq, decide_eq_false_iff_not, beq_iff_eq, beq_eq_false_iff_ne, bne_iff_ne, bne_eq_false_iff_eq, Bool.not_eq_true', Bool.not_eq_false', reduceCtorEq] at hc) <;> (try (first | simp (disch := omega) only [wrap64, wrapu64, wrapu32, sh32, fdiv32, Int.tdiv_eq_ediv_of_nonneg, Int.tmod_eq_emod_of_nonneg, tn_add, tn_add1, Int.toNat_natCast, Int.toNat_zero, List.drop_zero] at hc | simp only [wrapu64m, wrapu32m] at hc))) | ((with_reducible refine compat_ok ?_); kernel_rfl) | with_reducible apply And.intro | (first | simp (disch := omega) only [wrap64, wrapu64, wrapu32, sh32, fdiv32, Int.tdiv_eq_ediv_of_nonneg, Int.tmod_eq_emod_of_nonneg, tn_add, tn_add1, Int.toNat_natCast, Int.toNat_zero, List.drop_zero] | simp only [wrapu64m, wrapu32m]) | (with_reducible intro hg; (try simp only [vb, decide_eq_true_eq, decide_eq_false_iff_not, beq_iff_eq, beq_eq_false_iff_ne, bne_iff_ne, bne_eq_false_iff_eq, Bool.not_eq_true', Bool.not_eq_false', reduceCtorEq] at hg); (try (first | simp (disch := omega) only [wrap64, wrapu64, wrapu32, sh32, fdiv32, Int.tdiv_eq_ediv_of_nonneg, Int.tmod_eq_emod_of_nonneg, tn_add, tn_add1, Int.toNat_natCast, Int.toNat_zero, List.drop_zero] at hg | simp only [wrapu64m, wrapu32m] at hg))))
  · simp only [finR, resAs, resA, resLe, lsLe, lkS, lkM, pubs, pub, tie_sz, ti_sz, tie_ek, ti_ek,  nilAV, MM.upd, MM.set, AV.part, AV.cells, AV.agg, List.tail, List.headD, Nat.reduceAdd, Nat.reduceEqDiff, Nat.reduceLT, ↓reduceIte, and_true, true_and, and_self, reduceCtorEq]
    exact AVle_bool (by simp only [decide_eq_decide]; omega)
  · simp only [finR, resAs, resA, resLe, lsLe, lkS, lkM, pubs, pub, tie_sz, ti_sz, tie_ek, ti_ek,  nilAV, MM.upd, MM.set, AV.part, AV.cells, AV.agg, List.tail, List.headD, Nat.reduceAdd, Nat.reduceEqDiff, Nat.reduceLT, ↓reduceIte, and_true, true_and, and_self, reduceCtorEq]
    exact AVle_bool (by symm; rw [decide_eq_false_iff_not]; omega)
def maxU (u : U) : Int := if offK u.steps = 0 then sumK u.steps else 0
def env23 : Env := fun g => match g with | 22 => some ctOffer | 26 => some ctSum | _ => none
theorem env23_ok : EnvOk Tryz.prog env23 := by
  intro g ct h
  simp only [env23] at h
  split at h <;> first | (cases h; exact ok22) | (cases h; exact ok26) | cases h
def ctMaxU : Ct := fun l => match l with
  | [a] => match uOf a with
    | some u => some (u.steps.length ≤ 1099511627776, vi (maxU u))
    | none => none
  | _ => none
theorem ok107 : Sound Tryz.prog 107 ctMaxU := by
  refine sound_of (fn := Tryz.f107) rfl rfl rfl tiOk env23_ok mix ?_ (by intro l p r h; unfold ctMaxU at h; split at h <;> first | cases h | (split at h <;> cases h; exact Nat.le_of_ble_eq_true rfl))
  intro l p r h hp F vs hv
  unfold ctMaxU at h
  split at h
  rotate_left
  · cases h
  split at h <;> cases h
  rename_i u hu
  obtain rfl := uOf_eq hu
  refine ⟨_, hv, ?_⟩
  show Run Tryz.prog ti env23 10 (finR ti [.tmp 2] _) _ _ _
  repeat' (first | with_reducible refine run_seq ?_ | with_reducible refine run_block ?_ | with_reducible refine step_code ?_ | with_reducible refine step_blk ?_ | with_reducible refine run_skip ?_ | with_reducible refine run_exit ?_ | with_reducible refine exits_code ?_ | with_reducible refine exits_here ?_ | with_reducible refine exits_blk rfl ?_ | with_reducible refine exits_lp ?_ | with_reducible refine run_ret ?_ | ((first | with_reducible refine run_region ?_ | with_reducible refine run_draw (by kernel_rfl) ?_); simp only [↓guardP_tt, ↓guardP_tf, ↓guardP_ft, ↓guardP_ff, guardP_t, guardP_f, evalQ, evalR, effQ, effR, skipS, opEff, evO, plainV, lkS, lkM, updL, putS, tie_sz, tie_zero, tie_zeroB, tie_fld, tie_ek, tie_int, tie_isb, tie_eq2, tie_f1, tie_ms,  ti_f1, ti_ms, ti_sz, ti_zero, ti_zeroB, ti_fld, ti_ek, ti_int, ti_isb, ti_eq2, binA, binI, intOp, funOf_v, cloOf_v, calIds, appEff, frE, foldB, foldS, castL_self, K.enc, K.dec, K.zero, K.es, K.bytes, AV.part, AV.setPart, AV.cells, AV.agg, AV.nth, Bool.false_eq_true, callEff, pubs, pub, nilAV, MM.upd, MM.set, argS, gdst, opIds, lids, AV.ids, List.getD_cons_succ, List.getD_cons_zero, List.map, List.tail, List.headD, List.nil_append, List.append_nil, List.cons_append, List.length_nil, List.length_cons, List.zip_cons_cons, List.zip_nil_right, List.set_cons_zero, List.set_cons_succ, List.replicate, Option.isSome_some, Option.map_some, Bool.not_true, Bool.not_false, forall_const, false_implies, Nat.reduceAdd, Nat.reduceEqDiff, Nat.reduceLT, Nat.reduceSub, Nat.reduceMul, Nat.reduceLeDiff, ↓reduceIte, and_true, true_and, and_self, false_and, and_false, reduceCtorEq, env23, ctOffer, ctSum]) | (with_reducible refine run_cond (by with_unfolding_all exact rfl) ?_ ?_ <;> intro hc <;> (try simp only [vb, decide_eq_true_eq, decide_eq_false_iff_not, beq_iff_eq, beq_eq_false_iff_ne, bne_iff_ne, bne_eq_false_iff_eq, Bool.not_eq_true', Bool.not_eq_false', reduceCtorEq] at hc) <;> (try (first | simp (disch := omega) only [wrap64, wrapu64, wrapu32, sh32, fdiv32, Int.tdiv_eq_ediv_of_nonneg, Int.tmod_eq_emod_of_nonneg, tn_add, tn_add1, Int.toNat_natCast, Int.toNat_zero, List.drop_zero] at hc | simp only [wrapu64m, wrapu32m] at hc))) | ((with_reducible refine compat_ok ?_); kernel_rfl) | with_reducible apply And.intro | (first | simp (disch := omega) only [wrap64, wrapu64, wrapu32, sh32, fdiv32, Int.tdiv_eq_ediv_of_nonneg, Int.tmod_eq_emod_of_nonneg, tn_add, tn_add1, Int.toNat_natCast, Int.toNat_zero, List.drop_zero] | simp only [wrapu64m, wrapu32m]) | (with_reducible intro hg; (try simp only [vb, decide_eq_true_eq, decide_eq_false_iff_not, beq_iff_eq, beq_eq_false_iff_ne, bne_iff_ne, bne_eq_false_iff_eq, Bool.not_eq_true', Bool.not_eq_false', reduceCtorEq] at hg); (try (first | simp (disch := omega) only [wrap64, wrapu64, wrapu32, sh32, fdiv32, Int.tdiv_eq_ediv_of_nonneg, Int.tmod_eq_emod_of_nonneg, tn_add, tn_add1, Int.toNat_natCast, Int.toNat_zero, List.drop_zero] at hg | simp only [wrapu64m, wrapu32m] at hg))))
  all_goals try omega
  · simp only [finR, resAs, resA, resLe, lsLe, lkS, lkM, pubs, pub, tie_sz, ti_sz, tie_ek, ti_ek,  nilAV, MM.upd, MM.set, AV.part, AV.cells, AV.agg, List.tail, List.headD, Nat.reduceAdd, Nat.reduceEqDiff, Nat.reduceLT, ↓reduceIte, and_true, true_and, and_self, reduceCtorEq]
    exact AVle_int (by rw [maxU, if_neg hc])
  · simp only [finR, resAs, resA, resLe, lsLe, lkS, lkM, pubs, pub, tie_sz, ti_sz, tie_ek, ti_ek,  nilAV, MM.upd, MM.set, AV.part, AV.cells, AV.agg, List.tail, List.headD, Nat.reduceAdd, Nat.reduceEqDiff, Nat.reduceLT, ↓reduceIte, and_true, true_and, and_self, reduceCtorEq]
    exact AVle_int (by rw [maxU, if_pos hc])
end Go.AE

/- Contracts: package unit, its states. -/
namespace Go.AE
open Go.Proofs Go.RowKit
set_option linter.unusedVariables false
set_option linter.unusedSimpArgs false
set_option maxRecDepth 20000

def okU (u : U) : Prop := (0 ≤ u.min ∧ u.min ≤ maxU u) ∧ (0 ≤ u.spin ∧ u.spin ≤ 1000000) ∧ (1 ≤ u.up ∧ u.up ≤ 6) ∧ (1 ≤ u.down ∧ u.down ≤ 6) ∧ (-6 ≤ u.on ∧ u.on ≤ 6) ∧ u.on ≠ 0 ∧ (0 ≤ u.start ∧ u.start ≤ 1000000000) ∧ (0 ≤ u.idle ∧ u.idle ≤ 1000000000)
instance (u : U) : Decidable (okU u) := by unfold okU; infer_instance
def checkU (u : U) (n : Int) : Int := if ¬ (0 ≤ u.bus ∧ u.bus ≤ n - 1) ∨ n < 1 then 1 else if offK u.steps ≠ 0 then offK u.steps else if okU u then 0 else 1
def env24 : Env := fun g => match g with | 22 => some ctOffer | 107 => some ctMaxU | 106 => some ctWithin | 105 => some ctWithin | _ => none
theorem env24_ok : EnvOk Tryz.prog env24 := by
  intro g ct h
  simp only [env24] at h
  split at h <;> first | (cases h; exact ok22) | (cases h; exact ok107) | (cases h; exact ok106) | (cases h; exact ok105) | cases h
def ctCheckU : Ct := fun l => match l with
  | [a, .v (.int .i64 n)] => match uOf a with
    | some u => some (u.steps.length ≤ 1099511627776 ∧ 0 ≤ n ∧ n ≤ 1000, vi (checkU u n))
    | none => none
  | _ => none
theorem ok74 : Sound Tryz.prog 74 ctCheckU := by
  refine sound_of (fn := Tryz.f74) rfl rfl rfl tiOk env24_ok mix ?_ (by intro l p r h; unfold ctCheckU at h; split at h <;> first | cases h | (split at h <;> cases h; exact Nat.le_of_ble_eq_true rfl))
  intro l p r h hp F vs hv
  unfold ctCheckU at h
  split at h
  rotate_left
  · cases h
  split at h <;> cases h
  rename_i n _ u hu
  obtain rfl := uOf_eq hu
  refine ⟨_, hv, ?_⟩
  have heta : maxU ⟨u.bus, u.min, u.steps, u.up, u.down, u.start, u.idle, u.spin, u.on⟩ = maxU u := rfl
  show Run Tryz.prog ti env24 71 (finR ti [.tmp 4] _) _ _ _
  repeat' (first | with_reducible refine run_seq ?_ | with_reducible refine run_block ?_ | with_reducible refine step_code ?_ | with_reducible refine step_blk ?_ | with_reducible refine run_skip ?_ | with_reducible refine run_exit ?_ | with_reducible refine exits_code ?_ | with_reducible refine exits_here ?_ | with_reducible refine exits_blk rfl ?_ | with_reducible refine exits_lp ?_ | with_reducible refine run_ret ?_ | ((first | with_reducible refine run_region ?_ | with_reducible refine run_draw (by kernel_rfl) ?_); simp only [↓guardP_tt, ↓guardP_tf, ↓guardP_ft, ↓guardP_ff, guardP_t, guardP_f, evalQ, evalR, effQ, effR, skipS, opEff, evO, plainV, lkS, lkM, updL, putS, tie_sz, tie_zero, tie_zeroB, tie_fld, tie_ek, tie_int, tie_isb, tie_eq2, tie_f1, tie_ms,  ti_f1, ti_ms, ti_sz, ti_zero, ti_zeroB, ti_fld, ti_ek, ti_int, ti_isb, ti_eq2, binA, binI, intOp, funOf_v, cloOf_v, calIds, appEff, frE, foldB, foldS, castL_self, K.enc, K.dec, K.zero, K.es, K.bytes, AV.part, AV.setPart, AV.cells, AV.agg, AV.nth, Bool.false_eq_true, callEff, pubs, pub, nilAV, MM.upd, MM.set, argS, gdst, opIds, lids, AV.ids, List.getD_cons_succ, List.getD_cons_zero, List.map, List.tail, List.headD, List.nil_append, List.append_nil, List.cons_append, List.length_nil, List.length_cons, List.zip_cons_cons, List.zip_nil_right, List.set_cons_zero, List.set_cons_succ, List.replicate, Option.isSome_some, Option.map_some, Bool.not_true, Bool.not_false, forall_const, false_implies, Nat.reduceAdd, Nat.reduceEqDiff, Nat.reduceLT, Nat.reduceSub, Nat.reduceMul, Nat.reduceLeDiff, ↓reduceIte, and_true, true_and, and_self, false_and, and_false, reduceCtorEq, env24, ctOffer, ctMaxU, ctWithin, uOf, heta]) | (with_reducible refine run_cond (by with_unfolding_all exact rfl) ?_ ?_ <;> intro hc <;> (try simp only [vb, decide_eq_true_eq, decide_eq_false_iff_not, beq_iff_eq, beq_eq_false_iff_ne, bne_iff_ne, bne_eq_false_iff_eq, Bool.not_eq_true', Bool.not_eq_false', reduceCtorEq] at hc) <;> (try (first | simp (disch := omega) only [wrap64, wrapu64, wrapu32, sh32, fdiv32, Int.tdiv_eq_ediv_of_nonneg, Int.tmod_eq_emod_of_nonneg, tn_add, tn_add1, Int.toNat_natCast, Int.toNat_zero, List.drop_zero] at hc | simp only [wrapu64m, wrapu32m] at hc))) | ((with_reducible refine compat_ok ?_); kernel_rfl) | with_reducible apply And.intro | (first | simp (disch := omega) only [wrap64, wrapu64, wrapu32, sh32, fdiv32, Int.tdiv_eq_ediv_of_nonneg, Int.tmod_eq_emod_of_nonneg, tn_add, tn_add1, Int.toNat_natCast, Int.toNat_zero, List.drop_zero] | simp only [wrapu64m, wrapu32m]) | (with_reducible intro hg; (try simp only [vb, decide_eq_true_eq, decide_eq_false_iff_not, beq_iff_eq, beq_eq_false_iff_ne, bne_iff_ne, bne_eq_false_iff_eq, Bool.not_eq_true', Bool.not_eq_false', reduceCtorEq] at hg); (try (first | simp (disch := omega) only [wrap64, wrapu64, wrapu32, sh32, fdiv32, Int.tdiv_eq_ediv_of_nonneg, Int.tmod_eq_emod_of_nonneg, tn_add, tn_add1, Int.toNat_natCast, Int.toNat_zero, List.drop_zero] at hg | simp only [wrapu64m, wrapu32m] at hg))))
  all_goals try omega
  all_goals
    simp only [finR, resAs, resA, resLe, lsLe, lkS, lkM, pubs, pub, tie_sz, ti_sz, tie_ek, ti_ek,  nilAV, MM.upd, MM.set, AV.part, AV.cells, AV.agg, List.tail, List.headD, Nat.reduceAdd, Nat.reduceEqDiff, Nat.reduceLT, ↓reduceIte, and_true, true_and, and_self, reduceCtorEq]
    refine AVle_int ?_
    symm
    first
      | (rw [checkU, if_pos (by omega)])
      | (rw [checkU, if_neg (by omega), if_pos (by assumption)])
      | (rw [checkU, if_neg (by omega), if_neg (by simp only [ne_eq, Decidable.not_not]; assumption), if_pos (by unfold okU; omega)])
      | (rw [checkU, if_neg (by omega), if_neg (by simp only [ne_eq, Decidable.not_not]; assumption), if_neg (by unfold okU; omega)])
end Go.AE

/- Contracts: package unit, states and schedules. -/
namespace Go.AE
open Go.Proofs Go.RowKit
set_option linter.unusedVariables false
set_option linter.unusedSimpArgs false
set_option maxRecDepth 20000

def mayU (u : U) : Prop := checkU u 6 = 0
instance (u : U) : Decidable (mayU u) := by unfold mayU; infer_instance
theorem mayU_ok {u : U} (h : mayU u) : offK u.steps = 0 ∧ okU u := by
  unfold mayU checkU at h
  split at h
  · cases h
  · split at h
    · contradiction
    · split at h
      · exact ⟨by simp_all, by assumption⟩
      · cases h
def env25 : Env := fun g => match g with | 74 => some ctCheckU | _ => none
theorem env25_ok : EnvOk Tryz.prog env25 := by
  intro g ct h
  simp only [env25] at h
  split at h <;> first | (cases h; exact ok74) | cases h
def ctMayU : Ct := fun l => match l with
  | [a] => match uOf a with
    | some u => some (u.steps.length ≤ 1099511627776, vb (decide (mayU u)))
    | none => none
  | _ => none
theorem ok109 : Sound Tryz.prog 109 ctMayU := by
  refine sound_of (fn := Tryz.f109) rfl rfl rfl tiOk env25_ok mix ?_ (by intro l p r h; unfold ctMayU at h; split at h <;> first | cases h | (split at h <;> cases h; exact Nat.le_of_ble_eq_true rfl))
  intro l p r h hp F vs hv
  unfold ctMayU at h
  split at h
  rotate_left
  · cases h
  split at h <;> cases h
  rename_i u hu
  obtain rfl := uOf_eq hu
  refine ⟨_, hv, ?_⟩
  show Run Tryz.prog ti env25 6 (finR ti [.tmp 2] _) _ _ _
  repeat' (first | with_reducible refine run_seq ?_ | with_reducible refine run_block ?_ | with_reducible refine step_code ?_ | with_reducible refine step_blk ?_ | with_reducible refine run_skip ?_ | with_reducible refine run_exit ?_ | with_reducible refine exits_code ?_ | with_reducible refine exits_here ?_ | with_reducible refine exits_blk rfl ?_ | with_reducible refine exits_lp ?_ | with_reducible refine run_ret ?_ | ((first | with_reducible refine run_region ?_ | with_reducible refine run_draw (by kernel_rfl) ?_); simp only [↓guardP_tt, ↓guardP_tf, ↓guardP_ft, ↓guardP_ff, guardP_t, guardP_f, evalQ, evalR, effQ, effR, skipS, opEff, evO, plainV, lkS, lkM, updL, putS, tie_sz, tie_zero, tie_zeroB, tie_fld, tie_ek, tie_int, tie_isb, tie_eq2, tie_f1, tie_ms,  ti_f1, ti_ms, ti_sz, ti_zero, ti_zeroB, ti_fld, ti_ek, ti_int, ti_isb, ti_eq2, binA, binI, intOp, funOf_v, cloOf_v, calIds, appEff, frE, foldB, foldS, castL_self, K.enc, K.dec, K.zero, K.es, K.bytes, AV.part, AV.setPart, AV.cells, AV.agg, AV.nth, Bool.false_eq_true, callEff, pubs, pub, nilAV, MM.upd, MM.set, argS, gdst, opIds, lids, AV.ids, List.getD_cons_succ, List.getD_cons_zero, List.map, List.tail, List.headD, List.nil_append, List.append_nil, List.cons_append, List.length_nil, List.length_cons, List.zip_cons_cons, List.zip_nil_right, List.set_cons_zero, List.set_cons_succ, List.replicate, Option.isSome_some, Option.map_some, Bool.not_true, Bool.not_false, forall_const, false_implies, Nat.reduceAdd, Nat.reduceEqDiff, Nat.reduceLT, Nat.reduceSub, Nat.reduceMul, Nat.reduceLeDiff, ↓reduceIte, and_true, true_and, and_self, false_and, and_false, reduceCtorEq, env25, ctCheckU, uOf]) | (with_reducible refine run_cond (by with_unfolding_all exact rfl) ?_ ?_ <;> intro hc <;> (try simp only [vb, decide_eq_true_eq, decide_eq_false_iff_not, beq_iff_eq, beq_eq_false_iff_ne, bne_iff_ne, bne_eq_false_iff_eq, Bool.not_eq_true', Bool.not_eq_false', reduceCtorEq] at hc) <;> (try (first | simp (disch := omega) only [wrap64, wrapu64, wrapu32, sh32, fdiv32, Int.tdiv_eq_ediv_of_nonneg, Int.tmod_eq_emod_of_nonneg, tn_add, tn_add1, Int.toNat_natCast, Int.toNat_zero, List.drop_zero] at hc | simp only [wrapu64m, wrapu32m] at hc))) | ((with_reducible refine compat_ok ?_); kernel_rfl) | with_reducible apply And.intro | (first | simp (disch := omega) only [wrap64, wrapu64, wrapu32, sh32, fdiv32, Int.tdiv_eq_ediv_of_nonneg, Int.tmod_eq_emod_of_nonneg, tn_add, tn_add1, Int.toNat_natCast, Int.toNat_zero, List.drop_zero] | simp only [wrapu64m, wrapu32m]) | (with_reducible intro hg; (try simp only [vb, decide_eq_true_eq, decide_eq_false_iff_not, beq_iff_eq, beq_eq_false_iff_ne, bne_iff_ne, bne_eq_false_iff_eq, Bool.not_eq_true', Bool.not_eq_false', reduceCtorEq] at hg); (try (first | simp (disch := omega) only [wrap64, wrapu64, wrapu32, sh32, fdiv32, Int.tdiv_eq_ediv_of_nonneg, Int.tmod_eq_emod_of_nonneg, tn_add, tn_add1, Int.toNat_natCast, Int.toNat_zero, List.drop_zero] at hg | simp only [wrapu64m, wrapu32m] at hg))))
  all_goals try omega
  simp only [finR, resAs, resA, resLe, lsLe, lkS, lkM, pubs, pub, tie_sz, ti_sz, tie_ek, ti_ek,  nilAV, MM.upd, MM.set, AV.part, AV.cells, AV.agg, List.tail, List.headD, Nat.reduceAdd, Nat.reduceEqDiff, Nat.reduceLT, ↓reduceIte, and_true, true_and, and_self, reduceCtorEq]
  exact AVle_bool (by unfold mayU; rfl)
def heldU (u : U) (s : Int) : Int := max (-u.down) (min u.up s)
def ctHeld : Ct := fun l => match l with
  | [a, .v (.int .i64 s)] => match uOf a with
    | some u => some (okU u, vi (heldU u s))
    | none => none
  | _ => none
theorem ok116 : Sound Tryz.prog 116 ctHeld := by
  refine sound_of (fn := Tryz.f116) rfl rfl rfl tiOk env0_ok mix ?_ (by intro l p r h; unfold ctHeld at h; split at h <;> first | cases h | (split at h <;> cases h; exact Nat.le_of_ble_eq_true rfl))
  intro l p r h hp F vs hv
  unfold ctHeld at h
  split at h
  rotate_left
  · cases h
  split at h <;> cases h
  rename_i u hu
  obtain rfl := uOf_eq hu
  refine ⟨_, hv, ?_⟩
  have hok := hp
  unfold okU at hok
  show Run Tryz.prog ti env0 13 (finR ti [.tmp 4] _) _ _ _
  repeat' (first | with_reducible refine run_seq ?_ | with_reducible refine run_block ?_ | with_reducible refine step_code ?_ | with_reducible refine step_blk ?_ | with_reducible refine run_skip ?_ | with_reducible refine run_exit ?_ | with_reducible refine exits_code ?_ | with_reducible refine exits_here ?_ | with_reducible refine exits_blk rfl ?_ | with_reducible refine exits_lp ?_ | with_reducible refine run_ret ?_ | ((first | with_reducible refine run_region ?_ | with_reducible refine run_draw (by kernel_rfl) ?_); simp only [↓guardP_tt, ↓guardP_tf, ↓guardP_ft, ↓guardP_ff, guardP_t, guardP_f, evalQ, evalR, effQ, effR, skipS, opEff, evO, plainV, lkS, lkM, updL, putS, tie_sz, tie_zero, tie_zeroB, tie_fld, tie_ek, tie_int, tie_isb, tie_eq2, tie_f1, tie_ms,  ti_f1, ti_ms, ti_sz, ti_zero, ti_zeroB, ti_fld, ti_ek, ti_int, ti_isb, ti_eq2, binA, binI, intOp, funOf_v, cloOf_v, calIds, appEff, frE, foldB, foldS, castL_self, K.enc, K.dec, K.zero, K.es, K.bytes, AV.part, AV.setPart, AV.cells, AV.agg, AV.nth, Bool.false_eq_true, callEff, pubs, pub, nilAV, MM.upd, MM.set, argS, gdst, opIds, lids, AV.ids, List.getD_cons_succ, List.getD_cons_zero, List.map, List.tail, List.headD, List.nil_append, List.append_nil, List.cons_append, List.length_nil, List.length_cons, List.zip_cons_cons, List.zip_nil_right, List.set_cons_zero, List.set_cons_succ, List.replicate, Option.isSome_some, Option.map_some, Bool.not_true, Bool.not_false, forall_const, false_implies, Nat.reduceAdd, Nat.reduceEqDiff, Nat.reduceLT, Nat.reduceSub, Nat.reduceMul, Nat.reduceLeDiff, ↓reduceIte, and_true, true_and, and_self, false_and, and_false, reduceCtorEq, env0]) | (with_reducible refine run_cond (by with_unfolding_all exact rfl) ?_ ?_ <;> intro hc <;> (try simp only [vb, decide_eq_true_eq, decide_eq_false_iff_not, beq_iff_eq, beq_eq_false_iff_ne, bne_iff_ne, bne_eq_false_iff_eq, Bool.not_eq_true', Bool.not_eq_false', reduceCtorEq] at hc) <;> (try (first | simp (disch := omega) only [wrap64, wrapu64, wrapu32, sh32, fdiv32, Int.tdiv_eq_ediv_of_nonneg, Int.tmod_eq_emod_of_nonneg, tn_add, tn_add1, Int.toNat_natCast, Int.toNat_zero, List.drop_zero] at hc | simp only [wrapu64m, wrapu32m] at hc))) | ((with_reducible refine compat_ok ?_); kernel_rfl) | with_reducible apply And.intro | (first | simp (disch := omega) only [wrap64, wrapu64, wrapu32, sh32, fdiv32, Int.tdiv_eq_ediv_of_nonneg, Int.tmod_eq_emod_of_nonneg, tn_add, tn_add1, Int.toNat_natCast, Int.toNat_zero, List.drop_zero] | simp only [wrapu64m, wrapu32m]) | (with_reducible intro hg; (try simp only [vb, decide_eq_true_eq, decide_eq_false_iff_not, beq_iff_eq, beq_eq_false_iff_ne, bne_iff_ne, bne_eq_false_iff_eq, Bool.not_eq_true', Bool.not_eq_false', reduceCtorEq] at hg); (try (first | simp (disch := omega) only [wrap64, wrapu64, wrapu32, sh32, fdiv32, Int.tdiv_eq_ediv_of_nonneg, Int.tmod_eq_emod_of_nonneg, tn_add, tn_add1, Int.toNat_natCast, Int.toNat_zero, List.drop_zero] at hg | simp only [wrapu64m, wrapu32m] at hg))))
  all_goals try omega
  simp only [finR, resAs, resA, resLe, lsLe, lkS, lkM, pubs, pub, tie_sz, ti_sz, tie_ek, ti_ek,  nilAV, MM.upd, MM.set, AV.part, AV.cells, AV.agg, List.tail, List.headD, Nat.reduceAdd, Nat.reduceEqDiff, Nat.reduceLT, ↓reduceIte, and_true, true_and, and_self, reduceCtorEq]
  refine AVle_int ?_
  unfold heldU
  split <;> split <;> omega
def env26 : Env := fun g => match g with | 109 => some ctMayU | 116 => some ctHeld | _ => none
theorem env26_ok : EnvOk Tryz.prog env26 := by
  intro g ct h
  simp only [env26] at h
  split at h <;> first | (cases h; exact ok109) | (cases h; exact ok116) | cases h
def initU (u : U) : Int := if mayU u then heldU u u.on else 0
def ctInit : Ct := fun l => match l with
  | [a] => match uOf a with
    | some u => some (u.steps.length ≤ 1099511627776, vi (initU u))
    | none => none
  | _ => none
theorem ok86 : Sound Tryz.prog 86 ctInit := by
  refine sound_of (fn := Tryz.f86) rfl rfl rfl tiOk env26_ok mix ?_ (by intro l p r h; unfold ctInit at h; split at h <;> first | cases h | (split at h <;> cases h; exact Nat.le_of_ble_eq_true rfl))
  intro l p r h hp F vs hv
  unfold ctInit at h
  split at h
  rotate_left
  · cases h
  split at h <;> cases h
  rename_i u hu
  obtain rfl := uOf_eq hu
  refine ⟨_, hv, ?_⟩
  show Run Tryz.prog ti env26 10 (finR ti [.tmp 2] _) _ _ _
  have heta : (⟨u.bus, u.min, u.steps, u.up, u.down, u.start, u.idle, u.spin, u.on⟩ : U) = u := rfl
  repeat' (first | with_reducible refine run_seq ?_ | with_reducible refine run_block ?_ | with_reducible refine step_code ?_ | with_reducible refine step_blk ?_ | with_reducible refine run_skip ?_ | with_reducible refine run_exit ?_ | with_reducible refine exits_code ?_ | with_reducible refine exits_here ?_ | with_reducible refine exits_blk rfl ?_ | with_reducible refine exits_lp ?_ | with_reducible refine run_ret ?_ | ((first | with_reducible refine run_region ?_ | with_reducible refine run_draw (by kernel_rfl) ?_); simp only [↓guardP_tt, ↓guardP_tf, ↓guardP_ft, ↓guardP_ff, guardP_t, guardP_f, evalQ, evalR, effQ, effR, skipS, opEff, evO, plainV, lkS, lkM, updL, putS, tie_sz, tie_zero, tie_zeroB, tie_fld, tie_ek, tie_int, tie_isb, tie_eq2, tie_f1, tie_ms,  ti_f1, ti_ms, ti_sz, ti_zero, ti_zeroB, ti_fld, ti_ek, ti_int, ti_isb, ti_eq2, binA, binI, intOp, funOf_v, cloOf_v, calIds, appEff, frE, foldB, foldS, castL_self, K.enc, K.dec, K.zero, K.es, K.bytes, AV.part, AV.setPart, AV.cells, AV.agg, AV.nth, Bool.false_eq_true, callEff, pubs, pub, nilAV, MM.upd, MM.set, argS, gdst, opIds, lids, AV.ids, List.getD_cons_succ, List.getD_cons_zero, List.map, List.tail, List.headD, List.nil_append, List.append_nil, List.cons_append, List.length_nil, List.length_cons, List.zip_cons_cons, List.zip_nil_right, List.set_cons_zero, List.set_cons_succ, List.replicate, Option.isSome_some, Option.map_some, Bool.not_true, Bool.not_false, forall_const, false_implies, Nat.reduceAdd, Nat.reduceEqDiff, Nat.reduceLT, Nat.reduceSub, Nat.reduceMul, Nat.reduceLeDiff, ↓reduceIte, and_true, true_and, and_self, false_and, and_false, reduceCtorEq, env26, ctMayU, ctHeld, uOf, heta]) | (with_reducible refine run_cond (by with_unfolding_all exact rfl) ?_ ?_ <;> intro hc <;> (try simp only [vb, decide_eq_true_eq, decide_eq_false_iff_not, beq_iff_eq, beq_eq_false_iff_ne, bne_iff_ne, bne_eq_false_iff_eq, Bool.not_eq_true', Bool.not_eq_false', reduceCtorEq] at hc) <;> (try (first | simp (disch := omega) only [wrap64, wrapu64, wrapu32, sh32, fdiv32, Int.tdiv_eq_ediv_of_nonneg, Int.tmod_eq_emod_of_nonneg, tn_add, tn_add1, Int.toNat_natCast, Int.toNat_zero, List.drop_zero] at hc | simp only [wrapu64m, wrapu32m] at hc))) | ((with_reducible refine compat_ok ?_); kernel_rfl) | with_reducible apply And.intro | (first | simp (disch := omega) only [wrap64, wrapu64, wrapu32, sh32, fdiv32, Int.tdiv_eq_ediv_of_nonneg, Int.tmod_eq_emod_of_nonneg, tn_add, tn_add1, Int.toNat_natCast, Int.toNat_zero, List.drop_zero] | simp only [wrapu64m, wrapu32m]) | (with_reducible intro hg; (try simp only [vb, decide_eq_true_eq, decide_eq_false_iff_not, beq_iff_eq, beq_eq_false_iff_ne, bne_iff_ne, bne_eq_false_iff_eq, Bool.not_eq_true', Bool.not_eq_false', reduceCtorEq] at hg); (try (first | simp (disch := omega) only [wrap64, wrapu64, wrapu32, sh32, fdiv32, Int.tdiv_eq_ediv_of_nonneg, Int.tmod_eq_emod_of_nonneg, tn_add, tn_add1, Int.toNat_natCast, Int.toNat_zero, List.drop_zero] at hg | simp only [wrapu64m, wrapu32m] at hg))))
  all_goals try omega
  · simp only [finR, resAs, resA, resLe, lsLe, lkS, lkM, pubs, pub, tie_sz, ti_sz, tie_ek, ti_ek,  nilAV, MM.upd, MM.set, AV.part, AV.cells, AV.agg, List.tail, List.headD, Nat.reduceAdd, Nat.reduceEqDiff, Nat.reduceLT, ↓reduceIte, and_true, true_and, and_self, reduceCtorEq]
    exact AVle_int (by rw [initU, if_neg hc])
  · exact (mayU_ok hc).2
  · simp only [finR, resAs, resA, resLe, lsLe, lkS, lkM, pubs, pub, tie_sz, ti_sz, tie_ek, ti_ek,  nilAV, MM.upd, MM.set, AV.part, AV.cells, AV.agg, List.tail, List.headD, Nat.reduceAdd, Nat.reduceEqDiff, Nat.reduceLT, ↓reduceIte, and_true, true_and, and_self, reduceCtorEq]
    exact AVle_int (by rw [initU, if_pos hc])
end Go.AE

/- Contracts: package unit, next states and schedules. -/
namespace Go.AE
open Go.Proofs Go.RowKit
set_option linter.unusedVariables false
set_option linter.unusedSimpArgs false
set_option maxRecDepth 20000

def nextU (u : U) (s : Int) (on : Bool) : Int × Bool :=
  if on = true ∧ s > 0 then (heldU u (s + 1), true)
  else if on = false ∧ s < 0 then (heldU u (s - 1), true)
  else if on = true ∧ s = -u.down then (1, true)
  else if on = false ∧ s = u.up then (-1, true)
  else (0, false)
theorem heldU_bound {u : U} (h : okU u) (s : Int) : -6 ≤ heldU u s ∧ heldU u s ≤ 6 := by
  unfold okU at h
  unfold heldU
  omega
theorem nextU_bound {u : U} (h : okU u) (s : Int) (on : Bool) : -6 ≤ (nextU u s on).1 ∧ (nextU u s on).1 ≤ 6 := by
  have h1 := heldU_bound h (s + 1)
  have h2 := heldU_bound h (s - 1)
  unfold nextU
  split
  · exact h1
  · split
    · exact h2
    · split
      · exact ⟨by decide, by decide⟩
      · split
        · exact ⟨by decide, by decide⟩
        · exact ⟨by decide, by decide⟩
def env27 : Env := fun g => match g with | 116 => some ctHeld | _ => none
theorem env27_ok : EnvOk Tryz.prog env27 := by
  intro g ct h
  simp only [env27] at h
  split at h <;> first | (cases h; exact ok116) | cases h
def ctNextI : Ct := fun l => match l with
  | [a, .v (.int .i64 s), .v (.bool on)] => match uOf a with
    | some u => some (okU u ∧ -10 ≤ s ∧ s ≤ 10, .tup (.tc (vi (nextU u s on).1) (.tc (vb (nextU u s on).2) .tn)))
    | none => none
  | _ => none
theorem ok110 : Sound Tryz.prog 110 ctNextI := by
  refine sound_of (fn := Tryz.f110) rfl rfl rfl tiOk env27_ok mix ?_ (by intro l p r h; unfold ctNextI at h; split at h <;> first | cases h | (split at h <;> cases h; exact Nat.le_of_ble_eq_true rfl))
  intro l p r h hp F vs hv
  unfold ctNextI at h
  split at h
  rotate_left
  · cases h
  split at h <;> cases h
  rename_i u hu
  obtain rfl := uOf_eq hu
  refine ⟨_, hv, ?_⟩
  rename_i s on _
  have hok := hp.1
  unfold okU at hok
  have heta : (⟨u.bus, u.min, u.steps, u.up, u.down, u.start, u.idle, u.spin, u.on⟩ : U) = u := rfl
  cases on
  all_goals
    show Run Tryz.prog ti env27 47 (finR ti [.tmp 6, .tmp 7] _) _ _ _
    repeat' (first | with_reducible refine run_seq ?_ | with_reducible refine run_block ?_ | with_reducible refine step_code ?_ | with_reducible refine step_blk ?_ | with_reducible refine run_skip ?_ | with_reducible refine run_exit ?_ | with_reducible refine exits_code ?_ | with_reducible refine exits_here ?_ | with_reducible refine exits_blk rfl ?_ | with_reducible refine exits_lp ?_ | with_reducible refine run_ret ?_ | ((first | with_reducible refine run_region ?_ | with_reducible refine run_draw (by kernel_rfl) ?_); simp only [↓guardP_tt, ↓guardP_tf, ↓guardP_ft, ↓guardP_ff, guardP_t, guardP_f, evalQ, evalR, effQ, effR, skipS, opEff, evO, plainV, lkS, lkM, updL, putS, tie_sz, tie_zero, tie_zeroB, tie_fld, tie_ek, tie_int, tie_isb, tie_eq2, tie_f1, tie_ms,  ti_f1, ti_ms, ti_sz, ti_zero, ti_zeroB, ti_fld, ti_ek, ti_int, ti_isb, ti_eq2, binA, binI, intOp, funOf_v, cloOf_v, calIds, appEff, frE, foldB, foldS, castL_self, K.enc, K.dec, K.zero, K.es, K.bytes, AV.part, AV.setPart, AV.cells, AV.agg, AV.nth, Bool.false_eq_true, callEff, pubs, pub, nilAV, MM.upd, MM.set, argS, gdst, opIds, lids, AV.ids, List.getD_cons_succ, List.getD_cons_zero, List.map, List.tail, List.headD, List.nil_append, List.append_nil, List.cons_append, List.length_nil, List.length_cons, List.zip_cons_cons, List.zip_nil_right, List.set_cons_zero, List.set_cons_succ, List.replicate, Option.isSome_some, Option.map_some, Bool.not_true, Bool.not_false, forall_const, false_implies, Nat.reduceAdd, Nat.reduceEqDiff, Nat.reduceLT, Nat.reduceSub, Nat.reduceMul, Nat.reduceLeDiff, ↓reduceIte, and_true, true_and, and_self, false_and, and_false, reduceCtorEq, env27, ctHeld, uOf, heta]) | (with_reducible refine run_cond (by with_unfolding_all exact rfl) ?_ ?_ <;> intro hc <;> (try simp only [vb, decide_eq_true_eq, decide_eq_false_iff_not, beq_iff_eq, beq_eq_false_iff_ne, bne_iff_ne, bne_eq_false_iff_eq, Bool.not_eq_true', Bool.not_eq_false', reduceCtorEq] at hc) <;> (try (first | simp (disch := omega) only [wrap64, wrapu64, wrapu32, sh32, fdiv32, Int.tdiv_eq_ediv_of_nonneg, Int.tmod_eq_emod_of_nonneg, tn_add, tn_add1, Int.toNat_natCast, Int.toNat_zero, List.drop_zero] at hc | simp only [wrapu64m, wrapu32m] at hc))) | ((with_reducible refine compat_ok ?_); kernel_rfl) | with_reducible apply And.intro | (first | simp (disch := omega) only [wrap64, wrapu64, wrapu32, sh32, fdiv32, Int.tdiv_eq_ediv_of_nonneg, Int.tmod_eq_emod_of_nonneg, tn_add, tn_add1, Int.toNat_natCast, Int.toNat_zero, List.drop_zero] | simp only [wrapu64m, wrapu32m]) | (with_reducible intro hg; (try simp only [vb, decide_eq_true_eq, decide_eq_false_iff_not, beq_iff_eq, beq_eq_false_iff_ne, bne_iff_ne, bne_eq_false_iff_eq, Bool.not_eq_true', Bool.not_eq_false', reduceCtorEq] at hg); (try (first | simp (disch := omega) only [wrap64, wrapu64, wrapu32, sh32, fdiv32, Int.tdiv_eq_ediv_of_nonneg, Int.tmod_eq_emod_of_nonneg, tn_add, tn_add1, Int.toNat_natCast, Int.toNat_zero, List.drop_zero] at hg | simp only [wrapu64m, wrapu32m] at hg))))
    all_goals try omega
    all_goals first
      | exact hp.1
      | (simp only [finR, resAs, resA, resLe, lsLe, lkS, lkM, pubs, pub, tie_sz, ti_sz, tie_ek, ti_ek,  nilAV, MM.upd, MM.set, AV.part, AV.cells, AV.agg, List.tail, List.headD, Nat.reduceAdd, Nat.reduceEqDiff, Nat.reduceLT, ↓reduceIte, and_true, true_and, and_self, reduceCtorEq]
         refine ⟨AVle_int ?_, AVle_bool ?_⟩ <;> (unfold nextU; (repeat' split) <;> first | rfl | omega | simp_all))
def env28 : Env := fun g => match g with | 109 => some ctMayU | 105 => some ctWithin | 110 => some ctNextI | _ => none
theorem env28_ok : EnvOk Tryz.prog env28 := by
  intro g ct h
  simp only [env28] at h
  split at h <;> first | (cases h; exact ok109) | (cases h; exact ok105) | (cases h; exact ok110) | cases h
def nextK (u : U) (s : Int) (on : Bool) : Int × Bool := if mayU u ∧ s ≠ 0 ∧ -u.down ≤ s ∧ s ≤ u.up then nextU u s on else (0, false)
def ctNext : Ct := fun l => match l with
  | [a, .v (.int .i64 s), .v (.bool on)] => match uOf a with
    | some u => some (u.steps.length ≤ 1099511627776, .tup (.tc (vi (nextK u s on).1) (.tc (vb (nextK u s on).2) .tn)))
    | none => none
  | _ => none
theorem ok114 : Sound Tryz.prog 114 ctNext := by
  refine sound_of (fn := Tryz.f114) rfl rfl rfl tiOk env28_ok mix ?_ (by intro l p r h; unfold ctNext at h; split at h <;> first | cases h | (split at h <;> cases h; exact Nat.le_of_ble_eq_true rfl))
  intro l p r h hp F vs hv
  unfold ctNext at h
  split at h
  rotate_left
  · cases h
  split at h <;> cases h
  rename_i u hu
  obtain rfl := uOf_eq hu
  refine ⟨_, hv, ?_⟩
  rename_i s on _
  have heta : (⟨u.bus, u.min, u.steps, u.up, u.down, u.start, u.idle, u.spin, u.on⟩ : U) = u := rfl
  by_cases hm : mayU u
  · have hm' := decide_eq_true hm
    have hok := (mayU_ok hm).2
    have hok2 := hok
    unfold okU at hok2
    show Run Tryz.prog ti env28 31 (finR ti [.tmp 6, .tmp 7] _) _ _ _
    repeat' (first | with_reducible refine run_seq ?_ | with_reducible refine run_block ?_ | with_reducible refine step_code ?_ | with_reducible refine step_blk ?_ | with_reducible refine run_skip ?_ | with_reducible refine run_exit ?_ | with_reducible refine exits_code ?_ | with_reducible refine exits_here ?_ | with_reducible refine exits_blk rfl ?_ | with_reducible refine exits_lp ?_ | with_reducible refine run_ret ?_ | ((first | with_reducible refine run_region ?_ | with_reducible refine run_draw (by kernel_rfl) ?_); simp only [↓guardP_tt, ↓guardP_tf, ↓guardP_ft, ↓guardP_ff, guardP_t, guardP_f, evalQ, evalR, effQ, effR, skipS, opEff, evO, plainV, lkS, lkM, updL, putS, tie_sz, tie_zero, tie_zeroB, tie_fld, tie_ek, tie_int, tie_isb, tie_eq2, tie_f1, tie_ms,  ti_f1, ti_ms, ti_sz, ti_zero, ti_zeroB, ti_fld, ti_ek, ti_int, ti_isb, ti_eq2, binA, binI, intOp, funOf_v, cloOf_v, calIds, appEff, frE, foldB, foldS, castL_self, K.enc, K.dec, K.zero, K.es, K.bytes, AV.part, AV.setPart, AV.cells, AV.agg, AV.nth, Bool.false_eq_true, callEff, pubs, pub, nilAV, MM.upd, MM.set, argS, gdst, opIds, lids, AV.ids, List.getD_cons_succ, List.getD_cons_zero, List.map, List.tail, List.headD, List.nil_append, List.append_nil, List.cons_append, List.length_nil, List.length_cons, List.zip_cons_cons, List.zip_nil_right, List.set_cons_zero, List.set_cons_succ, List.replicate, Option.isSome_some, Option.map_some, Bool.not_true, Bool.not_false, forall_const, false_implies, Nat.reduceAdd, Nat.reduceEqDiff, Nat.reduceLT, Nat.reduceSub, Nat.reduceMul, Nat.reduceLeDiff, ↓reduceIte, and_true, true_and, and_self, false_and, and_false, reduceCtorEq, env28, ctMayU, ctWithin, ctNextI, uOf, heta, hm']) | (with_reducible refine run_cond (by with_unfolding_all exact rfl) ?_ ?_ <;> intro hc <;> (try simp only [vb, decide_eq_true_eq, decide_eq_false_iff_not, beq_iff_eq, beq_eq_false_iff_ne, bne_iff_ne, bne_eq_false_iff_eq, Bool.not_eq_true', Bool.not_eq_false', reduceCtorEq] at hc) <;> (try (first | simp (disch := omega) only [wrap64, wrapu64, wrapu32, sh32, fdiv32, Int.tdiv_eq_ediv_of_nonneg, Int.tmod_eq_emod_of_nonneg, tn_add, tn_add1, Int.toNat_natCast, Int.toNat_zero, List.drop_zero] at hc | simp only [wrapu64m, wrapu32m] at hc))) | ((with_reducible refine compat_ok ?_); kernel_rfl) | with_reducible apply And.intro | (first | simp (disch := omega) only [wrap64, wrapu64, wrapu32, sh32, fdiv32, Int.tdiv_eq_ediv_of_nonneg, Int.tmod_eq_emod_of_nonneg, tn_add, tn_add1, Int.toNat_natCast, Int.toNat_zero, List.drop_zero] | simp only [wrapu64m, wrapu32m]) | (with_reducible intro hg; (try simp only [vb, decide_eq_true_eq, decide_eq_false_iff_not, beq_iff_eq, beq_eq_false_iff_ne, bne_iff_ne, bne_eq_false_iff_eq, Bool.not_eq_true', Bool.not_eq_false', reduceCtorEq] at hg); (try (first | simp (disch := omega) only [wrap64, wrapu64, wrapu32, sh32, fdiv32, Int.tdiv_eq_ediv_of_nonneg, Int.tmod_eq_emod_of_nonneg, tn_add, tn_add1, Int.toNat_natCast, Int.toNat_zero, List.drop_zero] at hg | simp only [wrapu64m, wrapu32m] at hg))))
    all_goals try omega
    all_goals first
      | exact hok
      | (simp only [finR, resAs, resA, resLe, lsLe, lkS, lkM, pubs, pub, tie_sz, ti_sz, tie_ek, ti_ek,  nilAV, MM.upd, MM.set, AV.part, AV.cells, AV.agg, List.tail, List.headD, Nat.reduceAdd, Nat.reduceEqDiff, Nat.reduceLT, ↓reduceIte, and_true, true_and, and_self, reduceCtorEq]
         refine ⟨AVle_int ?_, AVle_bool ?_⟩ <;> (unfold nextK; first | (rw [if_pos ⟨hm, by omega⟩]) | (rw [if_neg (by omega)])))
  · have hm' := decide_eq_false hm
    show Run Tryz.prog ti env28 31 (finR ti [.tmp 6, .tmp 7] _) _ _ _
    repeat' (first | with_reducible refine run_seq ?_ | with_reducible refine run_block ?_ | with_reducible refine step_code ?_ | with_reducible refine step_blk ?_ | with_reducible refine run_skip ?_ | with_reducible refine run_exit ?_ | with_reducible refine exits_code ?_ | with_reducible refine exits_here ?_ | with_reducible refine exits_blk rfl ?_ | with_reducible refine exits_lp ?_ | with_reducible refine run_ret ?_ | ((first | with_reducible refine run_region ?_ | with_reducible refine run_draw (by kernel_rfl) ?_); simp only [↓guardP_tt, ↓guardP_tf, ↓guardP_ft, ↓guardP_ff, guardP_t, guardP_f, evalQ, evalR, effQ, effR, skipS, opEff, evO, plainV, lkS, lkM, updL, putS, tie_sz, tie_zero, tie_zeroB, tie_fld, tie_ek, tie_int, tie_isb, tie_eq2, tie_f1, tie_ms,  ti_f1, ti_ms, ti_sz, ti_zero, ti_zeroB, ti_fld, ti_ek, ti_int, ti_isb, ti_eq2, binA, binI, intOp, funOf_v, cloOf_v, calIds, appEff, frE, foldB, foldS, castL_self, K.enc, K.dec, K.zero, K.es, K.bytes, AV.part, AV.setPart, AV.cells, AV.agg, AV.nth, Bool.false_eq_true, callEff, pubs, pub, nilAV, MM.upd, MM.set, argS, gdst, opIds, lids, AV.ids, List.getD_cons_succ, List.getD_cons_zero, List.map, List.tail, List.headD, List.nil_append, List.append_nil, List.cons_append, List.length_nil, List.length_cons, List.zip_cons_cons, List.zip_nil_right, List.set_cons_zero, List.set_cons_succ, List.replicate, Option.isSome_some, Option.map_some, Bool.not_true, Bool.not_false, forall_const, false_implies, Nat.reduceAdd, Nat.reduceEqDiff, Nat.reduceLT, Nat.reduceSub, Nat.reduceMul, Nat.reduceLeDiff, ↓reduceIte, and_true, true_and, and_self, false_and, and_false, reduceCtorEq, env28, ctMayU, ctWithin, ctNextI, uOf, heta, hm']) | (with_reducible refine run_cond (by with_unfolding_all exact rfl) ?_ ?_ <;> intro hc <;> (try simp only [vb, decide_eq_true_eq, decide_eq_false_iff_not, beq_iff_eq, beq_eq_false_iff_ne, bne_iff_ne, bne_eq_false_iff_eq, Bool.not_eq_true', Bool.not_eq_false', reduceCtorEq] at hc) <;> (try (first | simp (disch := omega) only [wrap64, wrapu64, wrapu32, sh32, fdiv32, Int.tdiv_eq_ediv_of_nonneg, Int.tmod_eq_emod_of_nonneg, tn_add, tn_add1, Int.toNat_natCast, Int.toNat_zero, List.drop_zero] at hc | simp only [wrapu64m, wrapu32m] at hc))) | ((with_reducible refine compat_ok ?_); kernel_rfl) | with_reducible apply And.intro | (first | simp (disch := omega) only [wrap64, wrapu64, wrapu32, sh32, fdiv32, Int.tdiv_eq_ediv_of_nonneg, Int.tmod_eq_emod_of_nonneg, tn_add, tn_add1, Int.toNat_natCast, Int.toNat_zero, List.drop_zero] | simp only [wrapu64m, wrapu32m]) | (with_reducible intro hg; (try simp only [vb, decide_eq_true_eq, decide_eq_false_iff_not, beq_iff_eq, beq_eq_false_iff_ne, bne_iff_ne, bne_eq_false_iff_eq, Bool.not_eq_true', Bool.not_eq_false', reduceCtorEq] at hg); (try (first | simp (disch := omega) only [wrap64, wrapu64, wrapu32, sh32, fdiv32, Int.tdiv_eq_ediv_of_nonneg, Int.tmod_eq_emod_of_nonneg, tn_add, tn_add1, Int.toNat_natCast, Int.toNat_zero, List.drop_zero] at hg | simp only [wrapu64m, wrapu32m] at hg))))
    all_goals try omega
    all_goals
      simp only [finR, resAs, resA, resLe, lsLe, lkS, lkM, pubs, pub, tie_sz, ti_sz, tie_ek, ti_ek,  nilAV, MM.upd, MM.set, AV.part, AV.cells, AV.agg, List.tail, List.headD, Nat.reduceAdd, Nat.reduceEqDiff, Nat.reduceLT, ↓reduceIte, and_true, true_and, and_self, reduceCtorEq]
      refine ⟨AVle_int ?_, AVle_bool ?_⟩ <;> (unfold nextK; rw [if_neg (fun h => hm h.1)])
def feasF (u : U) : Int → List Bool → Bool
  | _, [] => true
  | s, on :: r => (nextU u s on).2 && feasF u (nextU u s on).1 r
def feasU (u : U) (row : List Bool) : Bool := decide (mayU u) && feasF u (initU u) row
theorem drop_getD {α : Type} (z : α) {l : List α} {i : Nat} (h : i < l.length) : l.drop i = l.getD i z :: l.drop (i + 1) := by
  rw [List.drop_eq_getElem_cons h]; simp [List.getD_eq_getElem?_getD, List.getElem?_eq_getElem h]
def env29 : Env := fun g => match g with | 109 => some ctMayU | 86 => some ctInit | 110 => some ctNextI | _ => none
theorem env29_ok : EnvOk Tryz.prog env29 := by
  intro g ct h
  simp only [env29] at h
  split at h <;> first | (cases h; exact ok109) | (cases h; exact ok86) | (cases h; exact ok110) | cases h
def ctFeas : Ct := fun l => match l with
  | [a, .lst .bool row] => match uOf a with
    | some u => some (u.steps.length ≤ 1099511627776 ∧ row.length ≤ 1099511627776, vb (feasU u row))
    | none => none
  | _ => none
theorem ok78 : Sound Tryz.prog 78 ctFeas := by
  refine sound_of (fn := Tryz.f78) rfl rfl rfl tiOk env29_ok mix ?_ (by intro l p r h; unfold ctFeas at h; split at h <;> first | cases h | (split at h <;> cases h; exact Nat.le_of_ble_eq_true rfl))
  intro l p r h hp F vs hv
  unfold ctFeas at h
  split at h
  rotate_left
  · cases h
  split at h <;> cases h
  rename_i u hu
  obtain rfl := uOf_eq hu
  refine ⟨_, hv, ?_⟩
  rename_i row _
  have heta : (⟨u.bus, u.min, u.steps, u.up, u.down, u.start, u.idle, u.spin, u.on⟩ : U) = u := rfl
  by_cases hm : mayU u
  rotate_left
  · have hm' := decide_eq_false hm
    show Run Tryz.prog ti env29 30 (finR ti [.tmp 4] _) _ _ _
    repeat' (first | with_reducible refine run_seq ?_ | with_reducible refine run_block ?_ | with_reducible refine step_code ?_ | with_reducible refine step_blk ?_ | with_reducible refine run_skip ?_ | with_reducible refine run_exit ?_ | with_reducible refine exits_code ?_ | with_reducible refine exits_here ?_ | with_reducible refine exits_blk rfl ?_ | with_reducible refine exits_lp ?_ | with_reducible refine run_ret ?_ | ((first | with_reducible refine run_region ?_ | with_reducible refine run_draw (by kernel_rfl) ?_); simp only [↓guardP_tt, ↓guardP_tf, ↓guardP_ft, ↓guardP_ff, guardP_t, guardP_f, evalQ, evalR, effQ, effR, skipS, opEff, evO, plainV, lkS, lkM, updL, putS, tie_sz, tie_zero, tie_zeroB, tie_fld, tie_ek, tie_int, tie_isb, tie_eq2, tie_f1, tie_ms,  ti_f1, ti_ms, ti_sz, ti_zero, ti_zeroB, ti_fld, ti_ek, ti_int, ti_isb, ti_eq2, binA, binI, intOp, funOf_v, cloOf_v, calIds, appEff, frE, foldB, foldS, castL_self, K.enc, K.dec, K.zero, K.es, K.bytes, AV.part, AV.setPart, AV.cells, AV.agg, AV.nth, Bool.false_eq_true, callEff, pubs, pub, nilAV, MM.upd, MM.set, argS, gdst, opIds, lids, AV.ids, List.getD_cons_succ, List.getD_cons_zero, List.map, List.tail, List.headD, List.nil_append, List.append_nil, List.cons_append, List.length_nil, List.length_cons, List.zip_cons_cons, List.zip_nil_right, List.set_cons_zero, List.set_cons_succ, List.replicate, Option.isSome_some, Option.map_some, Bool.not_true, Bool.not_false, forall_const, false_implies, Nat.reduceAdd, Nat.reduceEqDiff, Nat.reduceLT, Nat.reduceSub, Nat.reduceMul, Nat.reduceLeDiff, ↓reduceIte, and_true, true_and, and_self, false_and, and_false, reduceCtorEq, env29, ctMayU, uOf, heta, hm']) | (with_reducible refine run_cond (by with_unfolding_all exact rfl) ?_ ?_ <;> intro hc <;> (try simp only [vb, decide_eq_true_eq, decide_eq_false_iff_not, beq_iff_eq, beq_eq_false_iff_ne, bne_iff_ne, bne_eq_false_iff_eq, Bool.not_eq_true', Bool.not_eq_false', reduceCtorEq] at hc) <;> (try (first | simp (disch := omega) only [wrap64, wrapu64, wrapu32, sh32, fdiv32, Int.tdiv_eq_ediv_of_nonneg, Int.tmod_eq_emod_of_nonneg, tn_add, tn_add1, Int.toNat_natCast, Int.toNat_zero, List.drop_zero] at hc | simp only [wrapu64m, wrapu32m] at hc))) | ((with_reducible refine compat_ok ?_); kernel_rfl) | with_reducible apply And.intro | (first | simp (disch := omega) only [wrap64, wrapu64, wrapu32, sh32, fdiv32, Int.tdiv_eq_ediv_of_nonneg, Int.tmod_eq_emod_of_nonneg, tn_add, tn_add1, Int.toNat_natCast, Int.toNat_zero, List.drop_zero] | simp only [wrapu64m, wrapu32m]) | (with_reducible intro hg; (try simp only [vb, decide_eq_true_eq, decide_eq_false_iff_not, beq_iff_eq, beq_eq_false_iff_ne, bne_iff_ne, bne_eq_false_iff_eq, Bool.not_eq_true', Bool.not_eq_false', reduceCtorEq] at hg); (try (first | simp (disch := omega) only [wrap64, wrapu64, wrapu32, sh32, fdiv32, Int.tdiv_eq_ediv_of_nonneg, Int.tmod_eq_emod_of_nonneg, tn_add, tn_add1, Int.toNat_natCast, Int.toNat_zero, List.drop_zero] at hg | simp only [wrapu64m, wrapu32m] at hg))))
    all_goals try omega
    simp only [finR, resAs, resA, resLe, lsLe, lkS, lkM, pubs, pub, tie_sz, ti_sz, tie_ek, ti_ek,  nilAV, MM.upd, MM.set, AV.part, AV.cells, AV.agg, List.tail, List.headD, Nat.reduceAdd, Nat.reduceEqDiff, Nat.reduceLT, ↓reduceIte, and_true, true_and, and_self, reduceCtorEq]
    exact AVle_bool (by simp [feasU, hm])
  have hm' := decide_eq_true hm
  have hok := (mayU_ok hm).2
  have hin : -6 ≤ initU u ∧ initU u ≤ 6 := by rw [initU, if_pos hm]; exact heldU_bound hok _
  show Run Tryz.prog ti env29 30 (finR ti [.tmp 4] _) _ _ _
  repeat' (first | with_reducible refine run_seq ?_ | with_reducible refine run_block ?_ | with_reducible refine step_code ?_ | with_reducible refine step_blk ?_ | with_reducible refine run_skip ?_ | with_reducible refine run_exit ?_ | with_reducible refine exits_code ?_ | with_reducible refine exits_here ?_ | with_reducible refine exits_blk rfl ?_ | with_reducible refine exits_lp ?_ | with_reducible refine run_ret ?_ | ((first | with_reducible refine run_region ?_ | with_reducible refine run_draw (by kernel_rfl) ?_); simp only [↓guardP_tt, ↓guardP_tf, ↓guardP_ft, ↓guardP_ff, guardP_t, guardP_f, evalQ, evalR, effQ, effR, skipS, opEff, evO, plainV, lkS, lkM, updL, putS, tie_sz, tie_zero, tie_zeroB, tie_fld, tie_ek, tie_int, tie_isb, tie_eq2, tie_f1, tie_ms,  ti_f1, ti_ms, ti_sz, ti_zero, ti_zeroB, ti_fld, ti_ek, ti_int, ti_isb, ti_eq2, binA, binI, intOp, funOf_v, cloOf_v, calIds, appEff, frE, foldB, foldS, castL_self, K.enc, K.dec, K.zero, K.es, K.bytes, AV.part, AV.setPart, AV.cells, AV.agg, AV.nth, Bool.false_eq_true, callEff, pubs, pub, nilAV, MM.upd, MM.set, argS, gdst, opIds, lids, AV.ids, List.getD_cons_succ, List.getD_cons_zero, List.map, List.tail, List.headD, List.nil_append, List.append_nil, List.cons_append, List.length_nil, List.length_cons, List.zip_cons_cons, List.zip_nil_right, List.set_cons_zero, List.set_cons_succ, List.replicate, Option.isSome_some, Option.map_some, Bool.not_true, Bool.not_false, forall_const, false_implies, Nat.reduceAdd, Nat.reduceEqDiff, Nat.reduceLT, Nat.reduceSub, Nat.reduceMul, Nat.reduceLeDiff, ↓reduceIte, and_true, true_and, and_self, false_and, and_false, reduceCtorEq, env29, ctMayU, ctInit, uOf, heta, hm']) | (with_reducible refine run_cond (by with_unfolding_all exact rfl) ?_ ?_ <;> intro hc <;> (try simp only [vb, decide_eq_true_eq, decide_eq_false_iff_not, beq_iff_eq, beq_eq_false_iff_ne, bne_iff_ne, bne_eq_false_iff_eq, Bool.not_eq_true', Bool.not_eq_false', reduceCtorEq] at hc) <;> (try (first | simp (disch := omega) only [wrap64, wrapu64, wrapu32, sh32, fdiv32, Int.tdiv_eq_ediv_of_nonneg, Int.tmod_eq_emod_of_nonneg, tn_add, tn_add1, Int.toNat_natCast, Int.toNat_zero, List.drop_zero] at hc | simp only [wrapu64m, wrapu32m] at hc))) | ((with_reducible refine compat_ok ?_); kernel_rfl) | with_reducible apply And.intro | (first | simp (disch := omega) only [wrap64, wrapu64, wrapu32, sh32, fdiv32, Int.tdiv_eq_ediv_of_nonneg, Int.tmod_eq_emod_of_nonneg, tn_add, tn_add1, Int.toNat_natCast, Int.toNat_zero, List.drop_zero] | simp only [wrapu64m, wrapu32m]) | (with_reducible intro hg; (try simp only [vb, decide_eq_true_eq, decide_eq_false_iff_not, beq_iff_eq, beq_eq_false_iff_ne, bne_iff_ne, bne_eq_false_iff_eq, Bool.not_eq_true', Bool.not_eq_false', reduceCtorEq] at hg); (try (first | simp (disch := omega) only [wrap64, wrapu64, wrapu32, sh32, fdiv32, Int.tdiv_eq_ediv_of_nonneg, Int.tmod_eq_emod_of_nonneg, tn_add, tn_add1, Int.toNat_natCast, Int.toNat_zero, List.drop_zero] at hg | simp only [wrapu64m, wrapu32m] at hg))))
  all_goals try omega
  refine run_loop (ι := Nat × Int) (fun x => ⟨[(16, vi x.1), (15, vi row.length), (14, .lst .bool row), (5, vi x.2), (2, .ptr 0 0)], [(0, some (.box 49 (uAV u)))], 12⟩)
    (fun x => x.1 ≤ row.length ∧ -6 ≤ x.2 ∧ x.2 ≤ 6 ∧ feasF u (initU u) row = feasF u x.2 (row.drop x.1)) (fun x => row.length - x.1) (0, initU u) ⟨Nat.zero_le _, hin.1, hin.2, rfl⟩ ?_ ?_
  · (refine AS.le_of ?_ ?_ <;> simp only [slLe, memLe, entLe, lkS, lkM, Nat.reduceEqDiff, Nat.reduceLT, or_true, true_or, reduceCtorEq, ↓reduceIte, and_true, true_and] <;> (repeat' with_reducible apply And.intro) <;> (try (first | ((with_reducible refine AV.le_refl ?_); rfl) | with_reducible exact AV.le_junk | with_reducible exact AV.le_nil | ((with_reducible refine AV.le_int ?_); omega) | (with_reducible refine AV.le_int ?_) | (with_reducible refine AV.le_bool ?_) | ((with_reducible refine AV.le_lst ?_); try rfl) | (with_reducible refine AV.le_q ?_ ?_ ?_) | exact fun _ _ h => h | (with_reducible refine RC_qle ?_ ?_ ?_))))
  rintro ⟨i, s⟩ ⟨hi, hs1, hs2, hf⟩
  simp only at hi hs1 hs2 hf
  by_cases hlt : i < row.length
  · rw [drop_getD false hlt] at hf
    have hb := nextU_bound hok s (row.getD i false)
    repeat' (first | with_reducible refine run_seq ?_ | with_reducible refine run_block ?_ | with_reducible refine step_code ?_ | with_reducible refine step_blk ?_ | with_reducible refine run_skip ?_ | with_reducible refine run_exit ?_ | with_reducible refine exits_code ?_ | with_reducible refine exits_here ?_ | with_reducible refine exits_blk rfl ?_ | with_reducible refine exits_lp ?_ | with_reducible refine run_ret ?_ | ((first | with_reducible refine run_region ?_ | with_reducible refine run_draw (by kernel_rfl) ?_); simp only [↓guardP_tt, ↓guardP_tf, ↓guardP_ft, ↓guardP_ff, guardP_t, guardP_f, evalQ, evalR, effQ, effR, skipS, opEff, evO, plainV, lkS, lkM, updL, putS, tie_sz, tie_zero, tie_zeroB, tie_fld, tie_ek, tie_int, tie_isb, tie_eq2, tie_f1, tie_ms,  ti_f1, ti_ms, ti_sz, ti_zero, ti_zeroB, ti_fld, ti_ek, ti_int, ti_isb, ti_eq2, binA, binI, intOp, funOf_v, cloOf_v, calIds, appEff, frE, foldB, foldS, castL_self, K.enc, K.dec, K.zero, K.es, K.bytes, AV.part, AV.setPart, AV.cells, AV.agg, AV.nth, Bool.false_eq_true, callEff, pubs, pub, nilAV, MM.upd, MM.set, argS, gdst, opIds, lids, AV.ids, List.getD_cons_succ, List.getD_cons_zero, List.map, List.tail, List.headD, List.nil_append, List.append_nil, List.cons_append, List.length_nil, List.length_cons, List.zip_cons_cons, List.zip_nil_right, List.set_cons_zero, List.set_cons_succ, List.replicate, Option.isSome_some, Option.map_some, Bool.not_true, Bool.not_false, forall_const, false_implies, Nat.reduceAdd, Nat.reduceEqDiff, Nat.reduceLT, Nat.reduceSub, Nat.reduceMul, Nat.reduceLeDiff, ↓reduceIte, and_true, true_and, and_self, false_and, and_false, reduceCtorEq, env29, ctNextI, uOf, heta, Int.toNat_natCast]) | (with_reducible refine run_cond (by with_unfolding_all exact rfl) ?_ ?_ <;> intro hc <;> (try simp only [vb, decide_eq_true_eq, decide_eq_false_iff_not, beq_iff_eq, beq_eq_false_iff_ne, bne_iff_ne, bne_eq_false_iff_eq, Bool.not_eq_true', Bool.not_eq_false', reduceCtorEq] at hc) <;> (try (first | simp (disch := omega) only [wrap64, wrapu64, wrapu32, sh32, fdiv32, Int.tdiv_eq_ediv_of_nonneg, Int.tmod_eq_emod_of_nonneg, tn_add, tn_add1, Int.toNat_natCast, Int.toNat_zero, List.drop_zero] at hc | simp only [wrapu64m, wrapu32m] at hc))) | ((with_reducible refine compat_ok ?_); kernel_rfl) | with_reducible apply And.intro | (first | simp (disch := omega) only [wrap64, wrapu64, wrapu32, sh32, fdiv32, Int.tdiv_eq_ediv_of_nonneg, Int.tmod_eq_emod_of_nonneg, tn_add, tn_add1, Int.toNat_natCast, Int.toNat_zero, List.drop_zero] | simp only [wrapu64m, wrapu32m]) | (with_reducible intro hg; (try simp only [vb, decide_eq_true_eq, decide_eq_false_iff_not, beq_iff_eq, beq_eq_false_iff_ne, bne_iff_ne, bne_eq_false_iff_eq, Bool.not_eq_true', Bool.not_eq_false', reduceCtorEq] at hg); (try (first | simp (disch := omega) only [wrap64, wrapu64, wrapu32, sh32, fdiv32, Int.tdiv_eq_ediv_of_nonneg, Int.tmod_eq_emod_of_nonneg, tn_add, tn_add1, Int.toNat_natCast, Int.toNat_zero, List.drop_zero] at hg | simp only [wrapu64m, wrapu32m] at hg))))
    all_goals try omega
    all_goals first
      | exact hok
      | (simp only [finR, resAs, resA, resLe, lsLe, lkS, lkM, pubs, pub, tie_sz, ti_sz, tie_ek, ti_ek,  nilAV, MM.upd, MM.set, AV.part, AV.cells, AV.agg, List.tail, List.headD, Nat.reduceAdd, Nat.reduceEqDiff, Nat.reduceLT, ↓reduceIte, and_true, true_and, and_self, reduceCtorEq]
         refine AVle_bool ?_
         simp only [feasF] at hf
         rw [hc, Bool.false_and] at hf
         rw [feasU, hf, Bool.and_false])
      | (refine step_lp ⟨(i + 1, (nextU u s (row.getD i false)).1), ⟨by simp only; omega, hb.1, hb.2, ?_⟩, by simp only; omega, ?_⟩
         · simp only [feasF] at hf
           rw [hc, Bool.true_and] at hf
           exact hf
         · (refine AS.le_of ?_ ?_ <;> simp only [slLe, memLe, entLe, lkS, lkM, Nat.reduceEqDiff, Nat.reduceLT, or_true, true_or, reduceCtorEq, ↓reduceIte, and_true, true_and] <;> (repeat' with_reducible apply And.intro) <;> (try (first | ((with_reducible refine AV.le_refl ?_); rfl) | with_reducible exact AV.le_junk | with_reducible exact AV.le_nil | ((with_reducible refine AV.le_int ?_); omega) | (with_reducible refine AV.le_int ?_) | (with_reducible refine AV.le_bool ?_) | ((with_reducible refine AV.le_lst ?_); try rfl) | (with_reducible refine AV.le_q ?_ ?_ ?_) | exact fun _ _ h => h | (with_reducible refine RC_qle ?_ ?_ ?_)))))
  · repeat' (first | with_reducible refine run_seq ?_ | with_reducible refine run_block ?_ | with_reducible refine step_code ?_ | with_reducible refine step_blk ?_ | with_reducible refine run_skip ?_ | with_reducible refine run_exit ?_ | with_reducible refine exits_code ?_ | with_reducible refine exits_here ?_ | with_reducible refine exits_blk rfl ?_ | with_reducible refine exits_lp ?_ | with_reducible refine run_ret ?_ | ((first | with_reducible refine run_region ?_ | with_reducible refine run_draw (by kernel_rfl) ?_); simp only [↓guardP_tt, ↓guardP_tf, ↓guardP_ft, ↓guardP_ff, guardP_t, guardP_f, evalQ, evalR, effQ, effR, skipS, opEff, evO, plainV, lkS, lkM, updL, putS, tie_sz, tie_zero, tie_zeroB, tie_fld, tie_ek, tie_int, tie_isb, tie_eq2, tie_f1, tie_ms,  ti_f1, ti_ms, ti_sz, ti_zero, ti_zeroB, ti_fld, ti_ek, ti_int, ti_isb, ti_eq2, binA, binI, intOp, funOf_v, cloOf_v, calIds, appEff, frE, foldB, foldS, castL_self, K.enc, K.dec, K.zero, K.es, K.bytes, AV.part, AV.setPart, AV.cells, AV.agg, AV.nth, Bool.false_eq_true, callEff, pubs, pub, nilAV, MM.upd, MM.set, argS, gdst, opIds, lids, AV.ids, List.getD_cons_succ, List.getD_cons_zero, List.map, List.tail, List.headD, List.nil_append, List.append_nil, List.cons_append, List.length_nil, List.length_cons, List.zip_cons_cons, List.zip_nil_right, List.set_cons_zero, List.set_cons_succ, List.replicate, Option.isSome_some, Option.map_some, Bool.not_true, Bool.not_false, forall_const, false_implies, Nat.reduceAdd, Nat.reduceEqDiff, Nat.reduceLT, Nat.reduceSub, Nat.reduceMul, Nat.reduceLeDiff, ↓reduceIte, and_true, true_and, and_self, false_and, and_false, reduceCtorEq, env29]) | (with_reducible refine run_cond (by with_unfolding_all exact rfl) ?_ ?_ <;> intro hc <;> (try simp only [vb, decide_eq_true_eq, decide_eq_false_iff_not, beq_iff_eq, beq_eq_false_iff_ne, bne_iff_ne, bne_eq_false_iff_eq, Bool.not_eq_true', Bool.not_eq_false', reduceCtorEq] at hc) <;> (try (first | simp (disch := omega) only [wrap64, wrapu64, wrapu32, sh32, fdiv32, Int.tdiv_eq_ediv_of_nonneg, Int.tmod_eq_emod_of_nonneg, tn_add, tn_add1, Int.toNat_natCast, Int.toNat_zero, List.drop_zero] at hc | simp only [wrapu64m, wrapu32m] at hc))) | ((with_reducible refine compat_ok ?_); kernel_rfl) | with_reducible apply And.intro | (first | simp (disch := omega) only [wrap64, wrapu64, wrapu32, sh32, fdiv32, Int.tdiv_eq_ediv_of_nonneg, Int.tmod_eq_emod_of_nonneg, tn_add, tn_add1, Int.toNat_natCast, Int.toNat_zero, List.drop_zero] | simp only [wrapu64m, wrapu32m]) | (with_reducible intro hg; (try simp only [vb, decide_eq_true_eq, decide_eq_false_iff_not, beq_iff_eq, beq_eq_false_iff_ne, bne_iff_ne, bne_eq_false_iff_eq, Bool.not_eq_true', Bool.not_eq_false', reduceCtorEq] at hg); (try (first | simp (disch := omega) only [wrap64, wrapu64, wrapu32, sh32, fdiv32, Int.tdiv_eq_ediv_of_nonneg, Int.tmod_eq_emod_of_nonneg, tn_add, tn_add1, Int.toNat_natCast, Int.toNat_zero, List.drop_zero] at hg | simp only [wrapu64m, wrapu32m] at hg))))
    all_goals try omega
    simp only [finR, resAs, resA, resLe, lsLe, lkS, lkM, pubs, pub, tie_sz, ti_sz, tie_ek, ti_ek,  nilAV, MM.upd, MM.set, AV.part, AV.cells, AV.agg, List.tail, List.headD, Nat.reduceAdd, Nat.reduceEqDiff, Nat.reduceLT, ↓reduceIte, and_true, true_and, and_self, reduceCtorEq]
    refine AVle_bool ?_
    rw [List.drop_eq_nil_of_le (by omega)] at hf
    simp [feasU, hf, hm, feasF]
def startF : Bool → List Bool → Int
  | _, [] => 0
  | was, on :: r => (if on = true ∧ was = false then 1 else 0) + startF on r
def startU (u : U) (row : List Bool) : Int := if mayU u then startF (decide (u.on > 0)) row else 0
theorem startF_bound (row : List Bool) (w : Bool) : 0 ≤ startF w row ∧ startF w row ≤ row.length := by
  induction row generalizing w with
  | nil => simp [startF]
  | cons a r ih =>
    have := ih a
    simp only [startF, List.length_cons]
    split <;> omega
def ctStarts : Ct := fun l => match l with
  | [a, .lst .bool row] => match uOf a with
    | some u => some (u.steps.length ≤ 1099511627776 ∧ row.length ≤ 1099511627776, vi (startU u row))
    | none => none
  | _ => none
def env61 : Env := fun g => match g with | 109 => some ctMayU | _ => none
theorem env61_ok : EnvOk Tryz.prog env61 := by
  intro g ct h
  simp only [env61] at h
  split at h <;> first | (cases h; exact ok109) | cases h
theorem ok79 : Sound Tryz.prog 79 ctStarts := by
  refine sound_of (fn := Tryz.f79) rfl rfl rfl tiOk env61_ok mix ?_ (by intro l p r h; unfold ctStarts at h; split at h <;> first | cases h | (split at h <;> cases h; exact Nat.le_of_ble_eq_true rfl))
  intro l p r h hp F vs hv
  unfold ctStarts at h
  split at h
  rotate_left
  · cases h
  split at h <;> cases h
  rename_i u hu
  obtain rfl := uOf_eq hu
  refine ⟨_, hv, ?_⟩
  rename_i row _
  have heta : (⟨u.bus, u.min, u.steps, u.up, u.down, u.start, u.idle, u.spin, u.on⟩ : U) = u := rfl
  by_cases hm : mayU u
  rotate_left
  · have hm' := decide_eq_false hm
    show Run Tryz.prog ti env61 31 (finR ti [.tmp 4] _) _ _ _
    repeat' (first | with_reducible refine run_seq ?_ | with_reducible refine run_block ?_ | with_reducible refine step_code ?_ | with_reducible refine step_blk ?_ | with_reducible refine run_skip ?_ | with_reducible refine run_exit ?_ | with_reducible refine exits_code ?_ | with_reducible refine exits_here ?_ | with_reducible refine exits_blk rfl ?_ | with_reducible refine exits_lp ?_ | with_reducible refine run_ret ?_ | ((first | with_reducible refine run_region ?_ | with_reducible refine run_draw (by kernel_rfl) ?_); simp only [↓guardP_tt, ↓guardP_tf, ↓guardP_ft, ↓guardP_ff, guardP_t, guardP_f, evalQ, evalR, effQ, effR, skipS, opEff, evO, plainV, lkS, lkM, updL, putS, tie_sz, tie_zero, tie_zeroB, tie_fld, tie_ek, tie_int, tie_isb, tie_eq2, tie_f1, tie_ms,  ti_f1, ti_ms, ti_sz, ti_zero, ti_zeroB, ti_fld, ti_ek, ti_int, ti_isb, ti_eq2, binA, binI, intOp, funOf_v, cloOf_v, calIds, appEff, frE, foldB, foldS, castL_self, K.enc, K.dec, K.zero, K.es, K.bytes, AV.part, AV.setPart, AV.cells, AV.agg, AV.nth, Bool.false_eq_true, callEff, pubs, pub, nilAV, MM.upd, MM.set, argS, gdst, opIds, lids, AV.ids, List.getD_cons_succ, List.getD_cons_zero, List.map, List.tail, List.headD, List.nil_append, List.append_nil, List.cons_append, List.length_nil, List.length_cons, List.zip_cons_cons, List.zip_nil_right, List.set_cons_zero, List.set_cons_succ, List.replicate, Option.isSome_some, Option.map_some, Bool.not_true, Bool.not_false, forall_const, false_implies, Nat.reduceAdd, Nat.reduceEqDiff, Nat.reduceLT, Nat.reduceSub, Nat.reduceMul, Nat.reduceLeDiff, ↓reduceIte, and_true, true_and, and_self, false_and, and_false, reduceCtorEq, env61, ctMayU, uOf, heta, hm']) | (with_reducible refine run_cond (by with_unfolding_all exact rfl) ?_ ?_ <;> intro hc <;> (try simp only [vb, decide_eq_true_eq, decide_eq_false_iff_not, beq_iff_eq, beq_eq_false_iff_ne, bne_iff_ne, bne_eq_false_iff_eq, Bool.not_eq_true', Bool.not_eq_false', reduceCtorEq] at hc) <;> (try (first | simp (disch := omega) only [wrap64, wrapu64, wrapu32, sh32, fdiv32, Int.tdiv_eq_ediv_of_nonneg, Int.tmod_eq_emod_of_nonneg, tn_add, tn_add1, Int.toNat_natCast, Int.toNat_zero, List.drop_zero] at hc | simp only [wrapu64m, wrapu32m] at hc))) | ((with_reducible refine compat_ok ?_); kernel_rfl) | with_reducible apply And.intro | (first | simp (disch := omega) only [wrap64, wrapu64, wrapu32, sh32, fdiv32, Int.tdiv_eq_ediv_of_nonneg, Int.tmod_eq_emod_of_nonneg, tn_add, tn_add1, Int.toNat_natCast, Int.toNat_zero, List.drop_zero] | simp only [wrapu64m, wrapu32m]) | (with_reducible intro hg; (try simp only [vb, decide_eq_true_eq, decide_eq_false_iff_not, beq_iff_eq, beq_eq_false_iff_ne, bne_iff_ne, bne_eq_false_iff_eq, Bool.not_eq_true', Bool.not_eq_false', reduceCtorEq] at hg); (try (first | simp (disch := omega) only [wrap64, wrapu64, wrapu32, sh32, fdiv32, Int.tdiv_eq_ediv_of_nonneg, Int.tmod_eq_emod_of_nonneg, tn_add, tn_add1, Int.toNat_natCast, Int.toNat_zero, List.drop_zero] at hg | simp only [wrapu64m, wrapu32m] at hg))))
    all_goals try omega
    simp only [finR, resAs, resA, resLe, lsLe, lkS, lkM, pubs, pub, tie_sz, ti_sz, tie_ek, ti_ek,  nilAV, MM.upd, MM.set, AV.part, AV.cells, AV.agg, List.tail, List.headD, Nat.reduceAdd, Nat.reduceEqDiff, Nat.reduceLT, ↓reduceIte, and_true, true_and, and_self, reduceCtorEq]
    exact AVle_int (by rw [startU, if_neg hm])
  have hm' := decide_eq_true hm
  show Run Tryz.prog ti env61 31 (finR ti [.tmp 4] _) _ _ _
  repeat' (first | with_reducible refine run_seq ?_ | with_reducible refine run_block ?_ | with_reducible refine step_code ?_ | with_reducible refine step_blk ?_ | with_reducible refine run_skip ?_ | with_reducible refine run_exit ?_ | with_reducible refine exits_code ?_ | with_reducible refine exits_here ?_ | with_reducible refine exits_blk rfl ?_ | with_reducible refine exits_lp ?_ | with_reducible refine run_ret ?_ | ((first | with_reducible refine run_region ?_ | with_reducible refine run_draw (by kernel_rfl) ?_); simp only [↓guardP_tt, ↓guardP_tf, ↓guardP_ft, ↓guardP_ff, guardP_t, guardP_f, evalQ, evalR, effQ, effR, skipS, opEff, evO, plainV, lkS, lkM, updL, putS, tie_sz, tie_zero, tie_zeroB, tie_fld, tie_ek, tie_int, tie_isb, tie_eq2, tie_f1, tie_ms,  ti_f1, ti_ms, ti_sz, ti_zero, ti_zeroB, ti_fld, ti_ek, ti_int, ti_isb, ti_eq2, binA, binI, intOp, funOf_v, cloOf_v, calIds, appEff, frE, foldB, foldS, castL_self, K.enc, K.dec, K.zero, K.es, K.bytes, AV.part, AV.setPart, AV.cells, AV.agg, AV.nth, Bool.false_eq_true, callEff, pubs, pub, nilAV, MM.upd, MM.set, argS, gdst, opIds, lids, AV.ids, List.getD_cons_succ, List.getD_cons_zero, List.map, List.tail, List.headD, List.nil_append, List.append_nil, List.cons_append, List.length_nil, List.length_cons, List.zip_cons_cons, List.zip_nil_right, List.set_cons_zero, List.set_cons_succ, List.replicate, Option.isSome_some, Option.map_some, Bool.not_true, Bool.not_false, forall_const, false_implies, Nat.reduceAdd, Nat.reduceEqDiff, Nat.reduceLT, Nat.reduceSub, Nat.reduceMul, Nat.reduceLeDiff, ↓reduceIte, and_true, true_and, and_self, false_and, and_false, reduceCtorEq, env61, ctMayU, uOf, heta, hm']) | (with_reducible refine run_cond (by with_unfolding_all exact rfl) ?_ ?_ <;> intro hc <;> (try simp only [vb, decide_eq_true_eq, decide_eq_false_iff_not, beq_iff_eq, beq_eq_false_iff_ne, bne_iff_ne, bne_eq_false_iff_eq, Bool.not_eq_true', Bool.not_eq_false', reduceCtorEq] at hc) <;> (try (first | simp (disch := omega) only [wrap64, wrapu64, wrapu32, sh32, fdiv32, Int.tdiv_eq_ediv_of_nonneg, Int.tmod_eq_emod_of_nonneg, tn_add, tn_add1, Int.toNat_natCast, Int.toNat_zero, List.drop_zero] at hc | simp only [wrapu64m, wrapu32m] at hc))) | ((with_reducible refine compat_ok ?_); kernel_rfl) | with_reducible apply And.intro | (first | simp (disch := omega) only [wrap64, wrapu64, wrapu32, sh32, fdiv32, Int.tdiv_eq_ediv_of_nonneg, Int.tmod_eq_emod_of_nonneg, tn_add, tn_add1, Int.toNat_natCast, Int.toNat_zero, List.drop_zero] | simp only [wrapu64m, wrapu32m]) | (with_reducible intro hg; (try simp only [vb, decide_eq_true_eq, decide_eq_false_iff_not, beq_iff_eq, beq_eq_false_iff_ne, bne_iff_ne, bne_eq_false_iff_eq, Bool.not_eq_true', Bool.not_eq_false', reduceCtorEq] at hg); (try (first | simp (disch := omega) only [wrap64, wrapu64, wrapu32, sh32, fdiv32, Int.tdiv_eq_ediv_of_nonneg, Int.tmod_eq_emod_of_nonneg, tn_add, tn_add1, Int.toNat_natCast, Int.toNat_zero, List.drop_zero] at hg | simp only [wrapu64m, wrapu32m] at hg))))
  all_goals try omega
  refine run_loop (ι := Nat × Bool × Int) (fun x => ⟨[(17, vi x.1), (16, vi row.length), (15, .lst .bool row), (6, vb x.2.1), (5, vi x.2.2), (2, .ptr 0 0)], [(0, some (.box 49 (uAV u)))], 13⟩)
    (fun x => x.1 ≤ row.length ∧ 0 ≤ x.2.2 ∧ x.2.2 ≤ x.1 ∧ startF (decide (u.on > 0)) row = x.2.2 + startF x.2.1 (row.drop x.1)) (fun x => row.length - x.1) (0, decide (u.on > 0), 0) ⟨Nat.zero_le _, by simp, by simp, by simp⟩ ?_ ?_
  · (refine AS.le_of ?_ ?_ <;> simp only [slLe, memLe, entLe, lkS, lkM, Nat.reduceEqDiff, Nat.reduceLT, or_true, true_or, reduceCtorEq, ↓reduceIte, and_true, true_and] <;> (repeat' with_reducible apply And.intro) <;> (try (first | ((with_reducible refine AV.le_refl ?_); rfl) | with_reducible exact AV.le_junk | with_reducible exact AV.le_nil | ((with_reducible refine AV.le_int ?_); omega) | (with_reducible refine AV.le_int ?_) | (with_reducible refine AV.le_bool ?_) | ((with_reducible refine AV.le_lst ?_); try rfl) | (with_reducible refine AV.le_q ?_ ?_ ?_) | exact fun _ _ h => h | (with_reducible refine RC_qle ?_ ?_ ?_))))
  rintro ⟨i, w, n⟩ ⟨hi, hn1, hn2, hf⟩
  simp only at hi hn1 hn2 hf
  by_cases hlt : i < row.length
  · rw [drop_getD false hlt] at hf
    simp only [startF] at hf
    cases hon : row.getD i false <;> cases w
    all_goals
      rw [hon] at hf
      simp only [and_self, reduceCtorEq, and_false, false_and, ↓reduceIte, Int.zero_add] at hf
      repeat' (first | with_reducible refine run_seq ?_ | with_reducible refine run_block ?_ | with_reducible refine step_code ?_ | with_reducible refine step_blk ?_ | with_reducible refine run_skip ?_ | with_reducible refine run_exit ?_ | with_reducible refine exits_code ?_ | with_reducible refine exits_here ?_ | with_reducible refine exits_blk rfl ?_ | with_reducible refine exits_lp ?_ | with_reducible refine run_ret ?_ | ((first | with_reducible refine run_region ?_ | with_reducible refine run_draw (by kernel_rfl) ?_); simp only [↓guardP_tt, ↓guardP_tf, ↓guardP_ft, ↓guardP_ff, guardP_t, guardP_f, evalQ, evalR, effQ, effR, skipS, opEff, evO, plainV, lkS, lkM, updL, putS, tie_sz, tie_zero, tie_zeroB, tie_fld, tie_ek, tie_int, tie_isb, tie_eq2, tie_f1, tie_ms,  ti_f1, ti_ms, ti_sz, ti_zero, ti_zeroB, ti_fld, ti_ek, ti_int, ti_isb, ti_eq2, binA, binI, intOp, funOf_v, cloOf_v, calIds, appEff, frE, foldB, foldS, castL_self, K.enc, K.dec, K.zero, K.es, K.bytes, AV.part, AV.setPart, AV.cells, AV.agg, AV.nth, Bool.false_eq_true, callEff, pubs, pub, nilAV, MM.upd, MM.set, argS, gdst, opIds, lids, AV.ids, List.getD_cons_succ, List.getD_cons_zero, List.map, List.tail, List.headD, List.nil_append, List.append_nil, List.cons_append, List.length_nil, List.length_cons, List.zip_cons_cons, List.zip_nil_right, List.set_cons_zero, List.set_cons_succ, List.replicate, Option.isSome_some, Option.map_some, Bool.not_true, Bool.not_false, forall_const, false_implies, Nat.reduceAdd, Nat.reduceEqDiff, Nat.reduceLT, Nat.reduceSub, Nat.reduceMul, Nat.reduceLeDiff, ↓reduceIte, and_true, true_and, and_self, false_and, and_false, reduceCtorEq, env61, hon, Int.toNat_natCast]) | (with_reducible refine run_cond (by with_unfolding_all exact rfl) ?_ ?_ <;> intro hc <;> (try simp only [vb, decide_eq_true_eq, decide_eq_false_iff_not, beq_iff_eq, beq_eq_false_iff_ne, bne_iff_ne, bne_eq_false_iff_eq, Bool.not_eq_true', Bool.not_eq_false', reduceCtorEq] at hc) <;> (try (first | simp (disch := omega) only [wrap64, wrapu64, wrapu32, sh32, fdiv32, Int.tdiv_eq_ediv_of_nonneg, Int.tmod_eq_emod_of_nonneg, tn_add, tn_add1, Int.toNat_natCast, Int.toNat_zero, List.drop_zero] at hc | simp only [wrapu64m, wrapu32m] at hc))) | ((with_reducible refine compat_ok ?_); kernel_rfl) | with_reducible apply And.intro | (first | simp (disch := omega) only [wrap64, wrapu64, wrapu32, sh32, fdiv32, Int.tdiv_eq_ediv_of_nonneg, Int.tmod_eq_emod_of_nonneg, tn_add, tn_add1, Int.toNat_natCast, Int.toNat_zero, List.drop_zero] | simp only [wrapu64m, wrapu32m]) | (with_reducible intro hg; (try simp only [vb, decide_eq_true_eq, decide_eq_false_iff_not, beq_iff_eq, beq_eq_false_iff_ne, bne_iff_ne, bne_eq_false_iff_eq, Bool.not_eq_true', Bool.not_eq_false', reduceCtorEq] at hg); (try (first | simp (disch := omega) only [wrap64, wrapu64, wrapu32, sh32, fdiv32, Int.tdiv_eq_ediv_of_nonneg, Int.tmod_eq_emod_of_nonneg, tn_add, tn_add1, Int.toNat_natCast, Int.toNat_zero, List.drop_zero] at hg | simp only [wrapu64m, wrapu32m] at hg))))
      all_goals try omega
      all_goals first
        | (refine step_lp ⟨(i + 1, true, n + 1), ⟨by simp only; omega, by simp only; omega, by simp only; omega, by simp only; omega⟩, by simp only; omega, ?_⟩
           (refine AS.le_of ?_ ?_ <;> simp only [slLe, memLe, entLe, lkS, lkM, Nat.reduceEqDiff, Nat.reduceLT, or_true, true_or, reduceCtorEq, ↓reduceIte, and_true, true_and] <;> (repeat' with_reducible apply And.intro) <;> (try (first | ((with_reducible refine AV.le_refl ?_); rfl) | with_reducible exact AV.le_junk | with_reducible exact AV.le_nil | ((with_reducible refine AV.le_int ?_); omega) | (with_reducible refine AV.le_int ?_) | (with_reducible refine AV.le_bool ?_) | ((with_reducible refine AV.le_lst ?_); try rfl) | (with_reducible refine AV.le_q ?_ ?_ ?_) | exact fun _ _ h => h | (with_reducible refine RC_qle ?_ ?_ ?_)))) <;> done)
        | (refine step_lp ⟨(i + 1, true, n), ⟨by simp only; omega, by simp only; omega, by simp only; omega, by simp only; omega⟩, by simp only; omega, ?_⟩
           (refine AS.le_of ?_ ?_ <;> simp only [slLe, memLe, entLe, lkS, lkM, Nat.reduceEqDiff, Nat.reduceLT, or_true, true_or, reduceCtorEq, ↓reduceIte, and_true, true_and] <;> (repeat' with_reducible apply And.intro) <;> (try (first | ((with_reducible refine AV.le_refl ?_); rfl) | with_reducible exact AV.le_junk | with_reducible exact AV.le_nil | ((with_reducible refine AV.le_int ?_); omega) | (with_reducible refine AV.le_int ?_) | (with_reducible refine AV.le_bool ?_) | ((with_reducible refine AV.le_lst ?_); try rfl) | (with_reducible refine AV.le_q ?_ ?_ ?_) | exact fun _ _ h => h | (with_reducible refine RC_qle ?_ ?_ ?_)))) <;> done)
        | (refine step_lp ⟨(i + 1, false, n), ⟨by simp only; omega, by simp only; omega, by simp only; omega, by simp only; omega⟩, by simp only; omega, ?_⟩
           (refine AS.le_of ?_ ?_ <;> simp only [slLe, memLe, entLe, lkS, lkM, Nat.reduceEqDiff, Nat.reduceLT, or_true, true_or, reduceCtorEq, ↓reduceIte, and_true, true_and] <;> (repeat' with_reducible apply And.intro) <;> (try (first | ((with_reducible refine AV.le_refl ?_); rfl) | with_reducible exact AV.le_junk | with_reducible exact AV.le_nil | ((with_reducible refine AV.le_int ?_); omega) | (with_reducible refine AV.le_int ?_) | (with_reducible refine AV.le_bool ?_) | ((with_reducible refine AV.le_lst ?_); try rfl) | (with_reducible refine AV.le_q ?_ ?_ ?_) | exact fun _ _ h => h | (with_reducible refine RC_qle ?_ ?_ ?_)))) <;> done)
  · repeat' (first | with_reducible refine run_seq ?_ | with_reducible refine run_block ?_ | with_reducible refine step_code ?_ | with_reducible refine step_blk ?_ | with_reducible refine run_skip ?_ | with_reducible refine run_exit ?_ | with_reducible refine exits_code ?_ | with_reducible refine exits_here ?_ | with_reducible refine exits_blk rfl ?_ | with_reducible refine exits_lp ?_ | with_reducible refine run_ret ?_ | ((first | with_reducible refine run_region ?_ | with_reducible refine run_draw (by kernel_rfl) ?_); simp only [↓guardP_tt, ↓guardP_tf, ↓guardP_ft, ↓guardP_ff, guardP_t, guardP_f, evalQ, evalR, effQ, effR, skipS, opEff, evO, plainV, lkS, lkM, updL, putS, tie_sz, tie_zero, tie_zeroB, tie_fld, tie_ek, tie_int, tie_isb, tie_eq2, tie_f1, tie_ms,  ti_f1, ti_ms, ti_sz, ti_zero, ti_zeroB, ti_fld, ti_ek, ti_int, ti_isb, ti_eq2, binA, binI, intOp, funOf_v, cloOf_v, calIds, appEff, frE, foldB, foldS, castL_self, K.enc, K.dec, K.zero, K.es, K.bytes, AV.part, AV.setPart, AV.cells, AV.agg, AV.nth, Bool.false_eq_true, callEff, pubs, pub, nilAV, MM.upd, MM.set, argS, gdst, opIds, lids, AV.ids, List.getD_cons_succ, List.getD_cons_zero, List.map, List.tail, List.headD, List.nil_append, List.append_nil, List.cons_append, List.length_nil, List.length_cons, List.zip_cons_cons, List.zip_nil_right, List.set_cons_zero, List.set_cons_succ, List.replicate, Option.isSome_some, Option.map_some, Bool.not_true, Bool.not_false, forall_const, false_implies, Nat.reduceAdd, Nat.reduceEqDiff, Nat.reduceLT, Nat.reduceSub, Nat.reduceMul, Nat.reduceLeDiff, ↓reduceIte, and_true, true_and, and_self, false_and, and_false, reduceCtorEq, env61]) | (with_reducible refine run_cond (by with_unfolding_all exact rfl) ?_ ?_ <;> intro hc <;> (try simp only [vb, decide_eq_true_eq, decide_eq_false_iff_not, beq_iff_eq, beq_eq_false_iff_ne, bne_iff_ne, bne_eq_false_iff_eq, Bool.not_eq_true', Bool.not_eq_false', reduceCtorEq] at hc) <;> (try (first | simp (disch := omega) only [wrap64, wrapu64, wrapu32, sh32, fdiv32, Int.tdiv_eq_ediv_of_nonneg, Int.tmod_eq_emod_of_nonneg, tn_add, tn_add1, Int.toNat_natCast, Int.toNat_zero, List.drop_zero] at hc | simp only [wrapu64m, wrapu32m] at hc))) | ((with_reducible refine compat_ok ?_); kernel_rfl) | with_reducible apply And.intro | (first | simp (disch := omega) only [wrap64, wrapu64, wrapu32, sh32, fdiv32, Int.tdiv_eq_ediv_of_nonneg, Int.tmod_eq_emod_of_nonneg, tn_add, tn_add1, Int.toNat_natCast, Int.toNat_zero, List.drop_zero] | simp only [wrapu64m, wrapu32m]) | (with_reducible intro hg; (try simp only [vb, decide_eq_true_eq, decide_eq_false_iff_not, beq_iff_eq, beq_eq_false_iff_ne, bne_iff_ne, bne_eq_false_iff_eq, Bool.not_eq_true', Bool.not_eq_false', reduceCtorEq] at hg); (try (first | simp (disch := omega) only [wrap64, wrapu64, wrapu32, sh32, fdiv32, Int.tdiv_eq_ediv_of_nonneg, Int.tmod_eq_emod_of_nonneg, tn_add, tn_add1, Int.toNat_natCast, Int.toNat_zero, List.drop_zero] at hg | simp only [wrapu64m, wrapu32m] at hg))))
    all_goals try omega
    simp only [finR, resAs, resA, resLe, lsLe, lkS, lkM, pubs, pub, tie_sz, ti_sz, tie_ek, ti_ek,  nilAV, MM.upd, MM.set, AV.part, AV.cells, AV.agg, List.tail, List.headD, Nat.reduceAdd, Nat.reduceEqDiff, Nat.reduceLT, ↓reduceIte, and_true, true_and, and_self, reduceCtorEq]
    refine AVle_int ?_
    rw [List.drop_eq_nil_of_le (by omega)] at hf
    rw [startU, if_pos hm, hf]
    simp [startF]
end Go.AE

/- Contracts: package path, hours and profits. -/
namespace Go.AE
open Go.Proofs Go.RowKit
set_option linter.unusedVariables false
set_option linter.unusedSimpArgs false
set_option maxRecDepth 20000

def wrongP (u : U) (n : Nat) : Int := if ¬ mayU u then checkU u 6 else if n > 8 then 5 else 0
def env62 : Env := fun g => match g with | 74 => some ctCheckU | _ => none
theorem env62_ok : EnvOk Tryz.prog env62 := by
  intro g ct h
  simp only [env62] at h
  split at h <;> first | (cases h; exact ok74) | cases h
def ctWrongP : Ct := fun l => match l with
  | [a, .lst k l] => match uOf a with
    | some u => some (u.steps.length ≤ 1099511627776, vi (wrongP u l.length))
    | none => none
  | _ => none
theorem ok77 : Sound Tryz.prog 77 ctWrongP := by
  refine sound_of (fn := Tryz.f77) rfl rfl rfl tiOk env62_ok mix ?_ (by intro l p r h; unfold ctWrongP at h; split at h <;> first | cases h | (split at h <;> cases h; exact Nat.le_of_ble_eq_true rfl))
  intro l p r h hp F vs hv
  unfold ctWrongP at h
  split at h
  rotate_left
  · cases h
  split at h <;> cases h
  rename_i u hu
  obtain rfl := uOf_eq hu
  refine ⟨_, hv, ?_⟩
  rename_i k l _
  have heta : (⟨u.bus, u.min, u.steps, u.up, u.down, u.start, u.idle, u.spin, u.on⟩ : U) = u := rfl
  by_cases hm : mayU u
  · have hm' : checkU u 6 = 0 := hm
    show Run Tryz.prog ti env62 14 (finR ti [.tmp 4] _) _ _ _
    repeat' (first | with_reducible refine run_seq ?_ | with_reducible refine run_block ?_ | with_reducible refine step_code ?_ | with_reducible refine step_blk ?_ | with_reducible refine run_skip ?_ | with_reducible refine run_exit ?_ | with_reducible refine exits_code ?_ | with_reducible refine exits_here ?_ | with_reducible refine exits_blk rfl ?_ | with_reducible refine exits_lp ?_ | with_reducible refine run_ret ?_ | ((first | with_reducible refine run_region ?_ | with_reducible refine run_draw (by kernel_rfl) ?_); simp only [↓guardP_tt, ↓guardP_tf, ↓guardP_ft, ↓guardP_ff, guardP_t, guardP_f, evalQ, evalR, effQ, effR, skipS, opEff, evO, plainV, lkS, lkM, updL, putS, tie_sz, tie_zero, tie_zeroB, tie_fld, tie_ek, tie_int, tie_isb, tie_eq2, tie_f1, tie_ms,  ti_f1, ti_ms, ti_sz, ti_zero, ti_zeroB, ti_fld, ti_ek, ti_int, ti_isb, ti_eq2, binA, binI, intOp, funOf_v, cloOf_v, calIds, appEff, frE, foldB, foldS, castL_self, K.enc, K.dec, K.zero, K.es, K.bytes, AV.part, AV.setPart, AV.cells, AV.agg, AV.nth, Bool.false_eq_true, callEff, pubs, pub, nilAV, MM.upd, MM.set, argS, gdst, opIds, lids, AV.ids, List.getD_cons_succ, List.getD_cons_zero, List.map, List.tail, List.headD, List.nil_append, List.append_nil, List.cons_append, List.length_nil, List.length_cons, List.zip_cons_cons, List.zip_nil_right, List.set_cons_zero, List.set_cons_succ, List.replicate, Option.isSome_some, Option.map_some, Bool.not_true, Bool.not_false, forall_const, false_implies, Nat.reduceAdd, Nat.reduceEqDiff, Nat.reduceLT, Nat.reduceSub, Nat.reduceMul, Nat.reduceLeDiff, ↓reduceIte, and_true, true_and, and_self, false_and, and_false, reduceCtorEq, env62, ctCheckU, uOf, heta, hm', bne_self_eq_false]) | (with_reducible refine run_cond (by with_unfolding_all exact rfl) ?_ ?_ <;> intro hc <;> (try simp only [vb, decide_eq_true_eq, decide_eq_false_iff_not, beq_iff_eq, beq_eq_false_iff_ne, bne_iff_ne, bne_eq_false_iff_eq, Bool.not_eq_true', Bool.not_eq_false', reduceCtorEq] at hc) <;> (try (first | simp (disch := omega) only [wrap64, wrapu64, wrapu32, sh32, fdiv32, Int.tdiv_eq_ediv_of_nonneg, Int.tmod_eq_emod_of_nonneg, tn_add, tn_add1, Int.toNat_natCast, Int.toNat_zero, List.drop_zero] at hc | simp only [wrapu64m, wrapu32m] at hc))) | ((with_reducible refine compat_ok ?_); kernel_rfl) | with_reducible apply And.intro | (first | simp (disch := omega) only [wrap64, wrapu64, wrapu32, sh32, fdiv32, Int.tdiv_eq_ediv_of_nonneg, Int.tmod_eq_emod_of_nonneg, tn_add, tn_add1, Int.toNat_natCast, Int.toNat_zero, List.drop_zero] | simp only [wrapu64m, wrapu32m]) | (with_reducible intro hg; (try simp only [vb, decide_eq_true_eq, decide_eq_false_iff_not, beq_iff_eq, beq_eq_false_iff_ne, bne_iff_ne, bne_eq_false_iff_eq, Bool.not_eq_true', Bool.not_eq_false', reduceCtorEq] at hg); (try (first | simp (disch := omega) only [wrap64, wrapu64, wrapu32, sh32, fdiv32, Int.tdiv_eq_ediv_of_nonneg, Int.tmod_eq_emod_of_nonneg, tn_add, tn_add1, Int.toNat_natCast, Int.toNat_zero, List.drop_zero] at hg | simp only [wrapu64m, wrapu32m] at hg))))
    all_goals try omega
    · simp only [finR, resAs, resA, resLe, lsLe, lkS, lkM, pubs, pub, tie_sz, ti_sz, tie_ek, ti_ek,  nilAV, MM.upd, MM.set, AV.part, AV.cells, AV.agg, List.tail, List.headD, Nat.reduceAdd, Nat.reduceEqDiff, Nat.reduceLT, ↓reduceIte, and_true, true_and, and_self, reduceCtorEq]
      exact AVle_int (by rw [wrongP, if_neg (by simpa using hm), if_pos (by omega)])
    · simp only [finR, resAs, resA, resLe, lsLe, lkS, lkM, pubs, pub, tie_sz, ti_sz, tie_ek, ti_ek,  nilAV, MM.upd, MM.set, AV.part, AV.cells, AV.agg, List.tail, List.headD, Nat.reduceAdd, Nat.reduceEqDiff, Nat.reduceLT, ↓reduceIte, and_true, true_and, and_self, reduceCtorEq]
      exact AVle_int (by rw [wrongP, if_neg (by simpa using hm), if_neg (by omega)])
  · have hm' : (checkU u 6 != 0) = true := bne_iff_ne.2 hm
    show Run Tryz.prog ti env62 14 (finR ti [.tmp 4] _) _ _ _
    repeat' (first | with_reducible refine run_seq ?_ | with_reducible refine run_block ?_ | with_reducible refine step_code ?_ | with_reducible refine step_blk ?_ | with_reducible refine run_skip ?_ | with_reducible refine run_exit ?_ | with_reducible refine exits_code ?_ | with_reducible refine exits_here ?_ | with_reducible refine exits_blk rfl ?_ | with_reducible refine exits_lp ?_ | with_reducible refine run_ret ?_ | ((first | with_reducible refine run_region ?_ | with_reducible refine run_draw (by kernel_rfl) ?_); simp only [↓guardP_tt, ↓guardP_tf, ↓guardP_ft, ↓guardP_ff, guardP_t, guardP_f, evalQ, evalR, effQ, effR, skipS, opEff, evO, plainV, lkS, lkM, updL, putS, tie_sz, tie_zero, tie_zeroB, tie_fld, tie_ek, tie_int, tie_isb, tie_eq2, tie_f1, tie_ms,  ti_f1, ti_ms, ti_sz, ti_zero, ti_zeroB, ti_fld, ti_ek, ti_int, ti_isb, ti_eq2, binA, binI, intOp, funOf_v, cloOf_v, calIds, appEff, frE, foldB, foldS, castL_self, K.enc, K.dec, K.zero, K.es, K.bytes, AV.part, AV.setPart, AV.cells, AV.agg, AV.nth, Bool.false_eq_true, callEff, pubs, pub, nilAV, MM.upd, MM.set, argS, gdst, opIds, lids, AV.ids, List.getD_cons_succ, List.getD_cons_zero, List.map, List.tail, List.headD, List.nil_append, List.append_nil, List.cons_append, List.length_nil, List.length_cons, List.zip_cons_cons, List.zip_nil_right, List.set_cons_zero, List.set_cons_succ, List.replicate, Option.isSome_some, Option.map_some, Bool.not_true, Bool.not_false, forall_const, false_implies, Nat.reduceAdd, Nat.reduceEqDiff, Nat.reduceLT, Nat.reduceSub, Nat.reduceMul, Nat.reduceLeDiff, ↓reduceIte, and_true, true_and, and_self, false_and, and_false, reduceCtorEq, env62, ctCheckU, uOf, heta, hm']) | (with_reducible refine run_cond (by with_unfolding_all exact rfl) ?_ ?_ <;> intro hc <;> (try simp only [vb, decide_eq_true_eq, decide_eq_false_iff_not, beq_iff_eq, beq_eq_false_iff_ne, bne_iff_ne, bne_eq_false_iff_eq, Bool.not_eq_true', Bool.not_eq_false', reduceCtorEq] at hc) <;> (try (first | simp (disch := omega) only [wrap64, wrapu64, wrapu32, sh32, fdiv32, Int.tdiv_eq_ediv_of_nonneg, Int.tmod_eq_emod_of_nonneg, tn_add, tn_add1, Int.toNat_natCast, Int.toNat_zero, List.drop_zero] at hc | simp only [wrapu64m, wrapu32m] at hc))) | ((with_reducible refine compat_ok ?_); kernel_rfl) | with_reducible apply And.intro | (first | simp (disch := omega) only [wrap64, wrapu64, wrapu32, sh32, fdiv32, Int.tdiv_eq_ediv_of_nonneg, Int.tmod_eq_emod_of_nonneg, tn_add, tn_add1, Int.toNat_natCast, Int.toNat_zero, List.drop_zero] | simp only [wrapu64m, wrapu32m]) | (with_reducible intro hg; (try simp only [vb, decide_eq_true_eq, decide_eq_false_iff_not, beq_iff_eq, beq_eq_false_iff_ne, bne_iff_ne, bne_eq_false_iff_eq, Bool.not_eq_true', Bool.not_eq_false', reduceCtorEq] at hg); (try (first | simp (disch := omega) only [wrap64, wrapu64, wrapu32, sh32, fdiv32, Int.tdiv_eq_ediv_of_nonneg, Int.tmod_eq_emod_of_nonneg, tn_add, tn_add1, Int.toNat_natCast, Int.toNat_zero, List.drop_zero] at hg | simp only [wrapu64m, wrapu32m] at hg))))
    all_goals try omega
    simp only [finR, resAs, resA, resLe, lsLe, lkS, lkM, pubs, pub, tie_sz, ti_sz, tie_ek, ti_ek,  nilAV, MM.upd, MM.set, AV.part, AV.cells, AV.agg, List.tail, List.headD, Nat.reduceAdd, Nat.reduceEqDiff, Nat.reduceLT, ↓reduceIte, and_true, true_and, and_self, reduceCtorEq]
    exact AVle_int (by rw [wrongP, if_pos hm])
def hourQ (u : U) (p : Rat) : Int := max (supL u.steps p) u.min
def hourP (u : U) (p : Rat) : Rat := p * (hourQ u p : Rat) - (costK u.steps (hourQ u p : Rat) + (u.idle : Rat))
def hourQ' (u : U) (p : Rat) : Int := if mayU u then hourQ u p else 0
def hourP' (u : U) (p : Rat) : Rat := if mayU u then hourP u p else 0
theorem hourQ_bound {u : U} (h : mayU u) (p : Rat) : 0 ≤ hourQ u p ∧ hourQ u p ≤ 3000000 := by
  obtain ⟨h1, h2⟩ := mayU_ok h
  obtain ⟨h3, _⟩ := checkK_ok h1
  have h4 := (checkK_ok h1).2
  unfold okU maxU at h2
  rw [if_pos h1] at h2
  have hs := sumL_bound h4.2.1
  have hk : sumK u.steps ≤ 3000000 := by
    unfold sumK
    split <;> omega
  have hw := sum_bound (f := fun s => if 1 * cmpQ (s.2 : Rat) p < 0 then s.1 else 0) h4.2.1 (fun s => by split <;> simp)
  have hsup : supL u.steps p ≤ 3000000 := by
    unfold supL
    split
    · have : wantL u.steps p 1 ≤ 1000000 * u.steps.length := hw.2
      omega
    · omega
  unfold hourQ
  omega
def ctHour : Ct := fun l => match l with
  | [a, b] => match uOf a, qA b with
    | some u, some (p, s) => some (u.steps.length ≤ 1099511627776 ∧ s ≤ 1000, .tup (.tc (vi (hourQ' u p)) (.tc (.q (hourP' u p) true 24000) (.tc (vi (checkU u 6)) .tn))))
    | _, _ => none
  | _ => none
def env63 : Env := fun g => match g with | 74 => some ctCheckU | 18 => some ctSupply | 60 => some ctFromQ | 13 => some ctCost | 63 => some ctAddQ | 64 => some ctMulQ | 62 => some ctSubQ | _ => none
theorem env63_ok : EnvOk Tryz.prog env63 := by
  intro g ct h
  simp only [env63] at h
  split at h <;> first | (cases h; exact ok74) | (cases h; exact ok18) | (cases h; exact ok60) | (cases h; exact ok13) | (cases h; exact ok63) | (cases h; exact ok64) | (cases h; exact ok62) | cases h
theorem ok32 : Sound Tryz.prog 32 ctHour := by
  refine sound_of (fn := Tryz.f32) rfl rfl rfl tiOk env63_ok mix ?_ (by intro l p r h; unfold ctHour at h; split at h <;> first | cases h | (split at h <;> cases h; exact Nat.le_of_ble_eq_true rfl))
  intro l p r h hp F vs hv
  unfold ctHour at h
  split at h
  rotate_left
  · cases h
  split at h <;> cases h
  rename_i az bz _ _ u p s hu ha
  obtain rfl := uOf_eq hu
  obtain ⟨v0, r0, rfl, a0, v1, r1, rfl, a1, hv⟩ := hv
  replace a1 := qA_q ha a1
  refine ⟨[_, _], ⟨_, _, rfl, a0, _, _, rfl, a1, hv⟩, ?_⟩
  have heta : (⟨u.bus, u.min, u.steps, u.up, u.down, u.start, u.idle, u.spin, u.on⟩ : U) = u := rfl
  by_cases hm : mayU u
  · have hm' : checkU u 6 = 0 := hm
    have hb := hourQ_bound hm p
    have hok := (mayU_ok hm).2
    unfold okU at hok
    have hmx : (if u.min > supL u.steps p then u.min else supL u.steps p) = hourQ u p := by unfold hourQ; omega
    show Run Tryz.prog ti env63 48 (finR ti [.tmp 4, .cell 5 27, .tmp 6] _) _ _ _
    repeat' (first | with_reducible refine run_seq ?_ | with_reducible refine run_block ?_ | with_reducible refine step_code ?_ | with_reducible refine step_blk ?_ | with_reducible refine run_skip ?_ | with_reducible refine run_exit ?_ | with_reducible refine exits_code ?_ | with_reducible refine exits_here ?_ | with_reducible refine exits_blk rfl ?_ | with_reducible refine exits_lp ?_ | with_reducible refine run_ret ?_ | ((first | with_reducible refine run_region ?_ | with_reducible refine run_draw (by kernel_rfl) ?_); simp only [↓guardP_tt, ↓guardP_tf, ↓guardP_ft, ↓guardP_ff, guardP_t, guardP_f, evalQ, evalR, effQ, effR, skipS, opEff, evO, plainV, lkS, lkM, updL, putS, tie_sz, tie_zero, tie_zeroB, tie_fld, tie_ek, tie_int, tie_isb, tie_eq2, tie_f1, tie_ms,  ti_f1, ti_ms, ti_sz, ti_zero, ti_zeroB, ti_fld, ti_ek, ti_int, ti_isb, ti_eq2, binA, binI, intOp, funOf_v, cloOf_v, calIds, appEff, frE, foldB, foldS, castL_self, K.enc, K.dec, K.zero, K.es, K.bytes, AV.part, AV.setPart, AV.cells, AV.agg, AV.nth, Bool.false_eq_true, callEff, pubs, pub, nilAV, MM.upd, MM.set, argS, gdst, opIds, lids, AV.ids, List.getD_cons_succ, List.getD_cons_zero, List.map, List.tail, List.headD, List.nil_append, List.append_nil, List.cons_append, List.length_nil, List.length_cons, List.zip_cons_cons, List.zip_nil_right, List.set_cons_zero, List.set_cons_succ, List.replicate, Option.isSome_some, Option.map_some, Bool.not_true, Bool.not_false, forall_const, false_implies, Nat.reduceAdd, Nat.reduceEqDiff, Nat.reduceLT, Nat.reduceSub, Nat.reduceMul, Nat.reduceLeDiff, ↓reduceIte, and_true, true_and, and_self, false_and, and_false, reduceCtorEq, env63, ctCheckU, ctSupply, ctWant2, ctFromQ, ctCost, ctAddQ, ctMulQ, ctSubQ, ctQ2, uOf, qA, heta, hm', hmx, bne_self_eq_false]) | (with_reducible refine run_cond (by with_unfolding_all exact rfl) ?_ ?_ <;> intro hc <;> (try simp only [vb, decide_eq_true_eq, decide_eq_false_iff_not, beq_iff_eq, beq_eq_false_iff_ne, bne_iff_ne, bne_eq_false_iff_eq, Bool.not_eq_true', Bool.not_eq_false', reduceCtorEq] at hc) <;> (try (first | simp (disch := omega) only [wrap64, wrapu64, wrapu32, sh32, fdiv32, Int.tdiv_eq_ediv_of_nonneg, Int.tmod_eq_emod_of_nonneg, tn_add, tn_add1, Int.toNat_natCast, Int.toNat_zero, List.drop_zero] at hc | simp only [wrapu64m, wrapu32m] at hc))) | ((with_reducible refine compat_ok ?_); kernel_rfl) | with_reducible apply And.intro | (first | simp (disch := omega) only [wrap64, wrapu64, wrapu32, sh32, fdiv32, Int.tdiv_eq_ediv_of_nonneg, Int.tmod_eq_emod_of_nonneg, tn_add, tn_add1, Int.toNat_natCast, Int.toNat_zero, List.drop_zero] | simp only [wrapu64m, wrapu32m]) | (with_reducible intro hg; (try simp only [vb, decide_eq_true_eq, decide_eq_false_iff_not, beq_iff_eq, beq_eq_false_iff_ne, bne_iff_ne, bne_eq_false_iff_eq, Bool.not_eq_true', Bool.not_eq_false', reduceCtorEq] at hg); (try (first | simp (disch := omega) only [wrap64, wrapu64, wrapu32, sh32, fdiv32, Int.tdiv_eq_ediv_of_nonneg, Int.tmod_eq_emod_of_nonneg, tn_add, tn_add1, Int.toNat_natCast, Int.toNat_zero, List.drop_zero] at hg | simp only [wrapu64m, wrapu32m] at hg))))
    all_goals try omega
    simp only [finR, resAs, resA, resLe, lsLe, lkS, lkM, pubs, pub, tie_sz, ti_sz, tie_ek, ti_ek,  nilAV, MM.upd, MM.set, AV.part, AV.cells, AV.agg, List.tail, List.headD, Nat.reduceAdd, Nat.reduceEqDiff, Nat.reduceLT, ↓reduceIte, and_true, true_and, and_self, reduceCtorEq]
    exact ⟨AVle_int (by rw [hourQ', if_pos hm]), AVle_qq (by rw [hourP', if_pos hm, hourP]) (by omega) (fun h => h), AVle.rfl⟩
  · have hm' : (checkU u 6 != 0) = true := bne_iff_ne.2 hm
    have hz : qval 0 0 = 0 := qval_zero
    show Run Tryz.prog ti env63 48 (finR ti [.tmp 4, .cell 5 27, .tmp 6] _) _ _ _
    repeat' (first | with_reducible refine run_seq ?_ | with_reducible refine run_block ?_ | with_reducible refine step_code ?_ | with_reducible refine step_blk ?_ | with_reducible refine run_skip ?_ | with_reducible refine run_exit ?_ | with_reducible refine exits_code ?_ | with_reducible refine exits_here ?_ | with_reducible refine exits_blk rfl ?_ | with_reducible refine exits_lp ?_ | with_reducible refine run_ret ?_ | ((first | with_reducible refine run_region ?_ | with_reducible refine run_draw (by kernel_rfl) ?_); simp only [↓guardP_tt, ↓guardP_tf, ↓guardP_ft, ↓guardP_ff, guardP_t, guardP_f, evalQ, evalR, effQ, effR, skipS, opEff, evO, plainV, lkS, lkM, updL, putS, tie_sz, tie_zero, tie_zeroB, tie_fld, tie_ek, tie_int, tie_isb, tie_eq2, tie_f1, tie_ms,  ti_f1, ti_ms, ti_sz, ti_zero, ti_zeroB, ti_fld, ti_ek, ti_int, ti_isb, ti_eq2, binA, binI, intOp, funOf_v, cloOf_v, calIds, appEff, frE, foldB, foldS, castL_self, K.enc, K.dec, K.zero, K.es, K.bytes, AV.part, AV.setPart, AV.cells, AV.agg, AV.nth, Bool.false_eq_true, callEff, pubs, pub, nilAV, MM.upd, MM.set, argS, gdst, opIds, lids, AV.ids, List.getD_cons_succ, List.getD_cons_zero, List.map, List.tail, List.headD, List.nil_append, List.append_nil, List.cons_append, List.length_nil, List.length_cons, List.zip_cons_cons, List.zip_nil_right, List.set_cons_zero, List.set_cons_succ, List.replicate, Option.isSome_some, Option.map_some, Bool.not_true, Bool.not_false, forall_const, false_implies, Nat.reduceAdd, Nat.reduceEqDiff, Nat.reduceLT, Nat.reduceSub, Nat.reduceMul, Nat.reduceLeDiff, ↓reduceIte, and_true, true_and, and_self, false_and, and_false, reduceCtorEq, env63, ctCheckU, uOf, heta, hm']) | (with_reducible refine run_cond (by with_unfolding_all exact rfl) ?_ ?_ <;> intro hc <;> (try simp only [vb, decide_eq_true_eq, decide_eq_false_iff_not, beq_iff_eq, beq_eq_false_iff_ne, bne_iff_ne, bne_eq_false_iff_eq, Bool.not_eq_true', Bool.not_eq_false', reduceCtorEq] at hc) <;> (try (first | simp (disch := omega) only [wrap64, wrapu64, wrapu32, sh32, fdiv32, Int.tdiv_eq_ediv_of_nonneg, Int.tmod_eq_emod_of_nonneg, tn_add, tn_add1, Int.toNat_natCast, Int.toNat_zero, List.drop_zero] at hc | simp only [wrapu64m, wrapu32m] at hc))) | ((with_reducible refine compat_ok ?_); kernel_rfl) | with_reducible apply And.intro | (first | simp (disch := omega) only [wrap64, wrapu64, wrapu32, sh32, fdiv32, Int.tdiv_eq_ediv_of_nonneg, Int.tmod_eq_emod_of_nonneg, tn_add, tn_add1, Int.toNat_natCast, Int.toNat_zero, List.drop_zero] | simp only [wrapu64m, wrapu32m]) | (with_reducible intro hg; (try simp only [vb, decide_eq_true_eq, decide_eq_false_iff_not, beq_iff_eq, beq_eq_false_iff_ne, bne_iff_ne, bne_eq_false_iff_eq, Bool.not_eq_true', Bool.not_eq_false', reduceCtorEq] at hg); (try (first | simp (disch := omega) only [wrap64, wrapu64, wrapu32, sh32, fdiv32, Int.tdiv_eq_ediv_of_nonneg, Int.tmod_eq_emod_of_nonneg, tn_add, tn_add1, Int.toNat_natCast, Int.toNat_zero, List.drop_zero] at hg | simp only [wrapu64m, wrapu32m] at hg))))
    all_goals try omega
    simp only [finR, resAs, resA, resLe, lsLe, lkS, lkM, pubs, pub, tie_sz, ti_sz, tie_ek, ti_ek,  nilAV, MM.upd, MM.set, AV.part, AV.cells, AV.agg, List.tail, List.headD, Nat.reduceAdd, Nat.reduceEqDiff, Nat.reduceLT, ↓reduceIte, and_true, true_and, and_self, reduceCtorEq]
    exact ⟨AVle_int (by rw [hourQ', if_neg hm]), AVle_q (by omega) (by omega) (by rw [hourP', if_neg hm, hz]) (fun _ => ⟨rfl, rfl, .inl rfl⟩), AVle.rfl⟩
def hoursL (u : U) (l : List QV) : List QV := l.map fun x => ⟨hourP u x.x, true, 24000⟩
def env64 : Env := fun g => match g with | 32 => some ctHour | _ => none
theorem env64_ok : EnvOk Tryz.prog env64 := by
  intro g ct h
  simp only [env64] at h
  split at h <;> first | (cases h; exact ok32) | cases h
def ctHours : Ct := fun l => match l with
  | [a, .lst .q l] => match uOf a with
    | some u => some (u.steps.length ≤ 1099511627776 ∧ mayU u ∧ l.length ≤ 1000 ∧ ∀ x ∈ l, x.s ≤ 1000, .lst .q (hoursL u l))
    | none => none
  | _ => none
theorem ok80 : Sound Tryz.prog 80 ctHours := by
  refine sound_of (fn := Tryz.f80) rfl rfl rfl tiOk env64_ok mix ?_ (by intro l p r h; unfold ctHours at h; split at h <;> first | cases h | (split at h <;> cases h; exact Nat.le_of_ble_eq_true rfl))
  intro l p r h hp F vs hv
  unfold ctHours at h
  split at h
  rotate_left
  · cases h
  split at h <;> cases h
  rename_i u hu
  obtain rfl := uOf_eq hu
  refine ⟨_, hv, ?_⟩
  rename_i l _
  obtain ⟨hp1, hm, hp2, hp3⟩ := hp
  have heta : (⟨u.bus, u.min, u.steps, u.up, u.down, u.start, u.idle, u.spin, u.on⟩ : U) = u := rfl
  show Run Tryz.prog ti env64 30 (finR ti [.tmp 4] _) _ _ _
  repeat' (first | with_reducible refine run_seq ?_ | with_reducible refine run_block ?_ | with_reducible refine step_code ?_ | with_reducible refine step_blk ?_ | with_reducible refine run_skip ?_ | with_reducible refine run_exit ?_ | with_reducible refine exits_code ?_ | with_reducible refine exits_here ?_ | with_reducible refine exits_blk rfl ?_ | with_reducible refine exits_lp ?_ | with_reducible refine run_ret ?_ | ((first | with_reducible refine run_region ?_ | with_reducible refine run_draw (by kernel_rfl) ?_); simp only [↓guardP_tt, ↓guardP_tf, ↓guardP_ft, ↓guardP_ff, guardP_t, guardP_f, evalQ, evalR, effQ, effR, skipS, opEff, evO, plainV, lkS, lkM, updL, putS, tie_sz, tie_zero, tie_zeroB, tie_fld, tie_ek, tie_int, tie_isb, tie_eq2, tie_f1, tie_ms,  ti_f1, ti_ms, ti_sz, ti_zero, ti_zeroB, ti_fld, ti_ek, ti_int, ti_isb, ti_eq2, binA, binI, intOp, funOf_v, cloOf_v, calIds, appEff, frE, foldB, foldS, castL_self, K.enc, K.dec, K.zero, K.es, K.bytes, AV.part, AV.setPart, AV.cells, AV.agg, AV.nth, Bool.false_eq_true, callEff, pubs, pub, nilAV, MM.upd, MM.set, argS, gdst, opIds, lids, AV.ids, List.getD_cons_succ, List.getD_cons_zero, List.map, List.tail, List.headD, List.nil_append, List.append_nil, List.cons_append, List.length_nil, List.length_cons, List.zip_cons_cons, List.zip_nil_right, List.set_cons_zero, List.set_cons_succ, List.replicate, Option.isSome_some, Option.map_some, Bool.not_true, Bool.not_false, forall_const, false_implies, Nat.reduceAdd, Nat.reduceEqDiff, Nat.reduceLT, Nat.reduceSub, Nat.reduceMul, Nat.reduceLeDiff, ↓reduceIte, and_true, true_and, and_self, false_and, and_false, reduceCtorEq, env64]) | (with_reducible refine run_cond (by with_unfolding_all exact rfl) ?_ ?_ <;> intro hc <;> (try simp only [vb, decide_eq_true_eq, decide_eq_false_iff_not, beq_iff_eq, beq_eq_false_iff_ne, bne_iff_ne, bne_eq_false_iff_eq, Bool.not_eq_true', Bool.not_eq_false', reduceCtorEq] at hc) <;> (try (first | simp (disch := omega) only [wrap64, wrapu64, wrapu32, sh32, fdiv32, Int.tdiv_eq_ediv_of_nonneg, Int.tmod_eq_emod_of_nonneg, tn_add, tn_add1, Int.toNat_natCast, Int.toNat_zero, List.drop_zero] at hc | simp only [wrapu64m, wrapu32m] at hc))) | ((with_reducible refine compat_ok ?_); kernel_rfl) | with_reducible apply And.intro | (first | simp (disch := omega) only [wrap64, wrapu64, wrapu32, sh32, fdiv32, Int.tdiv_eq_ediv_of_nonneg, Int.tmod_eq_emod_of_nonneg, tn_add, tn_add1, Int.toNat_natCast, Int.toNat_zero, List.drop_zero] | simp only [wrapu64m, wrapu32m]) | (with_reducible intro hg; (try simp only [vb, decide_eq_true_eq, decide_eq_false_iff_not, beq_iff_eq, beq_eq_false_iff_ne, bne_iff_ne, bne_eq_false_iff_eq, Bool.not_eq_true', Bool.not_eq_false', reduceCtorEq] at hg); (try (first | simp (disch := omega) only [wrap64, wrapu64, wrapu32, sh32, fdiv32, Int.tdiv_eq_ediv_of_nonneg, Int.tmod_eq_emod_of_nonneg, tn_add, tn_add1, Int.toNat_natCast, Int.toNat_zero, List.drop_zero] at hg | simp only [wrapu64m, wrapu32m] at hg))))
  all_goals try omega
  refine run_loop (ι := Nat) (fun i => ⟨[(12, vi i), (11, vi l.length), (5, .row 4), (2, .ptr 0 0), (1, .lst .q l)], [(4, some (.row 27 .q ((hoursL u l).take i ++ List.replicate (l.length - i) ⟨0, true, 0⟩) false)), (0, some (.box 49 (uAV u)))], 9⟩)
    (fun i => i ≤ l.length) (fun i => l.length - i) 0 (Nat.zero_le _) ?_ ?_
  · simp only [List.take_zero, List.nil_append, Nat.sub_zero]
    (refine AS.le_of ?_ ?_ <;> simp only [slLe, memLe, entLe, lkS, lkM, Nat.reduceEqDiff, Nat.reduceLT, or_true, true_or, reduceCtorEq, ↓reduceIte, and_true, true_and] <;> (repeat' with_reducible apply And.intro) <;> (try (first | ((with_reducible refine AV.le_refl ?_); rfl) | with_reducible exact AV.le_junk | with_reducible exact AV.le_nil | ((with_reducible refine AV.le_int ?_); omega) | (with_reducible refine AV.le_int ?_) | (with_reducible refine AV.le_bool ?_) | ((with_reducible refine AV.le_lst ?_); try rfl) | (with_reducible refine AV.le_q ?_ ?_ ?_) | exact fun _ _ h => h | (with_reducible refine RC_qle ?_ ?_ ?_))))
  intro i hi
  have hlen : ((hoursL u l).take i ++ List.replicate (l.length - i) (⟨0, true, 0⟩ : QV)).length = l.length := by simp [hoursL]; omega
  by_cases hlt : i < l.length
  · have hs := hp3 (l.getD i ⟨0, true, 0⟩) (by rw [List.getD_eq_getElem?_getD, List.getElem?_eq_getElem hlt]; exact List.getElem_mem _)
    have hset := set_fill (m := hoursL u l) (z := (⟨0, true, 0⟩ : QV)) (v := ⟨hourP u (l.getD i ⟨0, true, 0⟩).x, true, 24000⟩) (i := i) (n := l.length) (by simp [hoursL]) hlt (by simp [hoursL, List.getD_eq_getElem?_getD, List.getElem?_eq_getElem hlt])
    have hh : hourP' u (l.getD i ⟨0, true, 0⟩).x = hourP u (l.getD i ⟨0, true, 0⟩).x := by rw [hourP', if_pos hm]
    repeat' (first | with_reducible refine run_seq ?_ | with_reducible refine run_block ?_ | with_reducible refine step_code ?_ | with_reducible refine step_blk ?_ | with_reducible refine run_skip ?_ | with_reducible refine run_exit ?_ | with_reducible refine exits_code ?_ | with_reducible refine exits_here ?_ | with_reducible refine exits_blk rfl ?_ | with_reducible refine exits_lp ?_ | with_reducible refine run_ret ?_ | ((first | with_reducible refine run_region ?_ | with_reducible refine run_draw (by kernel_rfl) ?_); simp only [↓guardP_tt, ↓guardP_tf, ↓guardP_ft, ↓guardP_ff, guardP_t, guardP_f, evalQ, evalR, effQ, effR, skipS, opEff, evO, plainV, lkS, lkM, updL, putS, tie_sz, tie_zero, tie_zeroB, tie_fld, tie_ek, tie_int, tie_isb, tie_eq2, tie_f1, tie_ms,  ti_f1, ti_ms, ti_sz, ti_zero, ti_zeroB, ti_fld, ti_ek, ti_int, ti_isb, ti_eq2, binA, binI, intOp, funOf_v, cloOf_v, calIds, appEff, frE, foldB, foldS, castL_self, K.enc, K.dec, K.zero, K.es, K.bytes, AV.part, AV.setPart, AV.cells, AV.agg, AV.nth, Bool.false_eq_true, callEff, pubs, pub, nilAV, MM.upd, MM.set, argS, gdst, opIds, lids, AV.ids, List.getD_cons_succ, List.getD_cons_zero, List.map, List.tail, List.headD, List.nil_append, List.append_nil, List.cons_append, List.length_nil, List.length_cons, List.zip_cons_cons, List.zip_nil_right, List.set_cons_zero, List.set_cons_succ, List.replicate, Option.isSome_some, Option.map_some, Bool.not_true, Bool.not_false, forall_const, false_implies, Nat.reduceAdd, Nat.reduceEqDiff, Nat.reduceLT, Nat.reduceSub, Nat.reduceMul, Nat.reduceLeDiff, ↓reduceIte, and_true, true_and, and_self, false_and, and_false, reduceCtorEq, env64, ctHour, uOf, qA, heta, hh, Int.toNat_natCast]) | (with_reducible refine run_cond (by with_unfolding_all exact rfl) ?_ ?_ <;> intro hc <;> (try simp only [vb, decide_eq_true_eq, decide_eq_false_iff_not, beq_iff_eq, beq_eq_false_iff_ne, bne_iff_ne, bne_eq_false_iff_eq, Bool.not_eq_true', Bool.not_eq_false', reduceCtorEq] at hc) <;> (try (first | simp (disch := omega) only [wrap64, wrapu64, wrapu32, sh32, fdiv32, Int.tdiv_eq_ediv_of_nonneg, Int.tmod_eq_emod_of_nonneg, tn_add, tn_add1, Int.toNat_natCast, Int.toNat_zero, List.drop_zero] at hc | simp only [wrapu64m, wrapu32m] at hc))) | ((with_reducible refine compat_ok ?_); kernel_rfl) | with_reducible apply And.intro | (first | simp (disch := omega) only [wrap64, wrapu64, wrapu32, sh32, fdiv32, Int.tdiv_eq_ediv_of_nonneg, Int.tmod_eq_emod_of_nonneg, tn_add, tn_add1, Int.toNat_natCast, Int.toNat_zero, List.drop_zero] | simp only [wrapu64m, wrapu32m]) | (with_reducible intro hg; (try simp only [vb, decide_eq_true_eq, decide_eq_false_iff_not, beq_iff_eq, beq_eq_false_iff_ne, bne_iff_ne, bne_eq_false_iff_eq, Bool.not_eq_true', Bool.not_eq_false', reduceCtorEq] at hg); (try (first | simp (disch := omega) only [wrap64, wrapu64, wrapu32, sh32, fdiv32, Int.tdiv_eq_ediv_of_nonneg, Int.tmod_eq_emod_of_nonneg, tn_add, tn_add1, Int.toNat_natCast, Int.toNat_zero, List.drop_zero] at hg | simp only [wrapu64m, wrapu32m] at hg))))
    all_goals try omega
    refine step_lp ⟨i + 1, by omega, by omega, ?_⟩
    rw [← hset]
    (refine AS.le_of ?_ ?_ <;> simp only [slLe, memLe, entLe, lkS, lkM, Nat.reduceEqDiff, Nat.reduceLT, or_true, true_or, reduceCtorEq, ↓reduceIte, and_true, true_and] <;> (repeat' with_reducible apply And.intro) <;> (try (first | ((with_reducible refine AV.le_refl ?_); rfl) | with_reducible exact AV.le_junk | with_reducible exact AV.le_nil | ((with_reducible refine AV.le_int ?_); omega) | (with_reducible refine AV.le_int ?_) | (with_reducible refine AV.le_bool ?_) | ((with_reducible refine AV.le_lst ?_); try rfl) | (with_reducible refine AV.le_q ?_ ?_ ?_) | exact fun _ _ h => h | (with_reducible refine RC_qle ?_ ?_ ?_))))
  · repeat' (first | with_reducible refine run_seq ?_ | with_reducible refine run_block ?_ | with_reducible refine step_code ?_ | with_reducible refine step_blk ?_ | with_reducible refine run_skip ?_ | with_reducible refine run_exit ?_ | with_reducible refine exits_code ?_ | with_reducible refine exits_here ?_ | with_reducible refine exits_blk rfl ?_ | with_reducible refine exits_lp ?_ | with_reducible refine run_ret ?_ | ((first | with_reducible refine run_region ?_ | with_reducible refine run_draw (by kernel_rfl) ?_); simp only [↓guardP_tt, ↓guardP_tf, ↓guardP_ft, ↓guardP_ff, guardP_t, guardP_f, evalQ, evalR, effQ, effR, skipS, opEff, evO, plainV, lkS, lkM, updL, putS, tie_sz, tie_zero, tie_zeroB, tie_fld, tie_ek, tie_int, tie_isb, tie_eq2, tie_f1, tie_ms,  ti_f1, ti_ms, ti_sz, ti_zero, ti_zeroB, ti_fld, ti_ek, ti_int, ti_isb, ti_eq2, binA, binI, intOp, funOf_v, cloOf_v, calIds, appEff, frE, foldB, foldS, castL_self, K.enc, K.dec, K.zero, K.es, K.bytes, AV.part, AV.setPart, AV.cells, AV.agg, AV.nth, Bool.false_eq_true, callEff, pubs, pub, nilAV, MM.upd, MM.set, argS, gdst, opIds, lids, AV.ids, List.getD_cons_succ, List.getD_cons_zero, List.map, List.tail, List.headD, List.nil_append, List.append_nil, List.cons_append, List.length_nil, List.length_cons, List.zip_cons_cons, List.zip_nil_right, List.set_cons_zero, List.set_cons_succ, List.replicate, Option.isSome_some, Option.map_some, Bool.not_true, Bool.not_false, forall_const, false_implies, Nat.reduceAdd, Nat.reduceEqDiff, Nat.reduceLT, Nat.reduceSub, Nat.reduceMul, Nat.reduceLeDiff, ↓reduceIte, and_true, true_and, and_self, false_and, and_false, reduceCtorEq, env64]) | (with_reducible refine run_cond (by with_unfolding_all exact rfl) ?_ ?_ <;> intro hc <;> (try simp only [vb, decide_eq_true_eq, decide_eq_false_iff_not, beq_iff_eq, beq_eq_false_iff_ne, bne_iff_ne, bne_eq_false_iff_eq, Bool.not_eq_true', Bool.not_eq_false', reduceCtorEq] at hc) <;> (try (first | simp (disch := omega) only [wrap64, wrapu64, wrapu32, sh32, fdiv32, Int.tdiv_eq_ediv_of_nonneg, Int.tmod_eq_emod_of_nonneg, tn_add, tn_add1, Int.toNat_natCast, Int.toNat_zero, List.drop_zero] at hc | simp only [wrapu64m, wrapu32m] at hc))) | ((with_reducible refine compat_ok ?_); kernel_rfl) | with_reducible apply And.intro | (first | simp (disch := omega) only [wrap64, wrapu64, wrapu32, sh32, fdiv32, Int.tdiv_eq_ediv_of_nonneg, Int.tmod_eq_emod_of_nonneg, tn_add, tn_add1, Int.toNat_natCast, Int.toNat_zero, List.drop_zero] | simp only [wrapu64m, wrapu32m]) | (with_reducible intro hg; (try simp only [vb, decide_eq_true_eq, decide_eq_false_iff_not, beq_iff_eq, beq_eq_false_iff_ne, bne_iff_ne, bne_eq_false_iff_eq, Bool.not_eq_true', Bool.not_eq_false', reduceCtorEq] at hg); (try (first | simp (disch := omega) only [wrap64, wrapu64, wrapu32, sh32, fdiv32, Int.tdiv_eq_ediv_of_nonneg, Int.tmod_eq_emod_of_nonneg, tn_add, tn_add1, Int.toNat_natCast, Int.toNat_zero, List.drop_zero] at hg | simp only [wrapu64m, wrapu32m] at hg))))
    all_goals try omega
    simp only [finR, resAs, resA, resLe, lsLe, lkS, lkM, pubs, pub, tie_sz, ti_sz, tie_ek, ti_ek,  nilAV, MM.upd, MM.set, AV.part, AV.cells, AV.agg, List.tail, List.headD, Nat.reduceAdd, Nat.reduceEqDiff, Nat.reduceLT, ↓reduceIte, and_true, true_and, and_self, reduceCtorEq]
    refine AVle_lst ?_
    rw [show l.length - i = 0 by omega, List.replicate_zero, List.append_nil, List.take_of_length_le (by simp [hoursL]; omega)]
/-- The profit of the hours in which the unit is on. -/
def rowP (u : U) : List QV → List Bool → Rat
  | x :: l, on :: r => (if on = true then hourP u x.x else 0) + rowP u l r
  | _, _ => 0
def profE (u : U) (l : List QV) (row : List Bool) : Int := if wrongP u l.length ≠ 0 then wrongP u l.length else if row.length ≠ l.length ∨ feasU u row = false then 3 else 0
def profR (u : U) (l : List QV) (row : List Bool) : Rat := if profE u l row = 0 then ((-(startU u row) * u.start : Int) : Rat) + rowP u l row else 0
theorem rowP_take {u : U} {l : List QV} {row : List Bool} (h : row.length = l.length) : ∀ {i : Nat}, i < l.length → rowP u (l.take (i + 1)) (row.take (i + 1)) = rowP u (l.take i) (row.take i) + (if row.getD i false = true then hourP u (l.getD i ⟨0, true, 0⟩).x else 0) := by
  induction l generalizing row with
  | nil => intro i hi; simp at hi
  | cons x r ih =>
    intro i hi
    cases row with
    | nil => simp at h
    | cons b s =>
      cases i with
      | zero => simp [rowP]; grind
      | succ i =>
        have := ih (row := s) (by simpa using h) (i := i) (by simpa using hi)
        simp only [List.take_succ_cons, rowP, this, List.getD_cons_succ]
        grind
def env65 : Env := fun g => match g with | 77 => some ctWrongP | 78 => some ctFeas | 79 => some ctStarts | 60 => some ctFromQ | 80 => some ctHours | 63 => some ctAddQ | _ => none
theorem env65_ok : EnvOk Tryz.prog env65 := by
  intro g ct h
  simp only [env65] at h
  split at h <;> first | (cases h; exact ok77) | (cases h; exact ok78) | (cases h; exact ok79) | (cases h; exact ok60) | (cases h; exact ok80) | (cases h; exact ok63) | cases h
def ctProfit : Ct := fun l => match l with
  | [a, .lst .q l, .lst .bool row] => match uOf a with
    | some u => some (u.steps.length ≤ 1099511627776 ∧ (∀ x ∈ l, x.s ≤ 1000) ∧ l.length ≤ 1099511627776 ∧ row.length ≤ 1099511627776, .tup (.tc (.q (profR u l row) true 250000) (.tc (vi (profE u l row)) .tn)))
    | none => none
  | _ => none
theorem ok34 : Sound Tryz.prog 34 ctProfit := by
  refine sound_of (fn := Tryz.f34) rfl rfl rfl tiOk env65_ok mix ?_ (by intro l p r h; unfold ctProfit at h; split at h <;> first | cases h | (split at h <;> cases h; exact Nat.le_of_ble_eq_true rfl))
  intro l p r h hp F vs hv
  unfold ctProfit at h
  split at h
  rotate_left
  · cases h
  split at h <;> cases h
  rename_i u hu
  obtain rfl := uOf_eq hu
  refine ⟨_, hv, ?_⟩
  rename_i l row _
  obtain ⟨hp1, hp2, hp3, hp4⟩ := hp
  have heta : (⟨u.bus, u.min, u.steps, u.up, u.down, u.start, u.idle, u.spin, u.on⟩ : U) = u := rfl
  have hz : qval 0 0 = 0 := qval_zero
  by_cases hw : wrongP u l.length = 0
  rotate_left
  · have hw' : (wrongP u l.length != 0) = true := bne_iff_ne.2 hw
    have he : profE u l row = wrongP u l.length := by rw [profE, if_pos hw]
    show Run Tryz.prog ti env65 57 (finR ti [.cell 6 27, .tmp 7] _) _ _ _
    repeat' (first | with_reducible refine run_seq ?_ | with_reducible refine run_block ?_ | with_reducible refine step_code ?_ | with_reducible refine step_blk ?_ | with_reducible refine run_skip ?_ | with_reducible refine run_exit ?_ | with_reducible refine exits_code ?_ | with_reducible refine exits_here ?_ | with_reducible refine exits_blk rfl ?_ | with_reducible refine exits_lp ?_ | with_reducible refine run_ret ?_ | ((first | with_reducible refine run_region ?_ | with_reducible refine run_draw (by kernel_rfl) ?_); simp only [↓guardP_tt, ↓guardP_tf, ↓guardP_ft, ↓guardP_ff, guardP_t, guardP_f, evalQ, evalR, effQ, effR, skipS, opEff, evO, plainV, lkS, lkM, updL, putS, tie_sz, tie_zero, tie_zeroB, tie_fld, tie_ek, tie_int, tie_isb, tie_eq2, tie_f1, tie_ms,  ti_f1, ti_ms, ti_sz, ti_zero, ti_zeroB, ti_fld, ti_ek, ti_int, ti_isb, ti_eq2, binA, binI, intOp, funOf_v, cloOf_v, calIds, appEff, frE, foldB, foldS, castL_self, K.enc, K.dec, K.zero, K.es, K.bytes, AV.part, AV.setPart, AV.cells, AV.agg, AV.nth, Bool.false_eq_true, callEff, pubs, pub, nilAV, MM.upd, MM.set, argS, gdst, opIds, lids, AV.ids, List.getD_cons_succ, List.getD_cons_zero, List.map, List.tail, List.headD, List.nil_append, List.append_nil, List.cons_append, List.length_nil, List.length_cons, List.zip_cons_cons, List.zip_nil_right, List.set_cons_zero, List.set_cons_succ, List.replicate, Option.isSome_some, Option.map_some, Bool.not_true, Bool.not_false, forall_const, false_implies, Nat.reduceAdd, Nat.reduceEqDiff, Nat.reduceLT, Nat.reduceSub, Nat.reduceMul, Nat.reduceLeDiff, ↓reduceIte, and_true, true_and, and_self, false_and, and_false, reduceCtorEq, env65, ctWrongP, uOf, heta, hw']) | (with_reducible refine run_cond (by with_unfolding_all exact rfl) ?_ ?_ <;> intro hc <;> (try simp only [vb, decide_eq_true_eq, decide_eq_false_iff_not, beq_iff_eq, beq_eq_false_iff_ne, bne_iff_ne, bne_eq_false_iff_eq, Bool.not_eq_true', Bool.not_eq_false', reduceCtorEq] at hc) <;> (try (first | simp (disch := omega) only [wrap64, wrapu64, wrapu32, sh32, fdiv32, Int.tdiv_eq_ediv_of_nonneg, Int.tmod_eq_emod_of_nonneg, tn_add, tn_add1, Int.toNat_natCast, Int.toNat_zero, List.drop_zero] at hc | simp only [wrapu64m, wrapu32m] at hc))) | ((with_reducible refine compat_ok ?_); kernel_rfl) | with_reducible apply And.intro | (first | simp (disch := omega) only [wrap64, wrapu64, wrapu32, sh32, fdiv32, Int.tdiv_eq_ediv_of_nonneg, Int.tmod_eq_emod_of_nonneg, tn_add, tn_add1, Int.toNat_natCast, Int.toNat_zero, List.drop_zero] | simp only [wrapu64m, wrapu32m]) | (with_reducible intro hg; (try simp only [vb, decide_eq_true_eq, decide_eq_false_iff_not, beq_iff_eq, beq_eq_false_iff_ne, bne_iff_ne, bne_eq_false_iff_eq, Bool.not_eq_true', Bool.not_eq_false', reduceCtorEq] at hg); (try (first | simp (disch := omega) only [wrap64, wrapu64, wrapu32, sh32, fdiv32, Int.tdiv_eq_ediv_of_nonneg, Int.tmod_eq_emod_of_nonneg, tn_add, tn_add1, Int.toNat_natCast, Int.toNat_zero, List.drop_zero] at hg | simp only [wrapu64m, wrapu32m] at hg))))
    all_goals try omega
    simp only [finR, resAs, resA, resLe, lsLe, lkS, lkM, pubs, pub, tie_sz, ti_sz, tie_ek, ti_ek,  nilAV, MM.upd, MM.set, AV.part, AV.cells, AV.agg, List.tail, List.headD, Nat.reduceAdd, Nat.reduceEqDiff, Nat.reduceLT, ↓reduceIte, and_true, true_and, and_self, reduceCtorEq]
    exact ⟨AVle_q (by omega) (by omega) (by rw [profR, if_neg (by rw [he]; exact hw), hz]) (fun _ => ⟨rfl, rfl, .inl rfl⟩), AVle_int he.symm⟩
  have hm : mayU u := by
    by_cases hm : mayU u
    · exact hm
    · rw [wrongP, if_pos hm] at hw
      exact hw
  have hl8 : l.length ≤ 8 := by
    rw [wrongP, if_neg (fun h => h hm)] at hw
    split at hw
    · cases hw
    · omega
  by_cases hr : row.length = l.length
  rotate_left
  · have he : profE u l row = 3 := by rw [profE, if_neg (by simp [hw]), if_pos (.inl hr)]
    have hr' : ((row.length : Int) != (l.length : Int)) = true := bne_iff_ne.2 (by omega)
    show Run Tryz.prog ti env65 57 (finR ti [.cell 6 27, .tmp 7] _) _ _ _
    repeat' (first | with_reducible refine run_seq ?_ | with_reducible refine run_block ?_ | with_reducible refine step_code ?_ | with_reducible refine step_blk ?_ | with_reducible refine run_skip ?_ | with_reducible refine run_exit ?_ | with_reducible refine exits_code ?_ | with_reducible refine exits_here ?_ | with_reducible refine exits_blk rfl ?_ | with_reducible refine exits_lp ?_ | with_reducible refine run_ret ?_ | ((first | with_reducible refine run_region ?_ | with_reducible refine run_draw (by kernel_rfl) ?_); simp only [↓guardP_tt, ↓guardP_tf, ↓guardP_ft, ↓guardP_ff, guardP_t, guardP_f, evalQ, evalR, effQ, effR, skipS, opEff, evO, plainV, lkS, lkM, updL, putS, tie_sz, tie_zero, tie_zeroB, tie_fld, tie_ek, tie_int, tie_isb, tie_eq2, tie_f1, tie_ms,  ti_f1, ti_ms, ti_sz, ti_zero, ti_zeroB, ti_fld, ti_ek, ti_int, ti_isb, ti_eq2, binA, binI, intOp, funOf_v, cloOf_v, calIds, appEff, frE, foldB, foldS, castL_self, K.enc, K.dec, K.zero, K.es, K.bytes, AV.part, AV.setPart, AV.cells, AV.agg, AV.nth, Bool.false_eq_true, callEff, pubs, pub, nilAV, MM.upd, MM.set, argS, gdst, opIds, lids, AV.ids, List.getD_cons_succ, List.getD_cons_zero, List.map, List.tail, List.headD, List.nil_append, List.append_nil, List.cons_append, List.length_nil, List.length_cons, List.zip_cons_cons, List.zip_nil_right, List.set_cons_zero, List.set_cons_succ, List.replicate, Option.isSome_some, Option.map_some, Bool.not_true, Bool.not_false, forall_const, false_implies, Nat.reduceAdd, Nat.reduceEqDiff, Nat.reduceLT, Nat.reduceSub, Nat.reduceMul, Nat.reduceLeDiff, ↓reduceIte, and_true, true_and, and_self, false_and, and_false, reduceCtorEq, env65, ctWrongP, uOf, heta, hw, hr', bne_self_eq_false]) | (with_reducible refine run_cond (by with_unfolding_all exact rfl) ?_ ?_ <;> intro hc <;> (try simp only [vb, decide_eq_true_eq, decide_eq_false_iff_not, beq_iff_eq, beq_eq_false_iff_ne, bne_iff_ne, bne_eq_false_iff_eq, Bool.not_eq_true', Bool.not_eq_false', reduceCtorEq] at hc) <;> (try (first | simp (disch := omega) only [wrap64, wrapu64, wrapu32, sh32, fdiv32, Int.tdiv_eq_ediv_of_nonneg, Int.tmod_eq_emod_of_nonneg, tn_add, tn_add1, Int.toNat_natCast, Int.toNat_zero, List.drop_zero] at hc | simp only [wrapu64m, wrapu32m] at hc))) | ((with_reducible refine compat_ok ?_); kernel_rfl) | with_reducible apply And.intro | (first | simp (disch := omega) only [wrap64, wrapu64, wrapu32, sh32, fdiv32, Int.tdiv_eq_ediv_of_nonneg, Int.tmod_eq_emod_of_nonneg, tn_add, tn_add1, Int.toNat_natCast, Int.toNat_zero, List.drop_zero] | simp only [wrapu64m, wrapu32m]) | (with_reducible intro hg; (try simp only [vb, decide_eq_true_eq, decide_eq_false_iff_not, beq_iff_eq, beq_eq_false_iff_ne, bne_iff_ne, bne_eq_false_iff_eq, Bool.not_eq_true', Bool.not_eq_false', reduceCtorEq] at hg); (try (first | simp (disch := omega) only [wrap64, wrapu64, wrapu32, sh32, fdiv32, Int.tdiv_eq_ediv_of_nonneg, Int.tmod_eq_emod_of_nonneg, tn_add, tn_add1, Int.toNat_natCast, Int.toNat_zero, List.drop_zero] at hg | simp only [wrapu64m, wrapu32m] at hg))))
    all_goals try omega
    simp only [finR, resAs, resA, resLe, lsLe, lkS, lkM, pubs, pub, tie_sz, ti_sz, tie_ek, ti_ek,  nilAV, MM.upd, MM.set, AV.part, AV.cells, AV.agg, List.tail, List.headD, Nat.reduceAdd, Nat.reduceEqDiff, Nat.reduceLT, ↓reduceIte, and_true, true_and, and_self, reduceCtorEq]
    exact ⟨AVle_q (by omega) (by omega) (by rw [profR, if_neg (by rw [he]; decide), hz]) (fun _ => ⟨rfl, rfl, .inl rfl⟩), AVle_int he.symm⟩
  have hr' : ((row.length : Int) != (l.length : Int)) = false := by rw [hr]; exact bne_self_eq_false _
  cases hf : feasU u row
  · have he : profE u l row = 3 := by rw [profE, if_neg (by simp [hw]), if_pos (.inr hf)]
    show Run Tryz.prog ti env65 57 (finR ti [.cell 6 27, .tmp 7] _) _ _ _
    repeat' (first | with_reducible refine run_seq ?_ | with_reducible refine run_block ?_ | with_reducible refine step_code ?_ | with_reducible refine step_blk ?_ | with_reducible refine run_skip ?_ | with_reducible refine run_exit ?_ | with_reducible refine exits_code ?_ | with_reducible refine exits_here ?_ | with_reducible refine exits_blk rfl ?_ | with_reducible refine exits_lp ?_ | with_reducible refine run_ret ?_ | ((first | with_reducible refine run_region ?_ | with_reducible refine run_draw (by kernel_rfl) ?_); simp only [↓guardP_tt, ↓guardP_tf, ↓guardP_ft, ↓guardP_ff, guardP_t, guardP_f, evalQ, evalR, effQ, effR, skipS, opEff, evO, plainV, lkS, lkM, updL, putS, tie_sz, tie_zero, tie_zeroB, tie_fld, tie_ek, tie_int, tie_isb, tie_eq2, tie_f1, tie_ms,  ti_f1, ti_ms, ti_sz, ti_zero, ti_zeroB, ti_fld, ti_ek, ti_int, ti_isb, ti_eq2, binA, binI, intOp, funOf_v, cloOf_v, calIds, appEff, frE, foldB, foldS, castL_self, K.enc, K.dec, K.zero, K.es, K.bytes, AV.part, AV.setPart, AV.cells, AV.agg, AV.nth, Bool.false_eq_true, callEff, pubs, pub, nilAV, MM.upd, MM.set, argS, gdst, opIds, lids, AV.ids, List.getD_cons_succ, List.getD_cons_zero, List.map, List.tail, List.headD, List.nil_append, List.append_nil, List.cons_append, List.length_nil, List.length_cons, List.zip_cons_cons, List.zip_nil_right, List.set_cons_zero, List.set_cons_succ, List.replicate, Option.isSome_some, Option.map_some, Bool.not_true, Bool.not_false, forall_const, false_implies, Nat.reduceAdd, Nat.reduceEqDiff, Nat.reduceLT, Nat.reduceSub, Nat.reduceMul, Nat.reduceLeDiff, ↓reduceIte, and_true, true_and, and_self, false_and, and_false, reduceCtorEq, env65, ctWrongP, ctFeas, uOf, heta, hw, hr', hf, bne_self_eq_false]) | (with_reducible refine run_cond (by with_unfolding_all exact rfl) ?_ ?_ <;> intro hc <;> (try simp only [vb, decide_eq_true_eq, decide_eq_false_iff_not, beq_iff_eq, beq_eq_false_iff_ne, bne_iff_ne, bne_eq_false_iff_eq, Bool.not_eq_true', Bool.not_eq_false', reduceCtorEq] at hc) <;> (try (first | simp (disch := omega) only [wrap64, wrapu64, wrapu32, sh32, fdiv32, Int.tdiv_eq_ediv_of_nonneg, Int.tmod_eq_emod_of_nonneg, tn_add, tn_add1, Int.toNat_natCast, Int.toNat_zero, List.drop_zero] at hc | simp only [wrapu64m, wrapu32m] at hc))) | ((with_reducible refine compat_ok ?_); kernel_rfl) | with_reducible apply And.intro | (first | simp (disch := omega) only [wrap64, wrapu64, wrapu32, sh32, fdiv32, Int.tdiv_eq_ediv_of_nonneg, Int.tmod_eq_emod_of_nonneg, tn_add, tn_add1, Int.toNat_natCast, Int.toNat_zero, List.drop_zero] | simp only [wrapu64m, wrapu32m]) | (with_reducible intro hg; (try simp only [vb, decide_eq_true_eq, decide_eq_false_iff_not, beq_iff_eq, beq_eq_false_iff_ne, bne_iff_ne, bne_eq_false_iff_eq, Bool.not_eq_true', Bool.not_eq_false', reduceCtorEq] at hg); (try (first | simp (disch := omega) only [wrap64, wrapu64, wrapu32, sh32, fdiv32, Int.tdiv_eq_ediv_of_nonneg, Int.tmod_eq_emod_of_nonneg, tn_add, tn_add1, Int.toNat_natCast, Int.toNat_zero, List.drop_zero] at hg | simp only [wrapu64m, wrapu32m] at hg))))
    all_goals try omega
    simp only [finR, resAs, resA, resLe, lsLe, lkS, lkM, pubs, pub, tie_sz, ti_sz, tie_ek, ti_ek,  nilAV, MM.upd, MM.set, AV.part, AV.cells, AV.agg, List.tail, List.headD, Nat.reduceAdd, Nat.reduceEqDiff, Nat.reduceLT, ↓reduceIte, and_true, true_and, and_self, reduceCtorEq]
    exact ⟨AVle_q (by omega) (by omega) (by rw [profR, if_neg (by rw [he]; decide), hz]) (fun _ => ⟨rfl, rfl, .inl rfl⟩), AVle_int he.symm⟩
  have he : profE u l row = 0 := by rw [profE, if_neg (by simp [hw]), if_neg (by simp [hr, hf])]
  have hsb := startF_bound row (decide (u.on > 0))
  have hsu : startU u row = startF (decide (u.on > 0)) row := by rw [startU, if_pos hm]
  have hok := (mayU_ok hm).2
  unfold okU at hok
  have hmb : -8000000000 ≤ -(startU u row) * u.start ∧ -(startU u row) * u.start ≤ 0 := by
    rw [hsu, Int.neg_mul]
    have e1 : startF (decide (u.on > 0)) row * u.start ≤ 8 * 1000000000 := Int.mul_le_mul (by omega) (by omega) (by omega) (by omega)
    have e2 : 0 ≤ startF (decide (u.on > 0)) row * u.start := Int.mul_nonneg hsb.1 (by omega)
    omega
  show Run Tryz.prog ti env65 57 (finR ti [.cell 6 27, .tmp 7] _) _ _ _
  repeat' (first | with_reducible refine run_seq ?_ | with_reducible refine run_block ?_ | with_reducible refine step_code ?_ | with_reducible refine step_blk ?_ | with_reducible refine run_skip ?_ | with_reducible refine run_exit ?_ | with_reducible refine exits_code ?_ | with_reducible refine exits_here ?_ | with_reducible refine exits_blk rfl ?_ | with_reducible refine exits_lp ?_ | with_reducible refine run_ret ?_ | ((first | with_reducible refine run_region ?_ | with_reducible refine run_draw (by kernel_rfl) ?_); simp only [↓guardP_tt, ↓guardP_tf, ↓guardP_ft, ↓guardP_ff, guardP_t, guardP_f, evalQ, evalR, effQ, effR, skipS, opEff, evO, plainV, lkS, lkM, updL, putS, tie_sz, tie_zero, tie_zeroB, tie_fld, tie_ek, tie_int, tie_isb, tie_eq2, tie_f1, tie_ms,  ti_f1, ti_ms, ti_sz, ti_zero, ti_zeroB, ti_fld, ti_ek, ti_int, ti_isb, ti_eq2, binA, binI, intOp, funOf_v, cloOf_v, calIds, appEff, frE, foldB, foldS, castL_self, K.enc, K.dec, K.zero, K.es, K.bytes, AV.part, AV.setPart, AV.cells, AV.agg, AV.nth, Bool.false_eq_true, callEff, pubs, pub, nilAV, MM.upd, MM.set, argS, gdst, opIds, lids, AV.ids, List.getD_cons_succ, List.getD_cons_zero, List.map, List.tail, List.headD, List.nil_append, List.append_nil, List.cons_append, List.length_nil, List.length_cons, List.zip_cons_cons, List.zip_nil_right, List.set_cons_zero, List.set_cons_succ, List.replicate, Option.isSome_some, Option.map_some, Bool.not_true, Bool.not_false, forall_const, false_implies, Nat.reduceAdd, Nat.reduceEqDiff, Nat.reduceLT, Nat.reduceSub, Nat.reduceMul, Nat.reduceLeDiff, ↓reduceIte, and_true, true_and, and_self, false_and, and_false, reduceCtorEq, env65, ctWrongP, ctFeas, ctStarts, ctFromQ, ctHours, uOf, heta, hw, hr', hf, bne_self_eq_false]) | (with_reducible refine run_cond (by with_unfolding_all exact rfl) ?_ ?_ <;> intro hc <;> (try simp only [vb, decide_eq_true_eq, decide_eq_false_iff_not, beq_iff_eq, beq_eq_false_iff_ne, bne_iff_ne, bne_eq_false_iff_eq, Bool.not_eq_true', Bool.not_eq_false', reduceCtorEq] at hc) <;> (try (first | simp (disch := omega) only [wrap64, wrapu64, wrapu32, sh32, fdiv32, Int.tdiv_eq_ediv_of_nonneg, Int.tmod_eq_emod_of_nonneg, tn_add, tn_add1, Int.toNat_natCast, Int.toNat_zero, List.drop_zero] at hc | simp only [wrapu64m, wrapu32m] at hc))) | ((with_reducible refine compat_ok ?_); kernel_rfl) | with_reducible apply And.intro | (first | simp (disch := omega) only [wrap64, wrapu64, wrapu32, sh32, fdiv32, Int.tdiv_eq_ediv_of_nonneg, Int.tmod_eq_emod_of_nonneg, tn_add, tn_add1, Int.toNat_natCast, Int.toNat_zero, List.drop_zero] | simp only [wrapu64m, wrapu32m]) | (with_reducible intro hg; (try simp only [vb, decide_eq_true_eq, decide_eq_false_iff_not, beq_iff_eq, beq_eq_false_iff_ne, bne_iff_ne, bne_eq_false_iff_eq, Bool.not_eq_true', Bool.not_eq_false', reduceCtorEq] at hg); (try (first | simp (disch := omega) only [wrap64, wrapu64, wrapu32, sh32, fdiv32, Int.tdiv_eq_ediv_of_nonneg, Int.tmod_eq_emod_of_nonneg, tn_add, tn_add1, Int.toNat_natCast, Int.toNat_zero, List.drop_zero] at hg | simp only [wrapu64m, wrapu32m] at hg))))
  all_goals try omega
  · exact hp2 _ hg
  have hhl : (hoursL u l).length = l.length := by simp [hoursL]
  refine run_loop (ι := Nat) (fun i => ⟨[(43, vi i), (42, vi l.length), (41, .lst .q (hoursL u l)), (9, .ptr 28 0), (6, .ptr 1 0), (2, .lst .bool row)],
      [(28, some (.box 27 (.q (((-(startU u row) * u.start : Int) : Rat) + rowP u (l.take i) (row.take i)) true (2 + 24008 * i)))), (1, some (.box 27 (.pair (.z 0 true 0) (.z 0 true 0))))], 35⟩)
    (fun i => i ≤ l.length) (fun i => l.length - i) 0 (Nat.zero_le _) ?_ ?_
  · (refine AS.le_of ?_ ?_ <;> simp only [slLe, memLe, entLe, lkS, lkM, Nat.reduceEqDiff, Nat.reduceLT, or_true, true_or, reduceCtorEq, ↓reduceIte, and_true, true_and] <;> (repeat' with_reducible apply And.intro) <;> (try (first | ((with_reducible refine AV.le_refl ?_); rfl) | with_reducible exact AV.le_junk | with_reducible exact AV.le_nil | ((with_reducible refine AV.le_int ?_); omega) | (with_reducible refine AV.le_int ?_) | (with_reducible refine AV.le_bool ?_) | ((with_reducible refine AV.le_lst ?_); try rfl) | (with_reducible refine AV.le_q ?_ ?_ ?_) | with_reducible exact fun _ _ h => h | (with_reducible refine RC_qle ?_ ?_ ?_))))
    all_goals first | (simp [rowP]; grind) | exact fun _ => rfl | omega
  intro i hi
  by_cases hlt : i < l.length
  · have hga : (hoursL u l).getD i ⟨0, true, 0⟩ = ⟨hourP u (l.getD i ⟨0, true, 0⟩).x, true, 24000⟩ := by simp [hoursL, List.getD_eq_getElem?_getD, List.getElem?_eq_getElem hlt]
    have hrt := rowP_take (u := u) hr hlt
    cases hon : row.getD i false
    all_goals
      rw [hon] at hrt
      simp only [Bool.false_eq_true, ↓reduceIte] at hrt
      repeat' (first | with_reducible refine run_seq ?_ | with_reducible refine run_block ?_ | with_reducible refine step_code ?_ | with_reducible refine step_blk ?_ | with_reducible refine run_skip ?_ | with_reducible refine run_exit ?_ | with_reducible refine exits_code ?_ | with_reducible refine exits_here ?_ | with_reducible refine exits_blk rfl ?_ | with_reducible refine exits_lp ?_ | with_reducible refine run_ret ?_ | ((first | with_reducible refine run_region ?_ | with_reducible refine run_draw (by kernel_rfl) ?_); simp only [↓guardP_tt, ↓guardP_tf, ↓guardP_ft, ↓guardP_ff, guardP_t, guardP_f, evalQ, evalR, effQ, effR, skipS, opEff, evO, plainV, lkS, lkM, updL, putS, tie_sz, tie_zero, tie_zeroB, tie_fld, tie_ek, tie_int, tie_isb, tie_eq2, tie_f1, tie_ms,  ti_f1, ti_ms, ti_sz, ti_zero, ti_zeroB, ti_fld, ti_ek, ti_int, ti_isb, ti_eq2, binA, binI, intOp, funOf_v, cloOf_v, calIds, appEff, frE, foldB, foldS, castL_self, K.enc, K.dec, K.zero, K.es, K.bytes, AV.part, AV.setPart, AV.cells, AV.agg, AV.nth, Bool.false_eq_true, callEff, pubs, pub, nilAV, MM.upd, MM.set, argS, gdst, opIds, lids, AV.ids, List.getD_cons_succ, List.getD_cons_zero, List.map, List.tail, List.headD, List.nil_append, List.append_nil, List.cons_append, List.length_nil, List.length_cons, List.zip_cons_cons, List.zip_nil_right, List.set_cons_zero, List.set_cons_succ, List.replicate, Option.isSome_some, Option.map_some, Bool.not_true, Bool.not_false, forall_const, false_implies, Nat.reduceAdd, Nat.reduceEqDiff, Nat.reduceLT, Nat.reduceSub, Nat.reduceMul, Nat.reduceLeDiff, ↓reduceIte, and_true, true_and, and_self, false_and, and_false, reduceCtorEq, env65, ctAddQ, ctQ2, qA, hon, hga, Int.toNat_natCast]) | (with_reducible refine run_cond (by with_unfolding_all exact rfl) ?_ ?_ <;> intro hc <;> (try simp only [vb, decide_eq_true_eq, decide_eq_false_iff_not, beq_iff_eq, beq_eq_false_iff_ne, bne_iff_ne, bne_eq_false_iff_eq, Bool.not_eq_true', Bool.not_eq_false', reduceCtorEq] at hc) <;> (try (first | simp (disch := omega) only [wrap64, wrapu64, wrapu32, sh32, fdiv32, Int.tdiv_eq_ediv_of_nonneg, Int.tmod_eq_emod_of_nonneg, tn_add, tn_add1, Int.toNat_natCast, Int.toNat_zero, List.drop_zero] at hc | simp only [wrapu64m, wrapu32m] at hc))) | ((with_reducible refine compat_ok ?_); kernel_rfl) | with_reducible apply And.intro | (first | simp (disch := omega) only [wrap64, wrapu64, wrapu32, sh32, fdiv32, Int.tdiv_eq_ediv_of_nonneg, Int.tmod_eq_emod_of_nonneg, tn_add, tn_add1, Int.toNat_natCast, Int.toNat_zero, List.drop_zero] | simp only [wrapu64m, wrapu32m]) | (with_reducible intro hg; (try simp only [vb, decide_eq_true_eq, decide_eq_false_iff_not, beq_iff_eq, beq_eq_false_iff_ne, bne_iff_ne, bne_eq_false_iff_eq, Bool.not_eq_true', Bool.not_eq_false', reduceCtorEq] at hg); (try (first | simp (disch := omega) only [wrap64, wrapu64, wrapu32, sh32, fdiv32, Int.tdiv_eq_ediv_of_nonneg, Int.tmod_eq_emod_of_nonneg, tn_add, tn_add1, Int.toNat_natCast, Int.toNat_zero, List.drop_zero] at hg | simp only [wrapu64m, wrapu32m] at hg))))
      all_goals try omega
      refine step_lp ⟨i + 1, by omega, by omega, ?_⟩
      (refine AS.le_of ?_ ?_ <;> simp only [slLe, memLe, entLe, lkS, lkM, Nat.reduceEqDiff, Nat.reduceLT, or_true, true_or, reduceCtorEq, ↓reduceIte, and_true, true_and] <;> (repeat' with_reducible apply And.intro) <;> (try (first | ((with_reducible refine AV.le_refl ?_); rfl) | with_reducible exact AV.le_junk | with_reducible exact AV.le_nil | ((with_reducible refine AV.le_int ?_); omega) | (with_reducible refine AV.le_int ?_) | (with_reducible refine AV.le_bool ?_) | ((with_reducible refine AV.le_lst ?_); try rfl) | (with_reducible refine AV.le_q ?_ ?_ ?_) | with_reducible exact fun _ _ h => h | (with_reducible refine RC_qle ?_ ?_ ?_))))
      all_goals first | (rw [hrt]; grind) | exact fun _ => rfl | omega
  · have hi2 : i = l.length := by omega
    subst hi2
    repeat' (first | with_reducible refine run_seq ?_ | with_reducible refine run_block ?_ | with_reducible refine step_code ?_ | with_reducible refine step_blk ?_ | with_reducible refine run_skip ?_ | with_reducible refine run_exit ?_ | with_reducible refine exits_code ?_ | with_reducible refine exits_here ?_ | with_reducible refine exits_blk rfl ?_ | with_reducible refine exits_lp ?_ | with_reducible refine run_ret ?_ | ((first | with_reducible refine run_region ?_ | with_reducible refine run_draw (by kernel_rfl) ?_); simp only [↓guardP_tt, ↓guardP_tf, ↓guardP_ft, ↓guardP_ff, guardP_t, guardP_f, evalQ, evalR, effQ, effR, skipS, opEff, evO, plainV, lkS, lkM, updL, putS, tie_sz, tie_zero, tie_zeroB, tie_fld, tie_ek, tie_int, tie_isb, tie_eq2, tie_f1, tie_ms,  ti_f1, ti_ms, ti_sz, ti_zero, ti_zeroB, ti_fld, ti_ek, ti_int, ti_isb, ti_eq2, binA, binI, intOp, funOf_v, cloOf_v, calIds, appEff, frE, foldB, foldS, castL_self, K.enc, K.dec, K.zero, K.es, K.bytes, AV.part, AV.setPart, AV.cells, AV.agg, AV.nth, Bool.false_eq_true, callEff, pubs, pub, nilAV, MM.upd, MM.set, argS, gdst, opIds, lids, AV.ids, List.getD_cons_succ, List.getD_cons_zero, List.map, List.tail, List.headD, List.nil_append, List.append_nil, List.cons_append, List.length_nil, List.length_cons, List.zip_cons_cons, List.zip_nil_right, List.set_cons_zero, List.set_cons_succ, List.replicate, Option.isSome_some, Option.map_some, Bool.not_true, Bool.not_false, forall_const, false_implies, Nat.reduceAdd, Nat.reduceEqDiff, Nat.reduceLT, Nat.reduceSub, Nat.reduceMul, Nat.reduceLeDiff, ↓reduceIte, and_true, true_and, and_self, false_and, and_false, reduceCtorEq, env65]) | (with_reducible refine run_cond (by with_unfolding_all exact rfl) ?_ ?_ <;> intro hc <;> (try simp only [vb, decide_eq_true_eq, decide_eq_false_iff_not, beq_iff_eq, beq_eq_false_iff_ne, bne_iff_ne, bne_eq_false_iff_eq, Bool.not_eq_true', Bool.not_eq_false', reduceCtorEq] at hc) <;> (try (first | simp (disch := omega) only [wrap64, wrapu64, wrapu32, sh32, fdiv32, Int.tdiv_eq_ediv_of_nonneg, Int.tmod_eq_emod_of_nonneg, tn_add, tn_add1, Int.toNat_natCast, Int.toNat_zero, List.drop_zero] at hc | simp only [wrapu64m, wrapu32m] at hc))) | ((with_reducible refine compat_ok ?_); kernel_rfl) | with_reducible apply And.intro | (first | simp (disch := omega) only [wrap64, wrapu64, wrapu32, sh32, fdiv32, Int.tdiv_eq_ediv_of_nonneg, Int.tmod_eq_emod_of_nonneg, tn_add, tn_add1, Int.toNat_natCast, Int.toNat_zero, List.drop_zero] | simp only [wrapu64m, wrapu32m]) | (with_reducible intro hg; (try simp only [vb, decide_eq_true_eq, decide_eq_false_iff_not, beq_iff_eq, beq_eq_false_iff_ne, bne_iff_ne, bne_eq_false_iff_eq, Bool.not_eq_true', Bool.not_eq_false', reduceCtorEq] at hg); (try (first | simp (disch := omega) only [wrap64, wrapu64, wrapu32, sh32, fdiv32, Int.tdiv_eq_ediv_of_nonneg, Int.tmod_eq_emod_of_nonneg, tn_add, tn_add1, Int.toNat_natCast, Int.toNat_zero, List.drop_zero] at hg | simp only [wrapu64m, wrapu32m] at hg))))
    all_goals try omega
    simp only [finR, resAs, resA, resLe, lsLe, lkS, lkM, pubs, pub, tie_sz, ti_sz, tie_ek, ti_ek,  nilAV, MM.upd, MM.set, AV.part, AV.cells, AV.agg, List.tail, List.headD, Nat.reduceAdd, Nat.reduceEqDiff, Nat.reduceLT, ↓reduceIte, and_true, true_and, and_self, reduceCtorEq]
    exact ⟨AVle_qq (by rw [profR, if_pos he, List.take_length, ← hr, List.take_length]) (by omega) (fun h => h), AVle_int he.symm⟩
end Go.AE

/- States under other names of their own blocks: for loops that append. -/
namespace Go.AE
open Go.Proofs Go.RowKit
set_option linter.unusedVariables false
set_option linter.unusedSectionVars false
set_option maxRecDepth 20000

def rn : List (Nat × Option Nat) → Nat → Option Nat
  | [], id => some id
  | (i, o) :: r, id => if i = id then o else rn r id
def Grn (n : Nat) (f : List (Nat × Option Nat)) (G : Gm) : Gm := fun id => if id < n then (match rn f id with | some j => G j | none => some none) else none
def AV.leR (n : Nat) (f : List (Nat × Option Nat)) (a b : AV) : Prop := ∀ F G v, RV F G a v → RV F (Grn n f G) b v
def AV.noid : AV → Bool
  | .ptr _ _ => false
  | .ep _ _ _ _ => false
  | .row _ => false
  | .pin _ _ => false
  | .clo _ _ _ => false
  | _ => true
theorem AV.leR_of {n : Nat} {f : List (Nat × Option Nat)} {a b : AV} (hb : b.noid = true) (h : AV.le 0 a b) : AV.leR n f a b := by
  intro F G v hv
  have := h F G v hv
  cases b <;> first | exact this | cases hb
theorem AV.leR_ptr {n i j o : Nat} {f : List (Nat × Option Nat)} (hi : i < n) (h : rn f i = some j) : AV.leR n f (.ptr j o) (.ptr i o) := by
  rintro F G v ⟨g, c, h1, h2⟩
  exact ⟨g, c, by simp only [Grn]; rw [if_pos hi, h]; exact h1, h2⟩
theorem AV.leR_ep {n i j es k o : Nat} {f : List (Nat × Option Nat)} (hi : i < n) (h : rn f i = some j) : AV.leR n f (.ep j es k o) (.ep i es k o) := by
  rintro F G v ⟨g, c, h1, h2⟩
  exact ⟨g, c, by simp only [Grn]; rw [if_pos hi, h]; exact h1, h2⟩
theorem AV.leR_row {n i j : Nat} {f : List (Nat × Option Nat)} (hi : i < n) (h : rn f i = some j) : AV.leR n f (.row j) (.row i) := by
  rintro F G v (⟨h1, h2⟩ | ⟨g, c, h1, h2⟩)
  · exact .inl ⟨by simp only [Grn]; rw [if_pos hi, h]; exact h1, h2⟩
  · exact .inr ⟨g, c, by simp only [Grn]; rw [if_pos hi, h]; exact h1, h2⟩
theorem AV.leR_nil {n i : Nat} {f : List (Nat × Option Nat)} (hi : i < n) (h : rn f i = none) : AV.leR n f (.v (.slice none 0 0)) (.row i) := by
  rintro F G v ⟨_, hv⟩
  simp only [List.cons.injEq, and_true] at hv
  exact .inl ⟨by simp only [Grn]; rw [if_pos hi, h], hv⟩

def slLeR (n : Nat) (f : List (Nat × Option Nat)) (sl : Nat → AV) : List (Nat × AV) → Prop
  | [] => True
  | (t, x) :: r => AV.leR n f (sl t) x ∧ slLeR n f sl r
def entLeR (m : MM) : Option Nat → Option Ent → Prop
  | some j, e => entLe (m j) e
  | none, none => True
  | none, some (.row _ _ l _) => l = []
  | none, some (.box _ _) => False
def memLeR (n : Nat) (f : List (Nat × Option Nat)) (m : MM) : List (Nat × Option Ent) → Prop
  | [] => True
  | (id, e) :: r => (e = none ∨ id < n) ∧ entLeR m (rn f id) e ∧ memLeR n f m r
def injB (f : List (Nat × Option Nat)) : List (Nat × Option Ent) → Bool
  | [] => true
  | (id, _) :: r => r.all (fun p => p.1 == id || (rn f id).isNone || !(rn f id == rn f p.1)) && injB f r

theorem slLeR_lk {n : Nat} {f : List (Nat × Option Nat)} {sl : Nat → AV} : ∀ {l : List (Nat × AV)}, slLeR n f sl l → ∀ t, AV.leR n f (sl t) (lkS l t) := by
  intro l
  induction l with
  | nil => intro h t; exact fun _ _ _ _ => trivial
  | cons p r ih =>
    obtain ⟨t', x⟩ := p
    rintro ⟨h1, h2⟩ t
    simp only [lkS]
    split
    · rename_i e; subst e; exact h1
    · exact ih h2 t
theorem memLeR_lk {n : Nat} {f : List (Nat × Option Nat)} {m : MM} : ∀ {l : List (Nat × Option Ent)}, memLeR n f m l → ∀ id e, lkM l id = some e → id < n ∧ entLeR m (rn f id) (some e) := by
  intro l
  induction l with
  | nil => intro h id e he; cases he
  | cons p r ih =>
    obtain ⟨id', x⟩ := p
    rintro ⟨h1, h2, h3⟩ id e he
    simp only [lkM] at he
    split at he
    · rename_i e0; subst e0 he
      refine ⟨?_, h2⟩
      rcases h1 with h1 | h1
      · cases h1
      · exact h1
    · exact ih h3 id e he
theorem lkM_mem : ∀ {l : List (Nat × Option Ent)} {id : Nat} {e : Ent}, lkM l id = some e → ∃ p ∈ l, p.1 = id := by
  intro l
  induction l with
  | nil => intro id e h; cases h
  | cons p r ih =>
    obtain ⟨i, x⟩ := p
    intro id e h
    simp only [lkM] at h
    split at h
    · rename_i e0; exact ⟨_, List.mem_cons_self, e0⟩
    · obtain ⟨p, h1, h2⟩ := ih h; exact ⟨p, List.mem_cons_of_mem _ h1, h2⟩
theorem injB_mem {f : List (Nat × Option Nat)} : ∀ {l : List (Nat × Option Ent)}, injB f l = true → ∀ p ∈ l, ∀ q ∈ l, ∀ j, rn f p.1 = some j → rn f q.1 = some j → p.1 = q.1 := by
  intro l
  induction l with
  | nil => intro _ p hp; cases hp
  | cons a r ih =>
    obtain ⟨i, x⟩ := a
    intro h p hp q hq j h1 h2
    simp only [injB, Bool.and_eq_true, List.all_eq_true, Bool.or_eq_true, beq_iff_eq, Bool.not_eq_true', beq_eq_false_iff_ne, ne_eq] at h
    obtain ⟨h3, h4⟩ := h
    rcases List.mem_cons.1 hp with rfl | hp <;> rcases List.mem_cons.1 hq with rfl | hq
    · rfl
    · have := h3 q hq
      rw [h1, h2] at this
      exact (by simpa using this : q.1 = i).symm
    · have := h3 p hp
      rw [h1, h2] at this
      simpa using this
    · exact ih h4 p hp q hq j h1 h2
section
variable {P : Program} {ti : TI} {nt : Nat}
theorem AS.le_ren (f : List (Nat × Option Nat)) {τ σ : AS} (h1 : slLeR σ.nx f (lkS τ.sl) σ.sl) (h2 : memLeR σ.nx f (lkM τ.mem) σ.mem) (h3 : injB f σ.mem = true) : AS.le nt τ σ := by
  rintro w0 F0 a w ⟨F, G, hm, hs, hsz, hdf⟩
  have hgr : ∀ id g c, Grn σ.nx f G id = some (some (g, c)) → ∃ j, rn f id = some j ∧ G j = some (some (g, c)) := by
    intro id g c h
    simp only [Grn] at h
    split at h
    · split at h
      · rename_i j hj; exact ⟨j, hj, h⟩
      · cases h
    · cases h
  refine ⟨F, Grn σ.nx f G, ⟨hm.le0, hm.old, hm.fit, hm.below, fun id e he => ?_, ?_, fun id hid => ?_, hm.kfit, hm.kF, fun id e g c he hg => ?_⟩, fun t => slLeR_lk h1 t F G _ (hs t), hsz, hdf⟩
  · obtain ⟨h4, h5⟩ := memLeR_lk h2 id e he
    cases hf : rn f id with
    | none =>
      have hG : Grn σ.nx f G id = some none := by simp only [Grn]; rw [if_pos h4, hf]
      rw [hf] at h5
      cases e with
      | box T y => exact h5.elim
      | row T k l fz => exact .inl ⟨hG, h5⟩
    | some j =>
      have hG : Grn σ.nx f G id = G j := by simp only [Grn]; rw [if_pos h4, hf]
      rw [hf] at h5
      replace h5 : entLe (lkM τ.mem j) (some e) := h5
      cases hτ : lkM τ.mem j with
      | none => rw [hτ] at h5; cases h5
      | some e' =>
        rw [hτ] at h5
        have ho := hm.own j e' hτ
        cases e' with
        | box T x =>
          cases e with
          | box T' y =>
            obtain ⟨rfl, h6⟩ := h5
            obtain ⟨g, cs, a1, a2, a3, a4, a5⟩ := ho
            exact ⟨g, cs, by rw [hG]; exact a1, a2, a3, a4, h6 F cs a5⟩
          | row T' k' l' fz' => exact h5.elim
        | row T' k' l fz =>
          have h6 : e = .row T' k' l fz := by
            cases e with
            | box T2 y => exact h5.elim
            | row T2 k2 l2 fz2 => exact Eq.symm h5
          subst h6
          rcases ho with ⟨a1, a2⟩ | ⟨g, c, C, a1, a2⟩
          · exact .inl ⟨by rw [hG]; exact a1, a2⟩
          · exact .inr ⟨g, c, C, by rw [hG]; exact a1, a2⟩
  · intro i i' e e' g c c' hi hi' hg hg'
    obtain ⟨_, h4⟩ := memLeR_lk h2 i e hi
    obtain ⟨_, h5⟩ := memLeR_lk h2 i' e' hi'
    obtain ⟨j, hj, hgj⟩ := hgr _ _ _ hg
    obtain ⟨j', hj', hgj'⟩ := hgr _ _ _ hg'
    rw [hj] at h4
    rw [hj'] at h5
    replace h4 : entLe (lkM τ.mem j) (some e) := h4
    replace h5 : entLe (lkM τ.mem j') (some e') := h5
    cases hτ : lkM τ.mem j with
    | none => rw [hτ] at h4; cases h4
    | some x =>
      cases hτ' : lkM τ.mem j' with
      | none => rw [hτ'] at h5; cases h5
      | some y =>
        obtain rfl := hm.inj j j' x y g c c' hτ hτ' hgj hgj'
        obtain ⟨p, hp, rfl⟩ := lkM_mem hi
        obtain ⟨q, hq, rfl⟩ := lkM_mem hi'
        exact injB_mem h3 p hp q hq j hj hj'
  · simp only [Grn]
    rw [if_neg hid]
  · obtain ⟨_, h4⟩ := memLeR_lk h2 id e he
    obtain ⟨j, hj, hgj⟩ := hgr _ _ _ hg
    rw [hj] at h4
    replace h4 : entLe (lkM τ.mem j) (some e) := h4
    cases hτ : lkM τ.mem j with
    | none => rw [hτ] at h4; cases h4
    | some x => exact hm.kown j x g c hτ hgj
end

/-! ### Another reading of the types, from here on -/
section
variable {P : Program} {ti ti2 : TI} {env : Env} {nt : Nat} {fin : AS → Prop}
theorem den_switch (ok : TIOk P ti) : ∀ (k : Kst) (e : Exit) (σ : AS), den P ti env nt fin k e σ → den P ti2 env nt fin k e σ := by
  intro k
  induction k with
  | nil => intro e σ h; cases e <;> exact h
  | code c k ih =>
    intro e σ h
    cases e <;> first
      | exact ih _ _ h
      | exact fun _ henv hmix w0 F0 a w hg => wp_mono (h ok henv hmix w0 F0 a w hg) (Out.imp (fun e τ => ih e τ))
  | blk id k ih =>
    intro e σ h
    cases e <;> first
      | exact ih _ _ h
      | (simp only [den] at h ⊢
         split at h
         · rename_i e; rw [if_pos e]; exact ih _ _ h
         · rename_i e; rw [if_neg e]; exact ih _ _ h)
  | lp I k ih =>
    intro e σ h
    cases e <;> first
      | exact ih _ _ h
      | exact h
theorem run_switch (ok : TIOk P ti) {c : Code} {k : Kst} {σ : AS} (h : Run P ti env nt fin c k σ) : Run P ti2 env nt fin c k σ :=
  fun _ henv hmix w0 F0 a w hg => wp_mono (h ok henv hmix w0 F0 a w hg) (Out.imp (fun e τ => den_switch ok k e τ))
theorem step_switch (ok : TIOk P ti) {k : Kst} {σ : AS} (h : Step P ti env nt fin k σ) : Step P ti2 env nt fin k σ := den_switch ok k .normal σ h
theorem step_weak' {k : Kst} {σ σ' : AS} (h : AS.le nt σ σ') (hc : ∃ c k', k = .code c k') (hs : Step P ti env nt fin k σ') : Step P ti env nt fin k σ := by
  obtain ⟨c, k', rfl⟩ := hc
  exact run_weak h hs
end
def ti_ek2 : TypeId → Option (TypeId × K) := fun t => match t with
    | 22 => some (47, .stp)
    | 23 => some (59, .u32)
    | 50 => some (4, .bool)
    | 30 => some (27, .qx)
    | 92 => some (94, .way)
    | 98 => some (2, .i64)
    | 89 => some (50, .bs)
    | 120 => some (3, .i64)
    | _ => none
def ti2 : TI := ⟨ti_sz, ti_zero, ti_zeroB, ti_fld, ti_ek2, ti_int, ti_isb, ti_eq2, ti_f1, ti_ms, fun _ => none, fun _ => none⟩
theorem tie2_sz : ti2.sz = ti_sz := rfl
theorem tie2_zero : ti2.zero = ti_zero := rfl
theorem tie2_zeroB : ti2.zeroB = ti_zeroB := rfl
theorem tie2_fld : ti2.fld = ti_fld := rfl
theorem tie2_ek : ti2.ek = ti_ek2 := rfl
theorem tie2_int : ti2.int = ti_int := rfl
theorem tie2_isb : ti2.isb = ti_isb := rfl
theorem tie2_eq2 : ti2.eq2 = ti_eq2 := rfl
theorem tie2_f1 : ti2.f1 = ti_f1 := rfl
theorem tie2_ms : ti2.ms = ti_ms := rfl
theorem ti2Ok : TIOk Tryz.prog ti2 :=
  { sz := tiOk.sz, zero := tiOk.zero, zeroB := tiOk.zeroB, fld := tiOk.fld, int := tiOk.int, isb := tiOk.isb, eq2 := tiOk.eq2, f1 := tiOk.f1, ms := tiOk.ms, clo := tiOk.clo, hof := tiOk.hof
    ek := by
      intro t e k h
      simp only [ti2, ti_ek2] at h
      split at h <;> first
        | (cases h; refine ⟨rfl, _, _, rfl, rfl, rfl, rfl, rfl, ?_⟩
           intro F
           first
             | exact (rfl : _ = _)
             | exact ⟨rfl, by decide, by decide⟩
             | exact rq_zero F
             | exact ⟨_, rfl, rl_nil _ _ _⟩
             | exact ⟨_, _, rfl, rl_nil _ _ _, rl_nil _ _ _⟩
             | exact ⟨_, _, rfl, rq_zero F, rl_nil _ _ _⟩)
        | cases h }
end Go.AE

/- Plain lemmas: digits in base 2^16. -/
namespace Go.AE
set_option linter.unusedVariables false
set_option linter.unusedSimpArgs false

def hv : List Int → Int
  | [] => 0
  | a :: r => a + 65536 * hv r
def okH (l : List Int) : Prop := ∀ x ∈ l, 0 ≤ x ∧ x < 65536
def halvL : List Int → List Int
  | [] => []
  | w :: r => w % 65536 :: w / 65536 :: halvL r
def halK (ws : List Int) : List Int := trimL (halvL ws)
def pairL : List Int → List Int
  | [] => []
  | [a] => [a]
  | a :: b :: r => (a + b * 65536) :: pairL r
theorem hv_halvL {ws : List Int} (h : okW ws) : hv (halvL ws) = wv ws ∧ okH (halvL ws) ∧ (halvL ws).length = 2 * ws.length := by
  induction ws with
  | nil => exact ⟨rfl, fun x hx => (by cases hx), rfl⟩
  | cons w r ih =>
    obtain ⟨h1, h2, h3⟩ := ih (fun x hx => h x (List.mem_cons_of_mem _ hx))
    have hw := h w (by simp)
    refine ⟨?_, ?_, ?_⟩
    · simp only [halvL, hv, wv, h1]; omega
    · intro x hx
      simp only [halvL, List.mem_cons] at hx
      rcases hx with rfl | rfl | hx
      · omega
      · omega
      · exact h2 x hx
    · simp only [halvL, List.length_cons, h3]; omega
theorem halvL_take {ws : List Int} {i : Nat} (hi : i < ws.length) : halvL (ws.take (i + 1)) = halvL (ws.take i) ++ [ws.getD i 0 % 65536, ws.getD i 0 / 65536] := by
  induction ws generalizing i with
  | nil => simp at hi
  | cons w r ih =>
    cases i with
    | zero => simp [halvL]
    | succ i =>
      have := ih (i := i) (by simpa using hi)
      simp only [List.take_succ_cons, halvL, this, List.getD_cons_succ, List.cons_append]
theorem trimL_hv (l : List Int) : hv (trimL l) = hv l := by
  induction l with
  | nil => rfl
  | cons y r ih =>
    simp only [trimL]
    split
    · rename_i h
      obtain ⟨h1, h2⟩ := h
      rw [h1] at ih
      simp only [hv] at ih ⊢
      omega
    · simp only [hv, ih]
theorem okH_trimL {l : List Int} (h : okH l) : okH (trimL l) := by
  induction l with
  | nil => exact h
  | cons y r ih =>
    simp only [trimL]
    have hr : okH r := fun x hx => h x (List.mem_cons_of_mem _ hx)
    split
    · intro x hx; cases hx
    · intro x hx
      rcases List.mem_cons.1 hx with rfl | hx
      · exact h _ (by simp)
      · exact ih hr x hx
theorem pairL_length : ∀ l : List Int, (pairL l).length = (l.length + 1) / 2
  | [] => by simp [pairL]
  | [a] => by simp [pairL]
  | a :: b :: r => by simp only [pairL, List.length_cons, pairL_length r]; omega
theorem wv_pairL : ∀ l : List Int, wv (pairL l) = hv l
  | [] => rfl
  | [a] => by simp [pairL, wv, hv]
  | a :: b :: r => by simp only [pairL, wv, hv, wv_pairL r]; omega
theorem okW_pairL : ∀ {l : List Int}, okH l → okW (pairL l)
  | [], _ => fun x hx => (by cases hx)
  | [a], h => fun x hx => by
    have := h a (by simp)
    simp only [pairL, List.mem_singleton] at hx
    subst hx; omega
  | a :: b :: r, h => fun x hx => by
    have h1 := h a (by simp)
    have h2 := h b (by simp)
    simp only [pairL, List.mem_cons] at hx
    rcases hx with rfl | hx
    · omega
    · exact okW_pairL (l := r) (fun x hx => h x (by simp [hx])) x hx
theorem pairL_canon : ∀ {l : List Int}, okH l → l.getLast? ≠ some 0 → (pairL l).getLast? ≠ some 0
  | [], _, h => by simp [pairL]
  | [a], _, h => by simpa [pairL] using h
  | [a, b], hok, h => by
    have h1 := hok a (by simp)
    have h2 := hok b (by simp)
    simp [pairL] at h ⊢
    omega
  | a :: b :: c :: r, hok, h => by
    have := pairL_canon (l := c :: r) (fun x hx => hok x (by simp only [List.mem_cons] at hx ⊢; exact .inr (.inr hx))) (by simpa using h)
    rw [pairL]
    have hne : pairL (c :: r) ≠ [] := by
      intro e
      have := congrArg List.length e
      rw [pairL_length] at this
      simp at this
      omega
    obtain ⟨y, s, e⟩ := List.exists_cons_of_ne_nil hne
    rw [e] at this ⊢
    simpa using this
theorem pairL_take : ∀ {l : List Int} {i : Nat}, i % 2 = 0 → i < l.length → pairL (l.take (i + 2)) = pairL (l.take i) ++ [l.getD i 0 + l.getD (i + 1) 0 * 65536]
  | [], i, _, h => by simp at h
  | [a], i, h0, h => by
    have : i = 0 := by simp at h; exact h
    subst this
    simp [pairL]
  | a :: b :: r, 0, _, _ => by simp [pairL]
  | a :: b :: r, 1, h, _ => by simp at h
  | a :: b :: r, i + 2, h0, h => by
    have := pairL_take (l := r) (i := i) (by omega) (by simpa using h)
    simp only [List.take_succ_cons, pairL, this, List.getD_cons_succ, List.cons_append]
theorem pairL_nil {l : List Int} : pairL l = [] ↔ l = [] := by
  constructor
  · intro e
    have := congrArg List.length e
    rw [pairL_length] at this
    exact List.eq_nil_of_length_eq_zero (by simp at this; omega)
  · rintro rfl; rfl
/-- Digits, trimmed and paired: the number in its least form. -/
theorem of_z {neg : Bool} {h : List Int} (hok : okH h) :
    zval (if neg = true then decide (0 < ((pairL (trimL h)).length : Int)) else false) (pairL (trimL h)) = (if neg = true then - hv h else hv h) ∧
    canonZ (if neg = true then decide (0 < ((pairL (trimL h)).length : Int)) else false) (pairL (trimL h)) := by
  have h1 : wv (pairL (trimL h)) = hv h := by rw [wv_pairL, trimL_hv]
  have h2 := pairL_canon (okH_trimL hok) (trimL_canon h)
  cases neg
  · simp only [Bool.false_eq_true, ↓reduceIte]
    exact ⟨h1, h2, fun h => by cases h⟩
  · simp only [↓reduceIte]
    by_cases hp : 0 < ((pairL (trimL h)).length : Int)
    · rw [decide_eq_true hp]
      exact ⟨by simp only [zval, ↓reduceIte, h1], h2, fun _ e => by rw [e] at hp; simp at hp⟩
    · rw [decide_eq_false hp]
      have e : pairL (trimL h) = [] := List.eq_nil_of_length_eq_zero (by omega)
      rw [e] at h1
      simp only [wv] at h1
      refine ⟨?_, h2, fun h => by cases h⟩
      simp only [zval, Bool.false_eq_true, ↓reduceIte, e, wv]
      omega
end Go.AE
