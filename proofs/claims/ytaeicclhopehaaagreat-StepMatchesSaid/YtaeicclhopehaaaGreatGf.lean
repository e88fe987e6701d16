/- Contracts: package frac. Contracts: package step, the checks. Contracts: package step, curves and sums. Contracts: step.Allocate, step.Cost. -/
import Derived.Test.YtaeicclhopehaaaGreatGe
import Derived.Test.YtaeicclhopehaaaGreatGd
namespace Go.AE
open Go.Proofs Go.RowKit
set_option linter.unusedVariables false
set_option linter.unusedSimpArgs false
set_option maxRecDepth 20000

/-- A rational, read off a value: its value, a bound on its words. -/
def qA : AV → Option (Rat × Nat)
  | .q x _ s => some (x, s)
  | .pair (.z n _ s) (.z d _ t) => some (qval n d, max s t)
  | .pair (.pair (.v (.bool n)) (.lst .u32 nw)) (.pair (.v (.bool d)) (.lst .u32 dw)) => some (qval (zval n nw) (zval d dw), max nw.length dw.length)
  | _ => none
theorem AVle_qp {n d : Bool} {nw dw : List Int} : AVle (.pair (.pair (vb n) (.lst .u32 nw)) (.pair (vb d) (.lst .u32 dw))) (.q (qval (zval n nw) (zval d dw)) false (max nw.length dw.length)) := by
  intro F v h
  obtain ⟨cs, ⟨c1, c2, rfl, ⟨c3, c4, rfl, ⟨_, rfl⟩, v1, rfl, h1⟩, ⟨c5, c6, rfl, ⟨_, rfl⟩, v2, rfl, h2⟩⟩, rfl⟩ := (show ∃ cs, RC F _ cs ∧ v = Value.agg cs.toArray from h)
  exact (show ∃ cs, RC F (.q _ false _) cs ∧ _ = Value.agg cs.toArray from ⟨_, ⟨_, _, _, _, false, false, rfl, ⟨n, v1, nw, rfl, h1, by omega, rfl, fun h => by cases h⟩, ⟨d, v2, dw, rfl, h2, by omega, rfl, fun h => by cases h⟩, rfl, fun h => by cases h⟩, rfl⟩)
theorem qA_q {F : Fz} {a : AV} {x : Rat} {s : Nat} (h : qA a = some (x, s)) {v : Value} (hv : RVp F a v) : RVp F (.q x false s) v := by
  unfold qA at h
  split at h <;> cases h
  · exact AVle_qq rfl (Nat.le_refl _) (fun h => by cases h) F v hv
  · exact AVle_q (by omega) (by omega) rfl (fun h => by cases h) F v hv
  · exact AVle_qp F v hv
theorem open_qA {F : Fz} {a : AV} {x : Rat} {s : Nat} (h : qA a = some (x, s)) {v : Value} (hv : RVp F a v) : ∃ n d cn cd, RVp F (.pair (.z n cn s) (.z d cd s)) v ∧ x = qval n d := by
  obtain ⟨n, d, cn, cd, h1, h2, _⟩ := open_q (qA_q h hv)
  exact ⟨n, d, cn, cd, h1, h2⟩
def ctQ2 (f : Rat → Rat → Rat) : Ct := fun l => match l with
  | [a, b] => match qA a, qA b with
    | some (x, s), some (y, t) => some (s ≤ 4294967296 ∧ t ≤ 4294967296, .q (f x y) true (s + t + 8))
    | _, _ => none
  | _ => none
def ctQ2i (f : Rat → Rat → AV) : Ct := fun l => match l with
  | [a, b] => match qA a, qA b with
    | some (x, s), some (y, t) => some (s ≤ 4294967296 ∧ t ≤ 4294967296, f x y)
    | _, _ => none
  | _ => none
def cmpQ (x y : Rat) : Int := if x = y then 0 else if x < y then -1 else 1
def sgnQ (x : Rat) : Int := if x = 0 then 0 else if x < 0 then -1 else 1

def env11 : Env := fun g => match g with | 102 => some ctDoes | _ => none
theorem env11_ok : EnvOk Tryz.prog env11 := by
  intro g ct h
  simp only [env11] at h
  split at h <;> first | (cases h; exact ok102) | cases h
def ctAddQ : Ct := ctQ2 (· + ·)
theorem ok63 : Sound Tryz.prog 63 ctAddQ := by
  refine sound_of (fn := Tryz.f63) rfl rfl rfl tiOk env11_ok mix ?_ (by intro l p r h; unfold ctAddQ ctQ2 at h; split at h <;> first | cases h | (split at h <;> cases h; exact Nat.le_of_ble_eq_true rfl))
  intro l p r h hp F vs hv
  unfold ctAddQ ctQ2 at h
  split at h
  rotate_left
  · cases h
  split at h <;> cases h
  rename_i az bz _ _ x s y t ha hb
  obtain ⟨v0, r0, rfl, a0, v1, r1, rfl, a1, hv⟩ := hv
  replace a0 := qA_q ha a0
  replace a1 := qA_q hb a1
  refine ⟨[_, _], ⟨_, _, rfl, a0, _, _, rfl, a1, hv⟩, ?_⟩
  show Run Tryz.prog ti env11 8 (finR ti [.cell 4 27] _) _ _ _
  repeat' (first | with_reducible refine run_seq ?_ | with_reducible refine run_block ?_ | with_reducible refine step_code ?_ | with_reducible refine step_blk ?_ | with_reducible refine run_skip ?_ | with_reducible refine run_exit ?_ | with_reducible refine exits_code ?_ | with_reducible refine exits_here ?_ | with_reducible refine exits_blk rfl ?_ | with_reducible refine exits_lp ?_ | with_reducible refine run_ret ?_ | ((first | with_reducible refine run_region ?_ | with_reducible refine run_draw (by kernel_rfl) ?_); simp only [↓guardP_tt, ↓guardP_tf, ↓guardP_ft, ↓guardP_ff, guardP_t, guardP_f, evalQ, evalR, effQ, effR, skipS, opEff, evO, plainV, lkS, lkM, updL, putS, tie_sz, tie_zero, tie_zeroB, tie_fld, tie_ek, tie_int, tie_isb, tie_eq2, tie_f1, tie_ms,  ti_f1, ti_ms, ti_sz, ti_zero, ti_zeroB, ti_fld, ti_ek, ti_int, ti_isb, ti_eq2, binA, binI, intOp, funOf_v, cloOf_v, calIds, appEff, frE, foldB, foldS, castL_self, K.enc, K.dec, K.zero, K.es, K.bytes, AV.part, AV.setPart, AV.cells, AV.agg, AV.nth, Bool.false_eq_true, callEff, pubs, pub, nilAV, MM.upd, MM.set, argS, gdst, opIds, lids, AV.ids, List.getD_cons_succ, List.getD_cons_zero, List.map, List.tail, List.headD, List.nil_append, List.append_nil, List.cons_append, List.length_nil, List.length_cons, List.zip_cons_cons, List.zip_nil_right, List.set_cons_zero, List.set_cons_succ, List.replicate, Option.isSome_some, Option.map_some, Bool.not_true, Bool.not_false, forall_const, false_implies, Nat.reduceAdd, Nat.reduceEqDiff, Nat.reduceLT, Nat.reduceSub, Nat.reduceMul, Nat.reduceLeDiff, ↓reduceIte, and_true, true_and, and_self, false_and, and_false, reduceCtorEq, env11, ctDoes, kOf_add]) | (with_reducible refine run_cond (by with_unfolding_all exact rfl) ?_ ?_ <;> intro hc <;> (try simp only [vb, decide_eq_true_eq, decide_eq_false_iff_not, beq_iff_eq, beq_eq_false_iff_ne, bne_iff_ne, bne_eq_false_iff_eq, Bool.not_eq_true', Bool.not_eq_false', reduceCtorEq] at hc) <;> (try (first | simp (disch := omega) only [wrap64, wrapu64, wrapu32, sh32, fdiv32, Int.tdiv_eq_ediv_of_nonneg, Int.tmod_eq_emod_of_nonneg, tn_add, tn_add1, Int.toNat_natCast, Int.toNat_zero, List.drop_zero] at hc | simp only [wrapu64m, wrapu32m] at hc))) | ((with_reducible refine compat_ok ?_); kernel_rfl) | with_reducible apply And.intro | (first | simp (disch := omega) only [wrap64, wrapu64, wrapu32, sh32, fdiv32, Int.tdiv_eq_ediv_of_nonneg, Int.tmod_eq_emod_of_nonneg, tn_add, tn_add1, Int.toNat_natCast, Int.toNat_zero, List.drop_zero] | simp only [wrapu64m, wrapu32m]) | (with_reducible intro hg; (try simp only [vb, decide_eq_true_eq, decide_eq_false_iff_not, beq_iff_eq, beq_eq_false_iff_ne, bne_iff_ne, bne_eq_false_iff_eq, Bool.not_eq_true', Bool.not_eq_false', reduceCtorEq] at hg); (try (first | simp (disch := omega) only [wrap64, wrapu64, wrapu32, sh32, fdiv32, Int.tdiv_eq_ediv_of_nonneg, Int.tmod_eq_emod_of_nonneg, tn_add, tn_add1, Int.toNat_natCast, Int.toNat_zero, List.drop_zero] at hg | simp only [wrapu64m, wrapu32m] at hg))))
  all_goals try omega
  simp only [finR, resAs, resA, resLe, lsLe, lkS, lkM, pubs, pub, tie_sz, ti_sz, tie_ek, ti_ek,  nilAV, MM.upd, MM.set, AV.part, AV.cells, AV.agg, List.tail, List.headD, Nat.reduceAdd, Nat.reduceEqDiff, Nat.reduceLT, ↓reduceIte, and_true, true_and, and_self, reduceCtorEq]
  exact AVle.rfl
def ctSubQ : Ct := ctQ2 (· - ·)
theorem ok62 : Sound Tryz.prog 62 ctSubQ := by
  refine sound_of (fn := Tryz.f62) rfl rfl rfl tiOk env11_ok mix ?_ (by intro l p r h; unfold ctSubQ ctQ2 at h; split at h <;> first | cases h | (split at h <;> cases h; exact Nat.le_of_ble_eq_true rfl))
  intro l p r h hp F vs hv
  unfold ctSubQ ctQ2 at h
  split at h
  rotate_left
  · cases h
  split at h <;> cases h
  rename_i az bz _ _ x s y t ha hb
  obtain ⟨v0, r0, rfl, a0, v1, r1, rfl, a1, hv⟩ := hv
  replace a0 := qA_q ha a0
  replace a1 := qA_q hb a1
  refine ⟨[_, _], ⟨_, _, rfl, a0, _, _, rfl, a1, hv⟩, ?_⟩
  show Run Tryz.prog ti env11 8 (finR ti [.cell 4 27] _) _ _ _
  repeat' (first | with_reducible refine run_seq ?_ | with_reducible refine run_block ?_ | with_reducible refine step_code ?_ | with_reducible refine step_blk ?_ | with_reducible refine run_skip ?_ | with_reducible refine run_exit ?_ | with_reducible refine exits_code ?_ | with_reducible refine exits_here ?_ | with_reducible refine exits_blk rfl ?_ | with_reducible refine exits_lp ?_ | with_reducible refine run_ret ?_ | ((first | with_reducible refine run_region ?_ | with_reducible refine run_draw (by kernel_rfl) ?_); simp only [↓guardP_tt, ↓guardP_tf, ↓guardP_ft, ↓guardP_ff, guardP_t, guardP_f, evalQ, evalR, effQ, effR, skipS, opEff, evO, plainV, lkS, lkM, updL, putS, tie_sz, tie_zero, tie_zeroB, tie_fld, tie_ek, tie_int, tie_isb, tie_eq2, tie_f1, tie_ms,  ti_f1, ti_ms, ti_sz, ti_zero, ti_zeroB, ti_fld, ti_ek, ti_int, ti_isb, ti_eq2, binA, binI, intOp, funOf_v, cloOf_v, calIds, appEff, frE, foldB, foldS, castL_self, K.enc, K.dec, K.zero, K.es, K.bytes, AV.part, AV.setPart, AV.cells, AV.agg, AV.nth, Bool.false_eq_true, callEff, pubs, pub, nilAV, MM.upd, MM.set, argS, gdst, opIds, lids, AV.ids, List.getD_cons_succ, List.getD_cons_zero, List.map, List.tail, List.headD, List.nil_append, List.append_nil, List.cons_append, List.length_nil, List.length_cons, List.zip_cons_cons, List.zip_nil_right, List.set_cons_zero, List.set_cons_succ, List.replicate, Option.isSome_some, Option.map_some, Bool.not_true, Bool.not_false, forall_const, false_implies, Nat.reduceAdd, Nat.reduceEqDiff, Nat.reduceLT, Nat.reduceSub, Nat.reduceMul, Nat.reduceLeDiff, ↓reduceIte, and_true, true_and, and_self, false_and, and_false, reduceCtorEq, env11, ctDoes, kOf_sub]) | (with_reducible refine run_cond (by with_unfolding_all exact rfl) ?_ ?_ <;> intro hc <;> (try simp only [vb, decide_eq_true_eq, decide_eq_false_iff_not, beq_iff_eq, beq_eq_false_iff_ne, bne_iff_ne, bne_eq_false_iff_eq, Bool.not_eq_true', Bool.not_eq_false', reduceCtorEq] at hc) <;> (try (first | simp (disch := omega) only [wrap64, wrapu64, wrapu32, sh32, fdiv32, Int.tdiv_eq_ediv_of_nonneg, Int.tmod_eq_emod_of_nonneg, tn_add, tn_add1, Int.toNat_natCast, Int.toNat_zero, List.drop_zero] at hc | simp only [wrapu64m, wrapu32m] at hc))) | ((with_reducible refine compat_ok ?_); kernel_rfl) | with_reducible apply And.intro | (first | simp (disch := omega) only [wrap64, wrapu64, wrapu32, sh32, fdiv32, Int.tdiv_eq_ediv_of_nonneg, Int.tmod_eq_emod_of_nonneg, tn_add, tn_add1, Int.toNat_natCast, Int.toNat_zero, List.drop_zero] | simp only [wrapu64m, wrapu32m]) | (with_reducible intro hg; (try simp only [vb, decide_eq_true_eq, decide_eq_false_iff_not, beq_iff_eq, beq_eq_false_iff_ne, bne_iff_ne, bne_eq_false_iff_eq, Bool.not_eq_true', Bool.not_eq_false', reduceCtorEq] at hg); (try (first | simp (disch := omega) only [wrap64, wrapu64, wrapu32, sh32, fdiv32, Int.tdiv_eq_ediv_of_nonneg, Int.tmod_eq_emod_of_nonneg, tn_add, tn_add1, Int.toNat_natCast, Int.toNat_zero, List.drop_zero] at hg | simp only [wrapu64m, wrapu32m] at hg))))
  all_goals try omega
  simp only [finR, resAs, resA, resLe, lsLe, lkS, lkM, pubs, pub, tie_sz, ti_sz, tie_ek, ti_ek,  nilAV, MM.upd, MM.set, AV.part, AV.cells, AV.agg, List.tail, List.headD, Nat.reduceAdd, Nat.reduceEqDiff, Nat.reduceLT, ↓reduceIte, and_true, true_and, and_self, reduceCtorEq]
  exact AVle.rfl
def ctMulQ : Ct := ctQ2 (· * ·)
theorem ok64 : Sound Tryz.prog 64 ctMulQ := by
  refine sound_of (fn := Tryz.f64) rfl rfl rfl tiOk env11_ok mix ?_ (by intro l p r h; unfold ctMulQ ctQ2 at h; split at h <;> first | cases h | (split at h <;> cases h; exact Nat.le_of_ble_eq_true rfl))
  intro l p r h hp F vs hv
  unfold ctMulQ ctQ2 at h
  split at h
  rotate_left
  · cases h
  split at h <;> cases h
  rename_i az bz _ _ x s y t ha hb
  obtain ⟨v0, r0, rfl, a0, v1, r1, rfl, a1, hv⟩ := hv
  replace a0 := qA_q ha a0
  replace a1 := qA_q hb a1
  refine ⟨[_, _], ⟨_, _, rfl, a0, _, _, rfl, a1, hv⟩, ?_⟩
  show Run Tryz.prog ti env11 8 (finR ti [.cell 4 27] _) _ _ _
  repeat' (first | with_reducible refine run_seq ?_ | with_reducible refine run_block ?_ | with_reducible refine step_code ?_ | with_reducible refine step_blk ?_ | with_reducible refine run_skip ?_ | with_reducible refine run_exit ?_ | with_reducible refine exits_code ?_ | with_reducible refine exits_here ?_ | with_reducible refine exits_blk rfl ?_ | with_reducible refine exits_lp ?_ | with_reducible refine run_ret ?_ | ((first | with_reducible refine run_region ?_ | with_reducible refine run_draw (by kernel_rfl) ?_); simp only [↓guardP_tt, ↓guardP_tf, ↓guardP_ft, ↓guardP_ff, guardP_t, guardP_f, evalQ, evalR, effQ, effR, skipS, opEff, evO, plainV, lkS, lkM, updL, putS, tie_sz, tie_zero, tie_zeroB, tie_fld, tie_ek, tie_int, tie_isb, tie_eq2, tie_f1, tie_ms,  ti_f1, ti_ms, ti_sz, ti_zero, ti_zeroB, ti_fld, ti_ek, ti_int, ti_isb, ti_eq2, binA, binI, intOp, funOf_v, cloOf_v, calIds, appEff, frE, foldB, foldS, castL_self, K.enc, K.dec, K.zero, K.es, K.bytes, AV.part, AV.setPart, AV.cells, AV.agg, AV.nth, Bool.false_eq_true, callEff, pubs, pub, nilAV, MM.upd, MM.set, argS, gdst, opIds, lids, AV.ids, List.getD_cons_succ, List.getD_cons_zero, List.map, List.tail, List.headD, List.nil_append, List.append_nil, List.cons_append, List.length_nil, List.length_cons, List.zip_cons_cons, List.zip_nil_right, List.set_cons_zero, List.set_cons_succ, List.replicate, Option.isSome_some, Option.map_some, Bool.not_true, Bool.not_false, forall_const, false_implies, Nat.reduceAdd, Nat.reduceEqDiff, Nat.reduceLT, Nat.reduceSub, Nat.reduceMul, Nat.reduceLeDiff, ↓reduceIte, and_true, true_and, and_self, false_and, and_false, reduceCtorEq, env11, ctDoes, kOf_mul]) | (with_reducible refine run_cond (by with_unfolding_all exact rfl) ?_ ?_ <;> intro hc <;> (try simp only [vb, decide_eq_true_eq, decide_eq_false_iff_not, beq_iff_eq, beq_eq_false_iff_ne, bne_iff_ne, bne_eq_false_iff_eq, Bool.not_eq_true', Bool.not_eq_false', reduceCtorEq] at hc) <;> (try (first | simp (disch := omega) only [wrap64, wrapu64, wrapu32, sh32, fdiv32, Int.tdiv_eq_ediv_of_nonneg, Int.tmod_eq_emod_of_nonneg, tn_add, tn_add1, Int.toNat_natCast, Int.toNat_zero, List.drop_zero] at hc | simp only [wrapu64m, wrapu32m] at hc))) | ((with_reducible refine compat_ok ?_); kernel_rfl) | with_reducible apply And.intro | (first | simp (disch := omega) only [wrap64, wrapu64, wrapu32, sh32, fdiv32, Int.tdiv_eq_ediv_of_nonneg, Int.tmod_eq_emod_of_nonneg, tn_add, tn_add1, Int.toNat_natCast, Int.toNat_zero, List.drop_zero] | simp only [wrapu64m, wrapu32m]) | (with_reducible intro hg; (try simp only [vb, decide_eq_true_eq, decide_eq_false_iff_not, beq_iff_eq, beq_eq_false_iff_ne, bne_iff_ne, bne_eq_false_iff_eq, Bool.not_eq_true', Bool.not_eq_false', reduceCtorEq] at hg); (try (first | simp (disch := omega) only [wrap64, wrapu64, wrapu32, sh32, fdiv32, Int.tdiv_eq_ediv_of_nonneg, Int.tmod_eq_emod_of_nonneg, tn_add, tn_add1, Int.toNat_natCast, Int.toNat_zero, List.drop_zero] at hg | simp only [wrapu64m, wrapu32m] at hg))))
  all_goals try omega
  simp only [finR, resAs, resA, resLe, lsLe, lkS, lkM, pubs, pub, tie_sz, ti_sz, tie_ek, ti_ek,  nilAV, MM.upd, MM.set, AV.part, AV.cells, AV.agg, List.tail, List.headD, Nat.reduceAdd, Nat.reduceEqDiff, Nat.reduceLT, ↓reduceIte, and_true, true_and, and_self, reduceCtorEq]
  exact AVle.rfl

def env12 : Env := fun g => match g with | 97 => some ctOf | 96 => some ctSign | 99 => some ctMulZ | 98 => some ctCmpZ | 135 => some ctLeast | 100 => some ctFromI | _ => none
theorem env12_ok : EnvOk Tryz.prog env12 := by
  intro g ct h
  simp only [env12] at h
  split at h <;> first | (cases h; exact ok97) | (cases h; exact ok96) | (cases h; exact ok99) | (cases h; exact ok98) | (cases h; exact ok135) | (cases h; exact ok100) | cases h
theorem sgnQ_of {n d : Int} (hd : 0 < d) : sgn n = sgnQ ((n : Rat) / (d : Rat)) := by
  have h := rat_pos hd
  have h2 := rat_ne (show d ≠ 0 by omega)
  by_cases h0 : n = 0
  · subst h0
    have e0 : ((0 : Int) : Rat) / (d : Rat) = 0 := by grind
    simp only [sgn, sgnQ, e0, ↓reduceIte]
  · have h3 := rat_ne h0
    have e0 : ¬ ((n : Rat) / (d : Rat) = 0) := by grind
    simp only [sgn, sgnQ, if_neg h0, if_neg e0]
    by_cases h1 : n < 0
    · have : (n : Rat) < 0 := by exact_mod_cast h1
      rw [if_pos h1, if_pos (by rw [Rat.div_lt_iff h]; grind)]
    · have : (0 : Rat) < (n : Rat) := by exact_mod_cast (show 0 < n by omega)
      rw [if_neg h1, if_neg (by rw [Rat.div_lt_iff h]; grind)]
theorem cmpQ_of {a b c d : Int} (hb : 0 < b) (hd : 0 < d) : sgn (a * d - c * b) = cmpQ ((a : Rat) / (b : Rat)) ((c : Rat) / (d : Rat)) := by
  rw [sgnQ_of (Int.mul_pos hb hd), rat_sub' hb hd]
  unfold sgnQ cmpQ
  split <;> split <;> (try split) <;> (try split) <;> first | rfl | grind
def ctSignQ : Ct := fun l => match l with
  | [a] => match qA a with
    | some (x, s) => some (s ≤ 4294967296, vi (sgnQ x))
    | none => none
  | _ => none
theorem ok58 : Sound Tryz.prog 58 ctSignQ := by
  refine sound_of (fn := Tryz.f58) rfl rfl rfl tiOk env12_ok mix ?_ (by intro l p r h; unfold ctSignQ at h; split at h <;> first | cases h | (split at h <;> cases h; exact Nat.le_of_ble_eq_true rfl))
  intro l p r h hp F vs hv
  unfold ctSignQ at h
  split at h
  rotate_left
  · cases h
  split at h <;> cases h
  rename_i az _ x s ha
  obtain ⟨v0, r0, rfl, a0, hv⟩ := hv
  obtain ⟨n0, d0, cn0, cd0, a0, val0⟩ := open_qA ha a0
  refine ⟨[_], ⟨_, _, rfl, a0, hv⟩, ?_⟩
  show Run Tryz.prog ti env12 7 (finR ti [.tmp 2] _) _ _ _
  repeat' (first | with_reducible refine run_seq ?_ | with_reducible refine run_block ?_ | with_reducible refine step_code ?_ | with_reducible refine step_blk ?_ | with_reducible refine run_skip ?_ | with_reducible refine run_exit ?_ | with_reducible refine exits_code ?_ | with_reducible refine exits_here ?_ | with_reducible refine exits_blk rfl ?_ | with_reducible refine exits_lp ?_ | with_reducible refine run_ret ?_ | ((first | with_reducible refine run_region ?_ | with_reducible refine run_draw (by kernel_rfl) ?_); simp only [↓guardP_tt, ↓guardP_tf, ↓guardP_ft, ↓guardP_ff, guardP_t, guardP_f, evalQ, evalR, effQ, effR, skipS, opEff, evO, plainV, lkS, lkM, updL, putS, tie_sz, tie_zero, tie_zeroB, tie_fld, tie_ek, tie_int, tie_isb, tie_eq2, tie_f1, tie_ms,  ti_f1, ti_ms, ti_sz, ti_zero, ti_zeroB, ti_fld, ti_ek, ti_int, ti_isb, ti_eq2, binA, binI, intOp, funOf_v, cloOf_v, calIds, appEff, frE, foldB, foldS, castL_self, K.enc, K.dec, K.zero, K.es, K.bytes, AV.part, AV.setPart, AV.cells, AV.agg, AV.nth, Bool.false_eq_true, callEff, pubs, pub, nilAV, MM.upd, MM.set, argS, gdst, opIds, lids, AV.ids, List.getD_cons_succ, List.getD_cons_zero, List.map, List.tail, List.headD, List.nil_append, List.append_nil, List.cons_append, List.length_nil, List.length_cons, List.zip_cons_cons, List.zip_nil_right, List.set_cons_zero, List.set_cons_succ, List.replicate, Option.isSome_some, Option.map_some, Bool.not_true, Bool.not_false, forall_const, false_implies, Nat.reduceAdd, Nat.reduceEqDiff, Nat.reduceLT, Nat.reduceSub, Nat.reduceMul, Nat.reduceLeDiff, ↓reduceIte, and_true, true_and, and_self, false_and, and_false, reduceCtorEq, env12, ctOf, ctSign]) | (with_reducible refine run_cond (by with_unfolding_all exact rfl) ?_ ?_ <;> intro hc <;> (try simp only [vb, decide_eq_true_eq, decide_eq_false_iff_not, beq_iff_eq, beq_eq_false_iff_ne, bne_iff_ne, bne_eq_false_iff_eq, Bool.not_eq_true', Bool.not_eq_false', reduceCtorEq] at hc) <;> (try (first | simp (disch := omega) only [wrap64, wrapu64, wrapu32, sh32, fdiv32, Int.tdiv_eq_ediv_of_nonneg, Int.tmod_eq_emod_of_nonneg, tn_add, tn_add1, Int.toNat_natCast, Int.toNat_zero, List.drop_zero] at hc | simp only [wrapu64m, wrapu32m] at hc))) | ((with_reducible refine compat_ok ?_); kernel_rfl) | with_reducible apply And.intro | (first | simp (disch := omega) only [wrap64, wrapu64, wrapu32, sh32, fdiv32, Int.tdiv_eq_ediv_of_nonneg, Int.tmod_eq_emod_of_nonneg, tn_add, tn_add1, Int.toNat_natCast, Int.toNat_zero, List.drop_zero] | simp only [wrapu64m, wrapu32m]) | (with_reducible intro hg; (try simp only [vb, decide_eq_true_eq, decide_eq_false_iff_not, beq_iff_eq, beq_eq_false_iff_ne, bne_iff_ne, bne_eq_false_iff_eq, Bool.not_eq_true', Bool.not_eq_false', reduceCtorEq] at hg); (try (first | simp (disch := omega) only [wrap64, wrapu64, wrapu32, sh32, fdiv32, Int.tdiv_eq_ediv_of_nonneg, Int.tmod_eq_emod_of_nonneg, tn_add, tn_add1, Int.toNat_natCast, Int.toNat_zero, List.drop_zero] at hg | simp only [wrapu64m, wrapu32m] at hg))))
  all_goals try omega
  simp only [finR, resAs, resA, resLe, lsLe, lkS, lkM, pubs, pub, tie_sz, ti_sz, tie_ek, ti_ek,  nilAV, MM.upd, MM.set, AV.part, AV.cells, AV.agg, List.tail, List.headD, Nat.reduceAdd, Nat.reduceEqDiff, Nat.reduceLT, ↓reduceIte, and_true, true_and, and_self, reduceCtorEq]
  refine AVle_int ?_
  rw [sgnQ_of (ofD_pos d0), of_val, val0]
def ctCmpQ : Ct := ctQ2i (fun x y => vi (cmpQ x y))
theorem ok59 : Sound Tryz.prog 59 ctCmpQ := by
  refine sound_of (fn := Tryz.f59) rfl rfl rfl tiOk env12_ok mix ?_ (by intro l p r h; unfold ctCmpQ ctQ2i at h; split at h <;> first | cases h | (split at h <;> cases h; exact Nat.le_of_ble_eq_true rfl))
  intro l p r h hp F vs hv
  unfold ctCmpQ ctQ2i at h
  split at h
  rotate_left
  · cases h
  split at h <;> cases h
  rename_i az bz _ _ x s y t ha hb
  obtain ⟨v0, r0, rfl, a0, v1, r1, rfl, a1, hv⟩ := hv
  obtain ⟨n0, d0, cn0, cd0, a0, val0⟩ := open_qA ha a0
  obtain ⟨n1, d1, cn1, cd1, a1, val1⟩ := open_qA hb a1
  refine ⟨[_, _], ⟨_, _, rfl, a0, _, _, rfl, a1, hv⟩, ?_⟩
  show Run Tryz.prog ti env12 22 (finR ti [.tmp 4] _) _ _ _
  repeat' (first | with_reducible refine run_seq ?_ | with_reducible refine run_block ?_ | with_reducible refine step_code ?_ | with_reducible refine step_blk ?_ | with_reducible refine run_skip ?_ | with_reducible refine run_exit ?_ | with_reducible refine exits_code ?_ | with_reducible refine exits_here ?_ | with_reducible refine exits_blk rfl ?_ | with_reducible refine exits_lp ?_ | with_reducible refine run_ret ?_ | ((first | with_reducible refine run_region ?_ | with_reducible refine run_draw (by kernel_rfl) ?_); simp only [↓guardP_tt, ↓guardP_tf, ↓guardP_ft, ↓guardP_ff, guardP_t, guardP_f, evalQ, evalR, effQ, effR, skipS, opEff, evO, plainV, lkS, lkM, updL, putS, tie_sz, tie_zero, tie_zeroB, tie_fld, tie_ek, tie_int, tie_isb, tie_eq2, tie_f1, tie_ms,  ti_f1, ti_ms, ti_sz, ti_zero, ti_zeroB, ti_fld, ti_ek, ti_int, ti_isb, ti_eq2, binA, binI, intOp, funOf_v, cloOf_v, calIds, appEff, frE, foldB, foldS, castL_self, K.enc, K.dec, K.zero, K.es, K.bytes, AV.part, AV.setPart, AV.cells, AV.agg, AV.nth, Bool.false_eq_true, callEff, pubs, pub, nilAV, MM.upd, MM.set, argS, gdst, opIds, lids, AV.ids, List.getD_cons_succ, List.getD_cons_zero, List.map, List.tail, List.headD, List.nil_append, List.append_nil, List.cons_append, List.length_nil, List.length_cons, List.zip_cons_cons, List.zip_nil_right, List.set_cons_zero, List.set_cons_succ, List.replicate, Option.isSome_some, Option.map_some, Bool.not_true, Bool.not_false, forall_const, false_implies, Nat.reduceAdd, Nat.reduceEqDiff, Nat.reduceLT, Nat.reduceSub, Nat.reduceMul, Nat.reduceLeDiff, ↓reduceIte, and_true, true_and, and_self, false_and, and_false, reduceCtorEq, env12, ctOf, ctMulZ, ctCmpZ]) | (with_reducible refine run_cond (by with_unfolding_all exact rfl) ?_ ?_ <;> intro hc <;> (try simp only [vb, decide_eq_true_eq, decide_eq_false_iff_not, beq_iff_eq, beq_eq_false_iff_ne, bne_iff_ne, bne_eq_false_iff_eq, Bool.not_eq_true', Bool.not_eq_false', reduceCtorEq] at hc) <;> (try (first | simp (disch := omega) only [wrap64, wrapu64, wrapu32, sh32, fdiv32, Int.tdiv_eq_ediv_of_nonneg, Int.tmod_eq_emod_of_nonneg, tn_add, tn_add1, Int.toNat_natCast, Int.toNat_zero, List.drop_zero] at hc | simp only [wrapu64m, wrapu32m] at hc))) | ((with_reducible refine compat_ok ?_); kernel_rfl) | with_reducible apply And.intro | (first | simp (disch := omega) only [wrap64, wrapu64, wrapu32, sh32, fdiv32, Int.tdiv_eq_ediv_of_nonneg, Int.tmod_eq_emod_of_nonneg, tn_add, tn_add1, Int.toNat_natCast, Int.toNat_zero, List.drop_zero] | simp only [wrapu64m, wrapu32m]) | (with_reducible intro hg; (try simp only [vb, decide_eq_true_eq, decide_eq_false_iff_not, beq_iff_eq, beq_eq_false_iff_ne, bne_iff_ne, bne_eq_false_iff_eq, Bool.not_eq_true', Bool.not_eq_false', reduceCtorEq] at hg); (try (first | simp (disch := omega) only [wrap64, wrapu64, wrapu32, sh32, fdiv32, Int.tdiv_eq_ediv_of_nonneg, Int.tmod_eq_emod_of_nonneg, tn_add, tn_add1, Int.toNat_natCast, Int.toNat_zero, List.drop_zero] at hg | simp only [wrapu64m, wrapu32m] at hg))))
  all_goals try omega
  simp only [finR, resAs, resA, resLe, lsLe, lkS, lkM, pubs, pub, tie_sz, ti_sz, tie_ek, ti_ek,  nilAV, MM.upd, MM.set, AV.part, AV.cells, AV.agg, List.tail, List.headD, Nat.reduceAdd, Nat.reduceEqDiff, Nat.reduceLT, ↓reduceIte, and_true, true_and, and_self, reduceCtorEq]
  refine AVle_int ?_
  rw [cmpQ_of (ofD_pos d0) (ofD_pos d1), of_val, of_val, val0, val1]
def ctFromQ : Ct := fun l => match l with
  | [.v (.int .i64 n)] => some (-9223372036854775808 ≤ n ∧ n < 9223372036854775808, .q (n : Rat) true 2)
  | _ => none
theorem ok60 : Sound Tryz.prog 60 ctFromQ := by
  refine sound_of (fn := Tryz.f60) rfl rfl rfl tiOk env12_ok mix ?_ (by intro l p r h; unfold ctFromQ at h; split at h <;> cases h <;> exact Nat.le_of_ble_eq_true rfl)
  intro l p r h hp F vs hv
  unfold ctFromQ at h
  split at h <;> cases h
  rename_i n
  obtain ⟨v0, rest0, rfl, a0, hv⟩ := hv
  refine ⟨[_], ⟨_, _, rfl, a0, hv⟩, ?_⟩
  show Run Tryz.prog ti env12 6 (finR ti [.cell 2 27] _) _ _ _
  repeat' (first | with_reducible refine run_seq ?_ | with_reducible refine run_block ?_ | with_reducible refine step_code ?_ | with_reducible refine step_blk ?_ | with_reducible refine run_skip ?_ | with_reducible refine run_exit ?_ | with_reducible refine exits_code ?_ | with_reducible refine exits_here ?_ | with_reducible refine exits_blk rfl ?_ | with_reducible refine exits_lp ?_ | with_reducible refine run_ret ?_ | ((first | with_reducible refine run_region ?_ | with_reducible refine run_draw (by kernel_rfl) ?_); simp only [↓guardP_tt, ↓guardP_tf, ↓guardP_ft, ↓guardP_ff, guardP_t, guardP_f, evalQ, evalR, effQ, effR, skipS, opEff, evO, plainV, lkS, lkM, updL, putS, tie_sz, tie_zero, tie_zeroB, tie_fld, tie_ek, tie_int, tie_isb, tie_eq2, tie_f1, tie_ms,  ti_f1, ti_ms, ti_sz, ti_zero, ti_zeroB, ti_fld, ti_ek, ti_int, ti_isb, ti_eq2, binA, binI, intOp, funOf_v, cloOf_v, calIds, appEff, frE, foldB, foldS, castL_self, K.enc, K.dec, K.zero, K.es, K.bytes, AV.part, AV.setPart, AV.cells, AV.agg, AV.nth, Bool.false_eq_true, callEff, pubs, pub, nilAV, MM.upd, MM.set, argS, gdst, opIds, lids, AV.ids, List.getD_cons_succ, List.getD_cons_zero, List.map, List.tail, List.headD, List.nil_append, List.append_nil, List.cons_append, List.length_nil, List.length_cons, List.zip_cons_cons, List.zip_nil_right, List.set_cons_zero, List.set_cons_succ, List.replicate, Option.isSome_some, Option.map_some, Bool.not_true, Bool.not_false, forall_const, false_implies, Nat.reduceAdd, Nat.reduceEqDiff, Nat.reduceLT, Nat.reduceSub, Nat.reduceMul, Nat.reduceLeDiff, ↓reduceIte, and_true, true_and, and_self, false_and, and_false, reduceCtorEq, env12, ctFromI]) | (with_reducible refine run_cond (by with_unfolding_all exact rfl) ?_ ?_ <;> intro hc <;> (try simp only [vb, decide_eq_true_eq, decide_eq_false_iff_not, beq_iff_eq, beq_eq_false_iff_ne, bne_iff_ne, bne_eq_false_iff_eq, Bool.not_eq_true', Bool.not_eq_false', reduceCtorEq] at hc) <;> (try (first | simp (disch := omega) only [wrap64, wrapu64, wrapu32, sh32, fdiv32, Int.tdiv_eq_ediv_of_nonneg, Int.tmod_eq_emod_of_nonneg, tn_add, tn_add1, Int.toNat_natCast, Int.toNat_zero, List.drop_zero] at hc | simp only [wrapu64m, wrapu32m] at hc))) | ((with_reducible refine compat_ok ?_); kernel_rfl) | with_reducible apply And.intro | (first | simp (disch := omega) only [wrap64, wrapu64, wrapu32, sh32, fdiv32, Int.tdiv_eq_ediv_of_nonneg, Int.tmod_eq_emod_of_nonneg, tn_add, tn_add1, Int.toNat_natCast, Int.toNat_zero, List.drop_zero] | simp only [wrapu64m, wrapu32m]) | (with_reducible intro hg; (try simp only [vb, decide_eq_true_eq, decide_eq_false_iff_not, beq_iff_eq, beq_eq_false_iff_ne, bne_iff_ne, bne_eq_false_iff_eq, Bool.not_eq_true', Bool.not_eq_false', reduceCtorEq] at hg); (try (first | simp (disch := omega) only [wrap64, wrapu64, wrapu32, sh32, fdiv32, Int.tdiv_eq_ediv_of_nonneg, Int.tmod_eq_emod_of_nonneg, tn_add, tn_add1, Int.toNat_natCast, Int.toNat_zero, List.drop_zero] at hg | simp only [wrapu64m, wrapu32m] at hg))))
  all_goals try omega
  simp only [finR, resAs, resA, resLe, lsLe, lkS, lkM, pubs, pub, tie_sz, ti_sz, tie_ek, ti_ek,  nilAV, MM.upd, MM.set, AV.part, AV.cells, AV.agg, List.tail, List.headD, Nat.reduceAdd, Nat.reduceEqDiff, Nat.reduceLT, ↓reduceIte, and_true, true_and, and_self, reduceCtorEq]
  exact AVle_q (by omega) (by omega) (by simp [qval]) (fun _ => ⟨rfl, rfl, .inl rfl⟩)
def ctCanQ : Ct := fun l => match l with
  | [a] => match qA a with
    | some (x, s) => some (s ≤ 4294967296, .q x true (s + 4))
    | none => none
  | _ => none
theorem ok101 : Sound Tryz.prog 101 ctCanQ := by
  refine sound_of (fn := Tryz.f101) rfl rfl rfl tiOk env12_ok mix ?_ (by intro l p r h; unfold ctCanQ at h; split at h <;> first | cases h | (split at h <;> cases h; exact Nat.le_of_ble_eq_true rfl))
  intro l p r h hp F vs hv
  unfold ctCanQ at h
  split at h
  rotate_left
  · cases h
  split at h <;> cases h
  rename_i az _ x s ha
  obtain ⟨v0, r0, rfl, a0, hv⟩ := hv
  obtain ⟨n0, d0, cn0, cd0, a0, val0⟩ := open_qA ha a0
  refine ⟨[_], ⟨_, _, rfl, a0, hv⟩, ?_⟩
  have hpos := ofD_pos d0
  show Run Tryz.prog ti env12 6 (finR ti [.cell 2 27] _) _ _ _
  repeat' (first | with_reducible refine run_seq ?_ | with_reducible refine run_block ?_ | with_reducible refine step_code ?_ | with_reducible refine step_blk ?_ | with_reducible refine run_skip ?_ | with_reducible refine run_exit ?_ | with_reducible refine exits_code ?_ | with_reducible refine exits_here ?_ | with_reducible refine exits_blk rfl ?_ | with_reducible refine exits_lp ?_ | with_reducible refine run_ret ?_ | ((first | with_reducible refine run_region ?_ | with_reducible refine run_draw (by kernel_rfl) ?_); simp only [↓guardP_tt, ↓guardP_tf, ↓guardP_ft, ↓guardP_ff, guardP_t, guardP_f, evalQ, evalR, effQ, effR, skipS, opEff, evO, plainV, lkS, lkM, updL, putS, tie_sz, tie_zero, tie_zeroB, tie_fld, tie_ek, tie_int, tie_isb, tie_eq2, tie_f1, tie_ms,  ti_f1, ti_ms, ti_sz, ti_zero, ti_zeroB, ti_fld, ti_ek, ti_int, ti_isb, ti_eq2, binA, binI, intOp, funOf_v, cloOf_v, calIds, appEff, frE, foldB, foldS, castL_self, K.enc, K.dec, K.zero, K.es, K.bytes, AV.part, AV.setPart, AV.cells, AV.agg, AV.nth, Bool.false_eq_true, callEff, pubs, pub, nilAV, MM.upd, MM.set, argS, gdst, opIds, lids, AV.ids, List.getD_cons_succ, List.getD_cons_zero, List.map, List.tail, List.headD, List.nil_append, List.append_nil, List.cons_append, List.length_nil, List.length_cons, List.zip_cons_cons, List.zip_nil_right, List.set_cons_zero, List.set_cons_succ, List.replicate, Option.isSome_some, Option.map_some, Bool.not_true, Bool.not_false, forall_const, false_implies, Nat.reduceAdd, Nat.reduceEqDiff, Nat.reduceLT, Nat.reduceSub, Nat.reduceMul, Nat.reduceLeDiff, ↓reduceIte, and_true, true_and, and_self, false_and, and_false, reduceCtorEq, env12, ctOf, ctLeast]) | (with_reducible refine run_cond (by with_unfolding_all exact rfl) ?_ ?_ <;> intro hc <;> (try simp only [vb, decide_eq_true_eq, decide_eq_false_iff_not, beq_iff_eq, beq_eq_false_iff_ne, bne_iff_ne, bne_eq_false_iff_eq, Bool.not_eq_true', Bool.not_eq_false', reduceCtorEq] at hc) <;> (try (first | simp (disch := omega) only [wrap64, wrapu64, wrapu32, sh32, fdiv32, Int.tdiv_eq_ediv_of_nonneg, Int.tmod_eq_emod_of_nonneg, tn_add, tn_add1, Int.toNat_natCast, Int.toNat_zero, List.drop_zero] at hc | simp only [wrapu64m, wrapu32m] at hc))) | ((with_reducible refine compat_ok ?_); kernel_rfl) | with_reducible apply And.intro | (first | simp (disch := omega) only [wrap64, wrapu64, wrapu32, sh32, fdiv32, Int.tdiv_eq_ediv_of_nonneg, Int.tmod_eq_emod_of_nonneg, tn_add, tn_add1, Int.toNat_natCast, Int.toNat_zero, List.drop_zero] | simp only [wrapu64m, wrapu32m]) | (with_reducible intro hg; (try simp only [vb, decide_eq_true_eq, decide_eq_false_iff_not, beq_iff_eq, beq_eq_false_iff_ne, bne_iff_ne, bne_eq_false_iff_eq, Bool.not_eq_true', Bool.not_eq_false', reduceCtorEq] at hg); (try (first | simp (disch := omega) only [wrap64, wrapu64, wrapu32, sh32, fdiv32, Int.tdiv_eq_ediv_of_nonneg, Int.tmod_eq_emod_of_nonneg, tn_add, tn_add1, Int.toNat_natCast, Int.toNat_zero, List.drop_zero] at hg | simp only [wrapu64m, wrapu32m] at hg))))
  all_goals try omega
  simp only [finR, resAs, resA, resLe, lsLe, lkS, lkM, pubs, pub, tie_sz, ti_sz, tie_ek, ti_ek,  nilAV, MM.upd, MM.set, AV.part, AV.cells, AV.agg, List.tail, List.headD, Nat.reduceAdd, Nat.reduceEqDiff, Nat.reduceLT, ↓reduceIte, and_true, true_and, and_self, reduceCtorEq]
  refine AVle_qq ?_ (by omega) (fun _ => rfl)
  rw [of_val, val0]
def env13 : Env := fun g => match g with | 59 => some ctCmpQ | 101 => some ctCanQ | 58 => some ctSignQ | 102 => some ctDoes | 62 => some ctSubQ | 100 => some ctFromI | 98 => some ctCmpZ | _ => none
theorem env13_ok : EnvOk Tryz.prog env13 := by
  intro g ct h
  simp only [env13] at h
  split at h <;> first | (cases h; exact ok59) | (cases h; exact ok101) | (cases h; exact ok58) | (cases h; exact ok102) | (cases h; exact ok62) | (cases h; exact ok100) | (cases h; exact ok98) | cases h
def ctEqQ : Ct := ctQ2i (fun x y => vb (decide (x = y)))
theorem cmpQ_zero {x y : Rat} : cmpQ x y = 0 ↔ x = y := by unfold cmpQ; split <;> (try split) <;> simp_all
theorem cmpQ_le {x y : Rat} : cmpQ x y ≤ 0 ↔ x ≤ y := by unfold cmpQ; split <;> (try split) <;> first | grind | (simp; grind)
theorem cmpQ_gt {x y : Rat} : cmpQ x y > 0 ↔ y < x := by unfold cmpQ; split <;> (try split) <;> first | grind | (simp; grind)
theorem cmpQ_lt {x y : Rat} : cmpQ x y < 0 ↔ x < y := by unfold cmpQ; split <;> (try split) <;> first | grind | (simp; grind)
theorem cmpQ_ge {x y : Rat} : cmpQ x y ≥ 0 ↔ y ≤ x := by unfold cmpQ; split <;> (try split) <;> first | grind | (simp; grind)
theorem sgnQ_zero {x : Rat} : sgnQ x = 0 ↔ x = 0 := by unfold sgnQ; split <;> (try split) <;> simp_all
theorem sgnQ_neg {x : Rat} : sgnQ x < 0 ↔ x < 0 := by unfold sgnQ; split <;> (try split) <;> first | grind | (simp; grind)
theorem sgnQ_ge {x : Rat} : sgnQ x ≥ 0 ↔ 0 ≤ x := by unfold sgnQ; split <;> (try split) <;> first | grind | (simp; grind)
theorem sgnQ_pos {x : Rat} : sgnQ x > 0 ↔ 0 < x := by unfold sgnQ; split <;> (try split) <;> first | grind | (simp; grind)
def ctMinQ : Ct := fun l => match l with
  | [a, b] => match qA a, qA b with
    | some (x, s), some (y, t) => some (s ≤ 4294967296 ∧ t ≤ 4294967296, .q (if x ≤ y then x else y) true (max s t + 4))
    | _, _ => none
  | _ => none
theorem ok61 : Sound Tryz.prog 61 ctMinQ := by
  refine sound_of (fn := Tryz.f61) rfl rfl rfl tiOk env13_ok mix ?_ (by intro l p r h; unfold ctMinQ at h; split at h <;> first | cases h | (split at h <;> cases h; exact Nat.le_of_ble_eq_true rfl))
  intro l p r h hp F vs hv
  unfold ctMinQ at h
  split at h
  rotate_left
  · cases h
  split at h <;> cases h
  rename_i az bz _ _ x s y t ha hb
  obtain ⟨v0, r0, rfl, a0, v1, r1, rfl, a1, hv⟩ := hv
  replace a0 := qA_q ha a0
  replace a1 := qA_q hb a1
  refine ⟨[_, _], ⟨_, _, rfl, a0, _, _, rfl, a1, hv⟩, ?_⟩
  show Run Tryz.prog ti env13 13 (finR ti [.cell 4 27] _) _ _ _
  repeat' (first | with_reducible refine run_seq ?_ | with_reducible refine run_block ?_ | with_reducible refine step_code ?_ | with_reducible refine step_blk ?_ | with_reducible refine run_skip ?_ | with_reducible refine run_exit ?_ | with_reducible refine exits_code ?_ | with_reducible refine exits_here ?_ | with_reducible refine exits_blk rfl ?_ | with_reducible refine exits_lp ?_ | with_reducible refine run_ret ?_ | ((first | with_reducible refine run_region ?_ | with_reducible refine run_draw (by kernel_rfl) ?_); simp only [↓guardP_tt, ↓guardP_tf, ↓guardP_ft, ↓guardP_ff, guardP_t, guardP_f, evalQ, evalR, effQ, effR, skipS, opEff, evO, plainV, lkS, lkM, updL, putS, tie_sz, tie_zero, tie_zeroB, tie_fld, tie_ek, tie_int, tie_isb, tie_eq2, tie_f1, tie_ms,  ti_f1, ti_ms, ti_sz, ti_zero, ti_zeroB, ti_fld, ti_ek, ti_int, ti_isb, ti_eq2, binA, binI, intOp, funOf_v, cloOf_v, calIds, appEff, frE, foldB, foldS, castL_self, K.enc, K.dec, K.zero, K.es, K.bytes, AV.part, AV.setPart, AV.cells, AV.agg, AV.nth, Bool.false_eq_true, callEff, pubs, pub, nilAV, MM.upd, MM.set, argS, gdst, opIds, lids, AV.ids, List.getD_cons_succ, List.getD_cons_zero, List.map, List.tail, List.headD, List.nil_append, List.append_nil, List.cons_append, List.length_nil, List.length_cons, List.zip_cons_cons, List.zip_nil_right, List.set_cons_zero, List.set_cons_succ, List.replicate, Option.isSome_some, Option.map_some, Bool.not_true, Bool.not_false, forall_const, false_implies, Nat.reduceAdd, Nat.reduceEqDiff, Nat.reduceLT, Nat.reduceSub, Nat.reduceMul, Nat.reduceLeDiff, ↓reduceIte, and_true, true_and, and_self, false_and, and_false, reduceCtorEq, env13, ctCmpQ, ctQ2i, ctCanQ, ctSignQ, ctDoes, ctSubQ, ctQ2, qA, ctFromI, kOf_div]) | (with_reducible refine run_cond (by with_unfolding_all exact rfl) ?_ ?_ <;> intro hc <;> (try simp only [vb, decide_eq_true_eq, decide_eq_false_iff_not, beq_iff_eq, beq_eq_false_iff_ne, bne_iff_ne, bne_eq_false_iff_eq, Bool.not_eq_true', Bool.not_eq_false', reduceCtorEq] at hc) <;> (try (first | simp (disch := omega) only [wrap64, wrapu64, wrapu32, sh32, fdiv32, Int.tdiv_eq_ediv_of_nonneg, Int.tmod_eq_emod_of_nonneg, tn_add, tn_add1, Int.toNat_natCast, Int.toNat_zero, List.drop_zero] at hc | simp only [wrapu64m, wrapu32m] at hc))) | ((with_reducible refine compat_ok ?_); kernel_rfl) | with_reducible apply And.intro | (first | simp (disch := omega) only [wrap64, wrapu64, wrapu32, sh32, fdiv32, Int.tdiv_eq_ediv_of_nonneg, Int.tmod_eq_emod_of_nonneg, tn_add, tn_add1, Int.toNat_natCast, Int.toNat_zero, List.drop_zero] | simp only [wrapu64m, wrapu32m]) | (with_reducible intro hg; (try simp only [vb, decide_eq_true_eq, decide_eq_false_iff_not, beq_iff_eq, beq_eq_false_iff_ne, bne_iff_ne, bne_eq_false_iff_eq, Bool.not_eq_true', Bool.not_eq_false', reduceCtorEq] at hg); (try (first | simp (disch := omega) only [wrap64, wrapu64, wrapu32, sh32, fdiv32, Int.tdiv_eq_ediv_of_nonneg, Int.tmod_eq_emod_of_nonneg, tn_add, tn_add1, Int.toNat_natCast, Int.toNat_zero, List.drop_zero] at hg | simp only [wrapu64m, wrapu32m] at hg))))
  all_goals try omega
  · have h := cmpQ_le.1 hc
    simp only [finR, resAs, resA, resLe, lsLe, lkS, lkM, pubs, pub, tie_sz, ti_sz, tie_ek, ti_ek,  nilAV, MM.upd, MM.set, AV.part, AV.cells, AV.agg, List.tail, List.headD, Nat.reduceAdd, Nat.reduceEqDiff, Nat.reduceLT, ↓reduceIte, and_true, true_and, and_self, reduceCtorEq]
    exact AVle_qq (by rw [if_pos h]) (by omega) (fun _ => rfl)
  · have h : ¬ x ≤ y := fun h => hc (cmpQ_le.2 h)
    simp only [finR, resAs, resA, resLe, lsLe, lkS, lkM, pubs, pub, tie_sz, ti_sz, tie_ek, ti_ek,  nilAV, MM.upd, MM.set, AV.part, AV.cells, AV.agg, List.tail, List.headD, Nat.reduceAdd, Nat.reduceEqDiff, Nat.reduceLT, ↓reduceIte, and_true, true_and, and_self, reduceCtorEq]
    exact AVle_qq (by rw [if_neg h]) (by omega) (fun _ => rfl)
def ctMaxQ : Ct := fun l => match l with
  | [a, b] => match qA a, qA b with
    | some (x, s), some (y, t) => some (s ≤ 4294967296 ∧ t ≤ 4294967296, .q (if y < x then x else y) true (max s t + 4))
    | _, _ => none
  | _ => none
theorem qval_zero : qval 0 0 = 0 := by simp [qval]
def ctDivQ : Ct := fun l => match l with
  | [a, b] => match qA a, qA b with
    | some (x, s), some (y, t) => some (s ≤ 4294967296 ∧ t ≤ 4294967296, .tup (.tc (.q (x / y) true (s + t + 8)) (.tc (vi (if y = 0 then 7 else 0)) .tn)))
    | _, _ => none
  | _ => none
def ctNewQ : Ct := fun l => match l with
  | [.v (.int .i64 n), .v (.int .i64 d)] => some (-9223372036854775808 ≤ n ∧ n < 9223372036854775808 ∧ -9223372036854775808 ≤ d ∧ d < 9223372036854775808, .tup (.tc (.q ((n : Rat) / (d : Rat)) true 6) (.tc (vi (if d = 0 then 7 else 0)) .tn)))
  | _ => none
def ctNegQ : Ct := fun l => match l with
  | [a] => match qA a with
    | some (x, s) => some (s ≤ 4294967296, .q (- x) true (s + 8))
    | none => none
  | _ => none
def ctAbsQ : Ct := fun l => match l with
  | [a] => match qA a with
    | some (x, s) => some (s ≤ 16777216, .q (if x < 0 then -x else x) true (s + 12))
    | none => none
  | _ => none
theorem sgn_self : sgn 0 = 0 := rfl
def ctIsCanQ : Ct := fun l => match l with
  | [.q x true s] => some (s ≤ 16777216, vb true)
  | _ => none
end Go.AE

/- Contracts: package step, the checks. -/
namespace Go.AE
open Go.Proofs Go.RowKit
set_option linter.unusedVariables false
set_option linter.unusedSimpArgs false
set_option maxRecDepth 20000

def ctUp : Ct := fun l => match l with
  | [.v (.int .i64 a), .v (.int .i64 p)] => some (True, vb (decide (p > a)))
  | _ => none
theorem ok103 : Sound Tryz.prog 103 ctUp := by
  refine sound_of (fn := Tryz.f103) rfl rfl rfl tiOk env0_ok mix ?_ (by intro l p r h; unfold ctUp at h; split at h <;> cases h <;> exact Nat.le_of_ble_eq_true rfl)
  intro l p r h hp F vs hv
  unfold ctUp at h
  split at h <;> cases h
  obtain ⟨v0, rest0, rfl, a0, hv⟩ := hv
  obtain ⟨v1, rest1, rfl, a1, hv⟩ := hv
  refine ⟨[_, _], ⟨_, _, rfl, a0, _, _, rfl, a1, hv⟩, ?_⟩
  show Run Tryz.prog ti env0 8 (finR ti [.tmp 4] _) _ _ _
  repeat' (first | with_reducible refine run_seq ?_ | with_reducible refine run_block ?_ | with_reducible refine step_code ?_ | with_reducible refine step_blk ?_ | with_reducible refine run_skip ?_ | with_reducible refine run_exit ?_ | with_reducible refine exits_code ?_ | with_reducible refine exits_here ?_ | with_reducible refine exits_blk rfl ?_ | with_reducible refine exits_lp ?_ | with_reducible refine run_ret ?_ | ((first | with_reducible refine run_region ?_ | with_reducible refine run_draw (by kernel_rfl) ?_); simp only [↓guardP_tt, ↓guardP_tf, ↓guardP_ft, ↓guardP_ff, guardP_t, guardP_f, evalQ, evalR, effQ, effR, skipS, opEff, evO, plainV, lkS, lkM, updL, putS, tie_sz, tie_zero, tie_zeroB, tie_fld, tie_ek, tie_int, tie_isb, tie_eq2, tie_f1, tie_ms,  ti_f1, ti_ms, ti_sz, ti_zero, ti_zeroB, ti_fld, ti_ek, ti_int, ti_isb, ti_eq2, binA, binI, intOp, funOf_v, cloOf_v, calIds, appEff, frE, foldB, foldS, castL_self, K.enc, K.dec, K.zero, K.es, K.bytes, AV.part, AV.setPart, AV.cells, AV.agg, AV.nth, Bool.false_eq_true, callEff, pubs, pub, nilAV, MM.upd, MM.set, argS, gdst, opIds, lids, AV.ids, List.getD_cons_succ, List.getD_cons_zero, List.map, List.tail, List.headD, List.nil_append, List.append_nil, List.cons_append, List.length_nil, List.length_cons, List.zip_cons_cons, List.zip_nil_right, List.set_cons_zero, List.set_cons_succ, List.replicate, Option.isSome_some, Option.map_some, Bool.not_true, Bool.not_false, forall_const, false_implies, Nat.reduceAdd, Nat.reduceEqDiff, Nat.reduceLT, Nat.reduceSub, Nat.reduceMul, Nat.reduceLeDiff, ↓reduceIte, and_true, true_and, and_self, false_and, and_false, reduceCtorEq, env0]) | (with_reducible refine run_cond (by with_unfolding_all exact rfl) ?_ ?_ <;> intro hc <;> (try simp only [vb, decide_eq_true_eq, decide_eq_false_iff_not, beq_iff_eq, beq_eq_false_iff_ne, bne_iff_ne, bne_eq_false_iff_eq, Bool.not_eq_true', Bool.not_eq_false', reduceCtorEq] at hc) <;> (try (first | simp (disch := omega) only [wrap64, wrapu64, wrapu32, sh32, fdiv32, Int.tdiv_eq_ediv_of_nonneg, Int.tmod_eq_emod_of_nonneg, tn_add, tn_add1, Int.toNat_natCast, Int.toNat_zero, List.drop_zero] at hc | simp only [wrapu64m, wrapu32m] at hc))) | ((with_reducible refine compat_ok ?_); kernel_rfl) | with_reducible apply And.intro | (first | simp (disch := omega) only [wrap64, wrapu64, wrapu32, sh32, fdiv32, Int.tdiv_eq_ediv_of_nonneg, Int.tmod_eq_emod_of_nonneg, tn_add, tn_add1, Int.toNat_natCast, Int.toNat_zero, List.drop_zero] | simp only [wrapu64m, wrapu32m]) | (with_reducible intro hg; (try simp only [vb, decide_eq_true_eq, decide_eq_false_iff_not, beq_iff_eq, beq_eq_false_iff_ne, bne_iff_ne, bne_eq_false_iff_eq, Bool.not_eq_true', Bool.not_eq_false', reduceCtorEq] at hg); (try (first | simp (disch := omega) only [wrap64, wrapu64, wrapu32, sh32, fdiv32, Int.tdiv_eq_ediv_of_nonneg, Int.tmod_eq_emod_of_nonneg, tn_add, tn_add1, Int.toNat_natCast, Int.toNat_zero, List.drop_zero] at hg | simp only [wrapu64m, wrapu32m] at hg))))
  simp only [finR, resAs, resA, resLe, lsLe, lkS, lkM, pubs, pub, tie_sz, ti_sz, tie_ek, ti_ek,  nilAV, MM.upd, MM.set, AV.part, AV.cells, AV.agg, List.tail, List.headD, Nat.reduceAdd, Nat.reduceEqDiff, Nat.reduceLT, ↓reduceIte, and_true, true_and, and_self, reduceCtorEq]
  exact AVle.rfl
def ctDown : Ct := fun l => match l with
  | [.v (.int .i64 a), .v (.int .i64 p)] => some (True, vb (decide (p < a)))
  | _ => none
theorem ok104 : Sound Tryz.prog 104 ctDown := by
  refine sound_of (fn := Tryz.f104) rfl rfl rfl tiOk env0_ok mix ?_ (by intro l p r h; unfold ctDown at h; split at h <;> cases h <;> exact Nat.le_of_ble_eq_true rfl)
  intro l p r h hp F vs hv
  unfold ctDown at h
  split at h <;> cases h
  obtain ⟨v0, rest0, rfl, a0, hv⟩ := hv
  obtain ⟨v1, rest1, rfl, a1, hv⟩ := hv
  refine ⟨[_, _], ⟨_, _, rfl, a0, _, _, rfl, a1, hv⟩, ?_⟩
  show Run Tryz.prog ti env0 8 (finR ti [.tmp 4] _) _ _ _
  repeat' (first | with_reducible refine run_seq ?_ | with_reducible refine run_block ?_ | with_reducible refine step_code ?_ | with_reducible refine step_blk ?_ | with_reducible refine run_skip ?_ | with_reducible refine run_exit ?_ | with_reducible refine exits_code ?_ | with_reducible refine exits_here ?_ | with_reducible refine exits_blk rfl ?_ | with_reducible refine exits_lp ?_ | with_reducible refine run_ret ?_ | ((first | with_reducible refine run_region ?_ | with_reducible refine run_draw (by kernel_rfl) ?_); simp only [↓guardP_tt, ↓guardP_tf, ↓guardP_ft, ↓guardP_ff, guardP_t, guardP_f, evalQ, evalR, effQ, effR, skipS, opEff, evO, plainV, lkS, lkM, updL, putS, tie_sz, tie_zero, tie_zeroB, tie_fld, tie_ek, tie_int, tie_isb, tie_eq2, tie_f1, tie_ms,  ti_f1, ti_ms, ti_sz, ti_zero, ti_zeroB, ti_fld, ti_ek, ti_int, ti_isb, ti_eq2, binA, binI, intOp, funOf_v, cloOf_v, calIds, appEff, frE, foldB, foldS, castL_self, K.enc, K.dec, K.zero, K.es, K.bytes, AV.part, AV.setPart, AV.cells, AV.agg, AV.nth, Bool.false_eq_true, callEff, pubs, pub, nilAV, MM.upd, MM.set, argS, gdst, opIds, lids, AV.ids, List.getD_cons_succ, List.getD_cons_zero, List.map, List.tail, List.headD, List.nil_append, List.append_nil, List.cons_append, List.length_nil, List.length_cons, List.zip_cons_cons, List.zip_nil_right, List.set_cons_zero, List.set_cons_succ, List.replicate, Option.isSome_some, Option.map_some, Bool.not_true, Bool.not_false, forall_const, false_implies, Nat.reduceAdd, Nat.reduceEqDiff, Nat.reduceLT, Nat.reduceSub, Nat.reduceMul, Nat.reduceLeDiff, ↓reduceIte, and_true, true_and, and_self, false_and, and_false, reduceCtorEq, env0]) | (with_reducible refine run_cond (by with_unfolding_all exact rfl) ?_ ?_ <;> intro hc <;> (try simp only [vb, decide_eq_true_eq, decide_eq_false_iff_not, beq_iff_eq, beq_eq_false_iff_ne, bne_iff_ne, bne_eq_false_iff_eq, Bool.not_eq_true', Bool.not_eq_false', reduceCtorEq] at hc) <;> (try (first | simp (disch := omega) only [wrap64, wrapu64, wrapu32, sh32, fdiv32, Int.tdiv_eq_ediv_of_nonneg, Int.tmod_eq_emod_of_nonneg, tn_add, tn_add1, Int.toNat_natCast, Int.toNat_zero, List.drop_zero] at hc | simp only [wrapu64m, wrapu32m] at hc))) | ((with_reducible refine compat_ok ?_); kernel_rfl) | with_reducible apply And.intro | (first | simp (disch := omega) only [wrap64, wrapu64, wrapu32, sh32, fdiv32, Int.tdiv_eq_ediv_of_nonneg, Int.tmod_eq_emod_of_nonneg, tn_add, tn_add1, Int.toNat_natCast, Int.toNat_zero, List.drop_zero] | simp only [wrapu64m, wrapu32m]) | (with_reducible intro hg; (try simp only [vb, decide_eq_true_eq, decide_eq_false_iff_not, beq_iff_eq, beq_eq_false_iff_ne, bne_iff_ne, bne_eq_false_iff_eq, Bool.not_eq_true', Bool.not_eq_false', reduceCtorEq] at hg); (try (first | simp (disch := omega) only [wrap64, wrapu64, wrapu32, sh32, fdiv32, Int.tdiv_eq_ediv_of_nonneg, Int.tmod_eq_emod_of_nonneg, tn_add, tn_add1, Int.toNat_natCast, Int.toNat_zero, List.drop_zero] at hg | simp only [wrapu64m, wrapu32m] at hg))))
  simp only [finR, resAs, resA, resLe, lsLe, lkS, lkM, pubs, pub, tie_sz, ti_sz, tie_ek, ti_ek,  nilAV, MM.upd, MM.set, AV.part, AV.cells, AV.agg, List.tail, List.headD, Nat.reduceAdd, Nat.reduceEqDiff, Nat.reduceLT, ↓reduceIte, and_true, true_and, and_self, reduceCtorEq]
  exact AVle.rfl
abbrev Stp := Int × Int
def badS (s : Stp) : Prop := s.1 < 1 ∨ s.1 > 1000000 ∨ s.2 < -1000000 ∨ s.2 > 1000000
instance (s : Stp) : Decidable (badS s) := by unfold badS; infer_instance
/-- The steps from here on, checked: the price ahead, if there is one. -/
def wrongF (after : Int → Int → Bool) : Option Int → List Stp → Int
  | _, [] => 0
  | none, s :: r => if badS s then 1 else wrongF after (some s.2) r
  | some p, s :: r => if badS s then 1 else if after p s.2 = true then wrongF after (some s.2) r else 3
def checkK (after : Int → Int → Bool) (l : List Stp) : Int := if l.length = 0 then 4 else if l.length > 3 then 5 else wrongF after none l
def prevS (l : List Stp) (i : Nat) : Option Int := if i = 0 then none else some (l.getD (i - 1) (0, 0)).2
theorem wrongF_step (after : Int → Int → Bool) (l : List Stp) {i : Nat} (h : i < l.length) : wrongF after (prevS l i) (l.drop i) =
    if badS (l.getD i (0, 0)) then 1 else if 0 < i ∧ after (l.getD (i - 1) (0, 0)).2 (l.getD i (0, 0)).2 = false then 3 else wrongF after (prevS l (i + 1)) (l.drop (i + 1)) := by
  have e : l.drop i = l.getD i (0, 0) :: l.drop (i + 1) := by
    rw [List.drop_eq_getElem_cons h]; simp [List.getD_eq_getElem?_getD, List.getElem?_eq_getElem h]
  rw [e]
  have e2 : prevS l (i + 1) = some (l.getD i (0, 0)).2 := by simp [prevS]
  rw [e2]
  unfold prevS
  by_cases h0 : i = 0
  · subst h0; simp [wrongF]
  · rw [if_neg h0]
    simp only [wrongF]
    by_cases hb : badS (l.getD i (0, 0))
    · rw [if_pos hb, if_pos hb]
    · rw [if_neg hb, if_neg hb]
      cases ha : after (l.getD (i - 1) (0, 0)).2 (l.getD i (0, 0)).2
      · rw [if_neg (by simp), if_pos ⟨by omega, rfl⟩]
      · rw [if_pos rfl, if_neg (by simp)]
def env15 : Env := fun g => match g with | 103 => some ctUp | 104 => some ctDown | _ => none
theorem env15_ok : EnvOk Tryz.prog env15 := by
  intro g ct h
  simp only [env15] at h
  split at h <;> first | (cases h; exact ok103) | (cases h; exact ok104) | cases h
def ctWrong : Ct := fun l => match l with
  | [.one (.func (.func g) ⟨[]⟩ ⟨[]⟩), .lst .stp l] => if g = 103 then some (l.length ≤ 1099511627776, vi (checkK (fun a p => decide (p > a)) l)) else if g = 104 then some (l.length ≤ 1099511627776, vi (checkK (fun a p => decide (p < a)) l)) else none
  | _ => none
theorem ok69 : Sound Tryz.prog 69 ctWrong := by
  refine sound_of (fn := Tryz.f69) rfl rfl rfl tiOk env15_ok mix ?_ (by intro l p r h; unfold ctWrong at h; split at h <;> first | cases h | (split at h <;> first | (cases h; exact Nat.le_of_ble_eq_true rfl) | (split at h <;> cases h; exact Nat.le_of_ble_eq_true rfl)))
  intro l p r h hp F vs hv
  unfold ctWrong at h
  split at h
  rotate_left
  · cases h
  rename_i g l
  refine ⟨_, hv, ?_⟩
  by_cases hg : g = 103
  · subst hg
    rw [if_pos rfl] at h
    cases h
    show Run Tryz.prog ti env15 59 (finR ti [.tmp 4] _) _ _ _
    repeat' (first | with_reducible refine run_seq ?_ | with_reducible refine run_block ?_ | with_reducible refine step_code ?_ | with_reducible refine step_blk ?_ | with_reducible refine run_skip ?_ | with_reducible refine run_exit ?_ | with_reducible refine exits_code ?_ | with_reducible refine exits_here ?_ | with_reducible refine exits_blk rfl ?_ | with_reducible refine exits_lp ?_ | with_reducible refine run_ret ?_ | ((first | with_reducible refine run_region ?_ | with_reducible refine run_draw (by kernel_rfl) ?_); simp only [↓guardP_tt, ↓guardP_tf, ↓guardP_ft, ↓guardP_ff, guardP_t, guardP_f, evalQ, evalR, effQ, effR, skipS, opEff, evO, plainV, lkS, lkM, updL, putS, tie_sz, tie_zero, tie_zeroB, tie_fld, tie_ek, tie_int, tie_isb, tie_eq2, tie_f1, tie_ms,  ti_f1, ti_ms, ti_sz, ti_zero, ti_zeroB, ti_fld, ti_ek, ti_int, ti_isb, ti_eq2, binA, binI, intOp, funOf_v, cloOf_v, calIds, appEff, frE, foldB, foldS, castL_self, K.enc, K.dec, K.zero, K.es, K.bytes, AV.part, AV.setPart, AV.cells, AV.agg, AV.nth, Bool.false_eq_true, callEff, pubs, pub, nilAV, MM.upd, MM.set, argS, gdst, opIds, lids, AV.ids, List.getD_cons_succ, List.getD_cons_zero, List.map, List.tail, List.headD, List.nil_append, List.append_nil, List.cons_append, List.length_nil, List.length_cons, List.zip_cons_cons, List.zip_nil_right, List.set_cons_zero, List.set_cons_succ, List.replicate, Option.isSome_some, Option.map_some, Bool.not_true, Bool.not_false, forall_const, false_implies, Nat.reduceAdd, Nat.reduceEqDiff, Nat.reduceLT, Nat.reduceSub, Nat.reduceMul, Nat.reduceLeDiff, ↓reduceIte, and_true, true_and, and_self, false_and, and_false, reduceCtorEq, env15, ctUp]) | (with_reducible refine run_cond (by with_unfolding_all exact rfl) ?_ ?_ <;> intro hc <;> (try simp only [vb, decide_eq_true_eq, decide_eq_false_iff_not, beq_iff_eq, beq_eq_false_iff_ne, bne_iff_ne, bne_eq_false_iff_eq, Bool.not_eq_true', Bool.not_eq_false', reduceCtorEq] at hc) <;> (try (first | simp (disch := omega) only [wrap64, wrapu64, wrapu32, sh32, fdiv32, Int.tdiv_eq_ediv_of_nonneg, Int.tmod_eq_emod_of_nonneg, tn_add, tn_add1, Int.toNat_natCast, Int.toNat_zero, List.drop_zero] at hc | simp only [wrapu64m, wrapu32m] at hc))) | ((with_reducible refine compat_ok ?_); kernel_rfl) | with_reducible apply And.intro | (first | simp (disch := omega) only [wrap64, wrapu64, wrapu32, sh32, fdiv32, Int.tdiv_eq_ediv_of_nonneg, Int.tmod_eq_emod_of_nonneg, tn_add, tn_add1, Int.toNat_natCast, Int.toNat_zero, List.drop_zero] | simp only [wrapu64m, wrapu32m]) | (with_reducible intro hg; (try simp only [vb, decide_eq_true_eq, decide_eq_false_iff_not, beq_iff_eq, beq_eq_false_iff_ne, bne_iff_ne, bne_eq_false_iff_eq, Bool.not_eq_true', Bool.not_eq_false', reduceCtorEq] at hg); (try (first | simp (disch := omega) only [wrap64, wrapu64, wrapu32, sh32, fdiv32, Int.tdiv_eq_ediv_of_nonneg, Int.tmod_eq_emod_of_nonneg, tn_add, tn_add1, Int.toNat_natCast, Int.toNat_zero, List.drop_zero] at hg | simp only [wrapu64m, wrapu32m] at hg))))
    all_goals try omega
    · simp only [finR, resAs, resA, resLe, lsLe, lkS, lkM, pubs, pub, tie_sz, ti_sz, tie_ek, ti_ek,  nilAV, MM.upd, MM.set, AV.part, AV.cells, AV.agg, List.tail, List.headD, Nat.reduceAdd, Nat.reduceEqDiff, Nat.reduceLT, ↓reduceIte, and_true, true_and, and_self, reduceCtorEq]
      refine AVle_int ?_
      rw [checkK, if_pos (by omega)]
    · simp only [finR, resAs, resA, resLe, lsLe, lkS, lkM, pubs, pub, tie_sz, ti_sz, tie_ek, ti_ek,  nilAV, MM.upd, MM.set, AV.part, AV.cells, AV.agg, List.tail, List.headD, Nat.reduceAdd, Nat.reduceEqDiff, Nat.reduceLT, ↓reduceIte, and_true, true_and, and_self, reduceCtorEq]
      refine AVle_int ?_
      rw [checkK, if_neg (by omega), if_pos (by omega)]
    refine run_loop (ι := Nat) (fun i => ⟨[(17, vi i), (16, vi l.length), (15, .lst .stp l), (1, .lst .stp l), (2, .ptr 0 0)], [(0, some (.box 79 (.one (.func (.func 103) ⟨[]⟩ ⟨[]⟩))))], 1⟩)
      (fun i => i ≤ l.length ∧ checkK (fun a p => decide (p > a)) l = wrongF (fun a p => decide (p > a)) (prevS l i) (l.drop i)) (fun i => l.length - i) 0 ⟨Nat.zero_le _, by rw [checkK, if_neg (by omega), if_neg (by omega)]; rfl⟩ ?_ ?_
    · (refine AS.le_of ?_ ?_ <;> simp only [slLe, memLe, entLe, lkS, lkM, Nat.reduceEqDiff, Nat.reduceLT, or_true, true_or, reduceCtorEq, ↓reduceIte, and_true, true_and] <;> (repeat' with_reducible apply And.intro) <;> (try (first | ((with_reducible refine AV.le_refl ?_); rfl) | with_reducible exact AV.le_junk | with_reducible exact AV.le_nil | ((with_reducible refine AV.le_int ?_); omega) | (with_reducible refine AV.le_int ?_) | (with_reducible refine AV.le_bool ?_) | ((with_reducible refine AV.le_lst ?_); try rfl) | (with_reducible refine AV.le_q ?_ ?_ ?_) | exact fun _ _ h => h | (with_reducible refine RC_qle ?_ ?_ ?_))))
    rintro i ⟨hi, hck⟩
    have hstep := fun h => wrongF_step (fun a p => decide (p > a)) l (i := i) h
    have ei : ((i : Int) - 1).toNat = i - 1 := by omega
    repeat' (first | with_reducible refine run_seq ?_ | with_reducible refine run_block ?_ | with_reducible refine step_code ?_ | with_reducible refine step_blk ?_ | with_reducible refine run_skip ?_ | with_reducible refine run_exit ?_ | with_reducible refine exits_code ?_ | with_reducible refine exits_here ?_ | with_reducible refine exits_blk rfl ?_ | with_reducible refine exits_lp ?_ | with_reducible refine run_ret ?_ | ((first | with_reducible refine run_region ?_ | with_reducible refine run_draw (by kernel_rfl) ?_); simp only [↓guardP_tt, ↓guardP_tf, ↓guardP_ft, ↓guardP_ff, guardP_t, guardP_f, evalQ, evalR, effQ, effR, skipS, opEff, evO, plainV, lkS, lkM, updL, putS, tie_sz, tie_zero, tie_zeroB, tie_fld, tie_ek, tie_int, tie_isb, tie_eq2, tie_f1, tie_ms,  ti_f1, ti_ms, ti_sz, ti_zero, ti_zeroB, ti_fld, ti_ek, ti_int, ti_isb, ti_eq2, binA, binI, intOp, funOf_v, cloOf_v, calIds, appEff, frE, foldB, foldS, castL_self, K.enc, K.dec, K.zero, K.es, K.bytes, AV.part, AV.setPart, AV.cells, AV.agg, AV.nth, Bool.false_eq_true, callEff, pubs, pub, nilAV, MM.upd, MM.set, argS, gdst, opIds, lids, AV.ids, List.getD_cons_succ, List.getD_cons_zero, List.map, List.tail, List.headD, List.nil_append, List.append_nil, List.cons_append, List.length_nil, List.length_cons, List.zip_cons_cons, List.zip_nil_right, List.set_cons_zero, List.set_cons_succ, List.replicate, Option.isSome_some, Option.map_some, Bool.not_true, Bool.not_false, forall_const, false_implies, Nat.reduceAdd, Nat.reduceEqDiff, Nat.reduceLT, Nat.reduceSub, Nat.reduceMul, Nat.reduceLeDiff, ↓reduceIte, and_true, true_and, and_self, false_and, and_false, reduceCtorEq, env15, ctUp]) | (with_reducible refine run_cond (by with_unfolding_all exact rfl) ?_ ?_ <;> intro hc <;> (try simp only [vb, decide_eq_true_eq, decide_eq_false_iff_not, beq_iff_eq, beq_eq_false_iff_ne, bne_iff_ne, bne_eq_false_iff_eq, Bool.not_eq_true', Bool.not_eq_false', reduceCtorEq] at hc) <;> (try (first | simp (disch := omega) only [wrap64, wrapu64, wrapu32, sh32, fdiv32, Int.tdiv_eq_ediv_of_nonneg, Int.tmod_eq_emod_of_nonneg, tn_add, tn_add1, Int.toNat_natCast, Int.toNat_zero, List.drop_zero] at hc | simp only [wrapu64m, wrapu32m] at hc))) | ((with_reducible refine compat_ok ?_); kernel_rfl) | with_reducible apply And.intro | (first | simp (disch := omega) only [wrap64, wrapu64, wrapu32, sh32, fdiv32, Int.tdiv_eq_ediv_of_nonneg, Int.tmod_eq_emod_of_nonneg, tn_add, tn_add1, Int.toNat_natCast, Int.toNat_zero, List.drop_zero] | simp only [wrapu64m, wrapu32m]) | (with_reducible intro hg; (try simp only [vb, decide_eq_true_eq, decide_eq_false_iff_not, beq_iff_eq, beq_eq_false_iff_ne, bne_iff_ne, bne_eq_false_iff_eq, Bool.not_eq_true', Bool.not_eq_false', reduceCtorEq] at hg); (try (first | simp (disch := omega) only [wrap64, wrapu64, wrapu32, sh32, fdiv32, Int.tdiv_eq_ediv_of_nonneg, Int.tmod_eq_emod_of_nonneg, tn_add, tn_add1, Int.toNat_natCast, Int.toNat_zero, List.drop_zero] at hg | simp only [wrapu64m, wrapu32m] at hg))))
    all_goals try omega
    all_goals first
      | (have hlt : i < l.length := by omega
         have hs := hstep hlt
         first
           | (rw [if_pos (by unfold badS; omega)] at hs
              simp only [finR, resAs, resA, resLe, lsLe, lkS, lkM, pubs, pub, tie_sz, ti_sz, tie_ek, ti_ek,  nilAV, MM.upd, MM.set, AV.part, AV.cells, AV.agg, List.tail, List.headD, Nat.reduceAdd, Nat.reduceEqDiff, Nat.reduceLT, ↓reduceIte, and_true, true_and, and_self, reduceCtorEq]
              exact AVle_int (by rw [hck, hs]))
           | (rw [if_neg (by unfold badS; omega)] at hs
              first
                | (rw [if_pos ⟨by omega, by rw [ei] at hc; exact decide_eq_false hc⟩] at hs
                   simp only [finR, resAs, resA, resLe, lsLe, lkS, lkM, pubs, pub, tie_sz, ti_sz, tie_ek, ti_ek,  nilAV, MM.upd, MM.set, AV.part, AV.cells, AV.agg, List.tail, List.headD, Nat.reduceAdd, Nat.reduceEqDiff, Nat.reduceLT, ↓reduceIte, and_true, true_and, and_self, reduceCtorEq]
                   exact AVle_int (by rw [hck, hs]))
                | (rw [if_neg (by rintro ⟨h1, h2⟩; first | omega | (rw [ei] at hc; exact of_decide_eq_false h2 hc))] at hs
                   refine step_lp ⟨i + 1, ⟨by omega, by rw [hck, hs]⟩, by omega, ?_⟩
                   (refine AS.le_of ?_ ?_ <;> simp only [slLe, memLe, entLe, lkS, lkM, Nat.reduceEqDiff, Nat.reduceLT, or_true, true_or, reduceCtorEq, ↓reduceIte, and_true, true_and] <;> (repeat' with_reducible apply And.intro) <;> (try (first | ((with_reducible refine AV.le_refl ?_); rfl) | with_reducible exact AV.le_junk | with_reducible exact AV.le_nil | ((with_reducible refine AV.le_int ?_); omega) | (with_reducible refine AV.le_int ?_) | (with_reducible refine AV.le_bool ?_) | ((with_reducible refine AV.le_lst ?_); try rfl) | (with_reducible refine AV.le_q ?_ ?_ ?_) | exact fun _ _ h => h | (with_reducible refine RC_qle ?_ ?_ ?_)))))))
      | (simp only [finR, resAs, resA, resLe, lsLe, lkS, lkM, pubs, pub, tie_sz, ti_sz, tie_ek, ti_ek,  nilAV, MM.upd, MM.set, AV.part, AV.cells, AV.agg, List.tail, List.headD, Nat.reduceAdd, Nat.reduceEqDiff, Nat.reduceLT, ↓reduceIte, and_true, true_and, and_self, reduceCtorEq]
         rw [List.drop_eq_nil_of_le (by omega)] at hck
         refine AVle_int ?_
         rw [hck]
         cases prevS l i <;> rfl)
  · rw [if_neg hg] at h
    by_cases hg : g = 104
    rotate_left
    · rw [if_neg hg] at h; cases h
    subst hg
    rw [if_pos rfl] at h
    cases h
    show Run Tryz.prog ti env15 59 (finR ti [.tmp 4] _) _ _ _
    repeat' (first | with_reducible refine run_seq ?_ | with_reducible refine run_block ?_ | with_reducible refine step_code ?_ | with_reducible refine step_blk ?_ | with_reducible refine run_skip ?_ | with_reducible refine run_exit ?_ | with_reducible refine exits_code ?_ | with_reducible refine exits_here ?_ | with_reducible refine exits_blk rfl ?_ | with_reducible refine exits_lp ?_ | with_reducible refine run_ret ?_ | ((first | with_reducible refine run_region ?_ | with_reducible refine run_draw (by kernel_rfl) ?_); simp only [↓guardP_tt, ↓guardP_tf, ↓guardP_ft, ↓guardP_ff, guardP_t, guardP_f, evalQ, evalR, effQ, effR, skipS, opEff, evO, plainV, lkS, lkM, updL, putS, tie_sz, tie_zero, tie_zeroB, tie_fld, tie_ek, tie_int, tie_isb, tie_eq2, tie_f1, tie_ms,  ti_f1, ti_ms, ti_sz, ti_zero, ti_zeroB, ti_fld, ti_ek, ti_int, ti_isb, ti_eq2, binA, binI, intOp, funOf_v, cloOf_v, calIds, appEff, frE, foldB, foldS, castL_self, K.enc, K.dec, K.zero, K.es, K.bytes, AV.part, AV.setPart, AV.cells, AV.agg, AV.nth, Bool.false_eq_true, callEff, pubs, pub, nilAV, MM.upd, MM.set, argS, gdst, opIds, lids, AV.ids, List.getD_cons_succ, List.getD_cons_zero, List.map, List.tail, List.headD, List.nil_append, List.append_nil, List.cons_append, List.length_nil, List.length_cons, List.zip_cons_cons, List.zip_nil_right, List.set_cons_zero, List.set_cons_succ, List.replicate, Option.isSome_some, Option.map_some, Bool.not_true, Bool.not_false, forall_const, false_implies, Nat.reduceAdd, Nat.reduceEqDiff, Nat.reduceLT, Nat.reduceSub, Nat.reduceMul, Nat.reduceLeDiff, ↓reduceIte, and_true, true_and, and_self, false_and, and_false, reduceCtorEq, env15, ctDown]) | (with_reducible refine run_cond (by with_unfolding_all exact rfl) ?_ ?_ <;> intro hc <;> (try simp only [vb, decide_eq_true_eq, decide_eq_false_iff_not, beq_iff_eq, beq_eq_false_iff_ne, bne_iff_ne, bne_eq_false_iff_eq, Bool.not_eq_true', Bool.not_eq_false', reduceCtorEq] at hc) <;> (try (first | simp (disch := omega) only [wrap64, wrapu64, wrapu32, sh32, fdiv32, Int.tdiv_eq_ediv_of_nonneg, Int.tmod_eq_emod_of_nonneg, tn_add, tn_add1, Int.toNat_natCast, Int.toNat_zero, List.drop_zero] at hc | simp only [wrapu64m, wrapu32m] at hc))) | ((with_reducible refine compat_ok ?_); kernel_rfl) | with_reducible apply And.intro | (first | simp (disch := omega) only [wrap64, wrapu64, wrapu32, sh32, fdiv32, Int.tdiv_eq_ediv_of_nonneg, Int.tmod_eq_emod_of_nonneg, tn_add, tn_add1, Int.toNat_natCast, Int.toNat_zero, List.drop_zero] | simp only [wrapu64m, wrapu32m]) | (with_reducible intro hg; (try simp only [vb, decide_eq_true_eq, decide_eq_false_iff_not, beq_iff_eq, beq_eq_false_iff_ne, bne_iff_ne, bne_eq_false_iff_eq, Bool.not_eq_true', Bool.not_eq_false', reduceCtorEq] at hg); (try (first | simp (disch := omega) only [wrap64, wrapu64, wrapu32, sh32, fdiv32, Int.tdiv_eq_ediv_of_nonneg, Int.tmod_eq_emod_of_nonneg, tn_add, tn_add1, Int.toNat_natCast, Int.toNat_zero, List.drop_zero] at hg | simp only [wrapu64m, wrapu32m] at hg))))
    all_goals try omega
    · simp only [finR, resAs, resA, resLe, lsLe, lkS, lkM, pubs, pub, tie_sz, ti_sz, tie_ek, ti_ek,  nilAV, MM.upd, MM.set, AV.part, AV.cells, AV.agg, List.tail, List.headD, Nat.reduceAdd, Nat.reduceEqDiff, Nat.reduceLT, ↓reduceIte, and_true, true_and, and_self, reduceCtorEq]
      refine AVle_int ?_
      rw [checkK, if_pos (by omega)]
    · simp only [finR, resAs, resA, resLe, lsLe, lkS, lkM, pubs, pub, tie_sz, ti_sz, tie_ek, ti_ek,  nilAV, MM.upd, MM.set, AV.part, AV.cells, AV.agg, List.tail, List.headD, Nat.reduceAdd, Nat.reduceEqDiff, Nat.reduceLT, ↓reduceIte, and_true, true_and, and_self, reduceCtorEq]
      refine AVle_int ?_
      rw [checkK, if_neg (by omega), if_pos (by omega)]
    refine run_loop (ι := Nat) (fun i => ⟨[(17, vi i), (16, vi l.length), (15, .lst .stp l), (1, .lst .stp l), (2, .ptr 0 0)], [(0, some (.box 79 (.one (.func (.func 104) ⟨[]⟩ ⟨[]⟩))))], 1⟩)
      (fun i => i ≤ l.length ∧ checkK (fun a p => decide (p < a)) l = wrongF (fun a p => decide (p < a)) (prevS l i) (l.drop i)) (fun i => l.length - i) 0 ⟨Nat.zero_le _, by rw [checkK, if_neg (by omega), if_neg (by omega)]; rfl⟩ ?_ ?_
    · (refine AS.le_of ?_ ?_ <;> simp only [slLe, memLe, entLe, lkS, lkM, Nat.reduceEqDiff, Nat.reduceLT, or_true, true_or, reduceCtorEq, ↓reduceIte, and_true, true_and] <;> (repeat' with_reducible apply And.intro) <;> (try (first | ((with_reducible refine AV.le_refl ?_); rfl) | with_reducible exact AV.le_junk | with_reducible exact AV.le_nil | ((with_reducible refine AV.le_int ?_); omega) | (with_reducible refine AV.le_int ?_) | (with_reducible refine AV.le_bool ?_) | ((with_reducible refine AV.le_lst ?_); try rfl) | (with_reducible refine AV.le_q ?_ ?_ ?_) | exact fun _ _ h => h | (with_reducible refine RC_qle ?_ ?_ ?_))))
    rintro i ⟨hi, hck⟩
    have hstep := fun h => wrongF_step (fun a p => decide (p < a)) l (i := i) h
    have ei : ((i : Int) - 1).toNat = i - 1 := by omega
    repeat' (first | with_reducible refine run_seq ?_ | with_reducible refine run_block ?_ | with_reducible refine step_code ?_ | with_reducible refine step_blk ?_ | with_reducible refine run_skip ?_ | with_reducible refine run_exit ?_ | with_reducible refine exits_code ?_ | with_reducible refine exits_here ?_ | with_reducible refine exits_blk rfl ?_ | with_reducible refine exits_lp ?_ | with_reducible refine run_ret ?_ | ((first | with_reducible refine run_region ?_ | with_reducible refine run_draw (by kernel_rfl) ?_); simp only [↓guardP_tt, ↓guardP_tf, ↓guardP_ft, ↓guardP_ff, guardP_t, guardP_f, evalQ, evalR, effQ, effR, skipS, opEff, evO, plainV, lkS, lkM, updL, putS, tie_sz, tie_zero, tie_zeroB, tie_fld, tie_ek, tie_int, tie_isb, tie_eq2, tie_f1, tie_ms,  ti_f1, ti_ms, ti_sz, ti_zero, ti_zeroB, ti_fld, ti_ek, ti_int, ti_isb, ti_eq2, binA, binI, intOp, funOf_v, cloOf_v, calIds, appEff, frE, foldB, foldS, castL_self, K.enc, K.dec, K.zero, K.es, K.bytes, AV.part, AV.setPart, AV.cells, AV.agg, AV.nth, Bool.false_eq_true, callEff, pubs, pub, nilAV, MM.upd, MM.set, argS, gdst, opIds, lids, AV.ids, List.getD_cons_succ, List.getD_cons_zero, List.map, List.tail, List.headD, List.nil_append, List.append_nil, List.cons_append, List.length_nil, List.length_cons, List.zip_cons_cons, List.zip_nil_right, List.set_cons_zero, List.set_cons_succ, List.replicate, Option.isSome_some, Option.map_some, Bool.not_true, Bool.not_false, forall_const, false_implies, Nat.reduceAdd, Nat.reduceEqDiff, Nat.reduceLT, Nat.reduceSub, Nat.reduceMul, Nat.reduceLeDiff, ↓reduceIte, and_true, true_and, and_self, false_and, and_false, reduceCtorEq, env15, ctDown]) | (with_reducible refine run_cond (by with_unfolding_all exact rfl) ?_ ?_ <;> intro hc <;> (try simp only [vb, decide_eq_true_eq, decide_eq_false_iff_not, beq_iff_eq, beq_eq_false_iff_ne, bne_iff_ne, bne_eq_false_iff_eq, Bool.not_eq_true', Bool.not_eq_false', reduceCtorEq] at hc) <;> (try (first | simp (disch := omega) only [wrap64, wrapu64, wrapu32, sh32, fdiv32, Int.tdiv_eq_ediv_of_nonneg, Int.tmod_eq_emod_of_nonneg, tn_add, tn_add1, Int.toNat_natCast, Int.toNat_zero, List.drop_zero] at hc | simp only [wrapu64m, wrapu32m] at hc))) | ((with_reducible refine compat_ok ?_); kernel_rfl) | with_reducible apply And.intro | (first | simp (disch := omega) only [wrap64, wrapu64, wrapu32, sh32, fdiv32, Int.tdiv_eq_ediv_of_nonneg, Int.tmod_eq_emod_of_nonneg, tn_add, tn_add1, Int.toNat_natCast, Int.toNat_zero, List.drop_zero] | simp only [wrapu64m, wrapu32m]) | (with_reducible intro hg; (try simp only [vb, decide_eq_true_eq, decide_eq_false_iff_not, beq_iff_eq, beq_eq_false_iff_ne, bne_iff_ne, bne_eq_false_iff_eq, Bool.not_eq_true', Bool.not_eq_false', reduceCtorEq] at hg); (try (first | simp (disch := omega) only [wrap64, wrapu64, wrapu32, sh32, fdiv32, Int.tdiv_eq_ediv_of_nonneg, Int.tmod_eq_emod_of_nonneg, tn_add, tn_add1, Int.toNat_natCast, Int.toNat_zero, List.drop_zero] at hg | simp only [wrapu64m, wrapu32m] at hg))))
    all_goals try omega
    all_goals first
      | (have hlt : i < l.length := by omega
         have hs := hstep hlt
         first
           | (rw [if_pos (by unfold badS; omega)] at hs
              simp only [finR, resAs, resA, resLe, lsLe, lkS, lkM, pubs, pub, tie_sz, ti_sz, tie_ek, ti_ek,  nilAV, MM.upd, MM.set, AV.part, AV.cells, AV.agg, List.tail, List.headD, Nat.reduceAdd, Nat.reduceEqDiff, Nat.reduceLT, ↓reduceIte, and_true, true_and, and_self, reduceCtorEq]
              exact AVle_int (by rw [hck, hs]))
           | (rw [if_neg (by unfold badS; omega)] at hs
              first
                | (rw [if_pos ⟨by omega, by rw [ei] at hc; exact decide_eq_false hc⟩] at hs
                   simp only [finR, resAs, resA, resLe, lsLe, lkS, lkM, pubs, pub, tie_sz, ti_sz, tie_ek, ti_ek,  nilAV, MM.upd, MM.set, AV.part, AV.cells, AV.agg, List.tail, List.headD, Nat.reduceAdd, Nat.reduceEqDiff, Nat.reduceLT, ↓reduceIte, and_true, true_and, and_self, reduceCtorEq]
                   exact AVle_int (by rw [hck, hs]))
                | (rw [if_neg (by rintro ⟨h1, h2⟩; first | omega | (rw [ei] at hc; exact of_decide_eq_false h2 hc))] at hs
                   refine step_lp ⟨i + 1, ⟨by omega, by rw [hck, hs]⟩, by omega, ?_⟩
                   (refine AS.le_of ?_ ?_ <;> simp only [slLe, memLe, entLe, lkS, lkM, Nat.reduceEqDiff, Nat.reduceLT, or_true, true_or, reduceCtorEq, ↓reduceIte, and_true, true_and] <;> (repeat' with_reducible apply And.intro) <;> (try (first | ((with_reducible refine AV.le_refl ?_); rfl) | with_reducible exact AV.le_junk | with_reducible exact AV.le_nil | ((with_reducible refine AV.le_int ?_); omega) | (with_reducible refine AV.le_int ?_) | (with_reducible refine AV.le_bool ?_) | ((with_reducible refine AV.le_lst ?_); try rfl) | (with_reducible refine AV.le_q ?_ ?_ ?_) | exact fun _ _ h => h | (with_reducible refine RC_qle ?_ ?_ ?_)))))))
      | (simp only [finR, resAs, resA, resLe, lsLe, lkS, lkM, pubs, pub, tie_sz, ti_sz, tie_ek, ti_ek,  nilAV, MM.upd, MM.set, AV.part, AV.cells, AV.agg, List.tail, List.headD, Nat.reduceAdd, Nat.reduceEqDiff, Nat.reduceLT, ↓reduceIte, and_true, true_and, and_self, reduceCtorEq]
         rw [List.drop_eq_nil_of_le (by omega)] at hck
         refine AVle_int ?_
         rw [hck]
         cases prevS l i <;> rfl)

def ctRising : Ct := ctRise 103
def ctFalling : Ct := ctRise 104
def env16 : Env := fun g => match g with | 69 => some ctWrong | 68 => some ctRising | 72 => some ctFalling | _ => none
theorem env16_ok : EnvOk Tryz.prog env16 := by
  intro g ct h
  simp only [env16] at h
  split at h <;> first | (cases h; exact ok69) | (cases h; exact ok68) | (cases h; exact ok72) | cases h
def offK (l : List Stp) : Int := checkK (fun a p => decide (p > a)) l
def bidK (l : List Stp) : Int := checkK (fun a p => decide (p < a)) l
def ctOffer : Ct := fun l => match l with
  | [.lst .stp l] => some (l.length ≤ 1099511627776, vi (offK l))
  | _ => none
theorem ok22 : Sound Tryz.prog 22 ctOffer := by
  refine sound_of (fn := Tryz.f22) rfl rfl rfl tiOk env16_ok mix ?_ (by intro l p r h; unfold ctOffer at h; split at h <;> cases h <;> exact Nat.le_of_ble_eq_true rfl)
  intro l p r h hp F vs hv
  unfold ctOffer at h
  split at h <;> cases h
  obtain ⟨v0, rest0, rfl, a0, hv⟩ := hv
  refine ⟨[_], ⟨_, _, rfl, a0, hv⟩, ?_⟩
  show Run Tryz.prog ti env16 6 (finR ti [.tmp 2] _) _ _ _
  repeat' (first | with_reducible refine run_seq ?_ | with_reducible refine run_block ?_ | with_reducible refine step_code ?_ | with_reducible refine step_blk ?_ | with_reducible refine run_skip ?_ | with_reducible refine run_exit ?_ | with_reducible refine exits_code ?_ | with_reducible refine exits_here ?_ | with_reducible refine exits_blk rfl ?_ | with_reducible refine exits_lp ?_ | with_reducible refine run_ret ?_ | ((first | with_reducible refine run_region ?_ | with_reducible refine run_draw (by kernel_rfl) ?_); simp only [↓guardP_tt, ↓guardP_tf, ↓guardP_ft, ↓guardP_ff, guardP_t, guardP_f, evalQ, evalR, effQ, effR, skipS, opEff, evO, plainV, lkS, lkM, updL, putS, tie_sz, tie_zero, tie_zeroB, tie_fld, tie_ek, tie_int, tie_isb, tie_eq2, tie_f1, tie_ms,  ti_f1, ti_ms, ti_sz, ti_zero, ti_zeroB, ti_fld, ti_ek, ti_int, ti_isb, ti_eq2, binA, binI, intOp, funOf_v, cloOf_v, calIds, appEff, frE, foldB, foldS, castL_self, K.enc, K.dec, K.zero, K.es, K.bytes, AV.part, AV.setPart, AV.cells, AV.agg, AV.nth, Bool.false_eq_true, callEff, pubs, pub, nilAV, MM.upd, MM.set, argS, gdst, opIds, lids, AV.ids, List.getD_cons_succ, List.getD_cons_zero, List.map, List.tail, List.headD, List.nil_append, List.append_nil, List.cons_append, List.length_nil, List.length_cons, List.zip_cons_cons, List.zip_nil_right, List.set_cons_zero, List.set_cons_succ, List.replicate, Option.isSome_some, Option.map_some, Bool.not_true, Bool.not_false, forall_const, false_implies, Nat.reduceAdd, Nat.reduceEqDiff, Nat.reduceLT, Nat.reduceSub, Nat.reduceMul, Nat.reduceLeDiff, ↓reduceIte, and_true, true_and, and_self, false_and, and_false, reduceCtorEq, env16, ctWrong, ctRising, ctRise]) | (with_reducible refine run_cond (by with_unfolding_all exact rfl) ?_ ?_ <;> intro hc <;> (try simp only [vb, decide_eq_true_eq, decide_eq_false_iff_not, beq_iff_eq, beq_eq_false_iff_ne, bne_iff_ne, bne_eq_false_iff_eq, Bool.not_eq_true', Bool.not_eq_false', reduceCtorEq] at hc) <;> (try (first | simp (disch := omega) only [wrap64, wrapu64, wrapu32, sh32, fdiv32, Int.tdiv_eq_ediv_of_nonneg, Int.tmod_eq_emod_of_nonneg, tn_add, tn_add1, Int.toNat_natCast, Int.toNat_zero, List.drop_zero] at hc | simp only [wrapu64m, wrapu32m] at hc))) | ((with_reducible refine compat_ok ?_); kernel_rfl) | with_reducible apply And.intro | (first | simp (disch := omega) only [wrap64, wrapu64, wrapu32, sh32, fdiv32, Int.tdiv_eq_ediv_of_nonneg, Int.tmod_eq_emod_of_nonneg, tn_add, tn_add1, Int.toNat_natCast, Int.toNat_zero, List.drop_zero] | simp only [wrapu64m, wrapu32m]) | (with_reducible intro hg; (try simp only [vb, decide_eq_true_eq, decide_eq_false_iff_not, beq_iff_eq, beq_eq_false_iff_ne, bne_iff_ne, bne_eq_false_iff_eq, Bool.not_eq_true', Bool.not_eq_false', reduceCtorEq] at hg); (try (first | simp (disch := omega) only [wrap64, wrapu64, wrapu32, sh32, fdiv32, Int.tdiv_eq_ediv_of_nonneg, Int.tmod_eq_emod_of_nonneg, tn_add, tn_add1, Int.toNat_natCast, Int.toNat_zero, List.drop_zero] at hg | simp only [wrapu64m, wrapu32m] at hg))))
  all_goals try omega
  simp only [finR, resAs, resA, resLe, lsLe, lkS, lkM, pubs, pub, tie_sz, ti_sz, tie_ek, ti_ek,  nilAV, MM.upd, MM.set, AV.part, AV.cells, AV.agg, List.tail, List.headD, Nat.reduceAdd, Nat.reduceEqDiff, Nat.reduceLT, ↓reduceIte, and_true, true_and, and_self, reduceCtorEq]
  exact AVle.rfl
def ctBid : Ct := fun l => match l with
  | [.lst .stp l] => some (l.length ≤ 1099511627776, vi (bidK l))
  | _ => none
theorem ok24 : Sound Tryz.prog 24 ctBid := by
  refine sound_of (fn := Tryz.f24) rfl rfl rfl tiOk env16_ok mix ?_ (by intro l p r h; unfold ctBid at h; split at h <;> cases h <;> exact Nat.le_of_ble_eq_true rfl)
  intro l p r h hp F vs hv
  unfold ctBid at h
  split at h <;> cases h
  obtain ⟨v0, rest0, rfl, a0, hv⟩ := hv
  refine ⟨[_], ⟨_, _, rfl, a0, hv⟩, ?_⟩
  show Run Tryz.prog ti env16 6 (finR ti [.tmp 2] _) _ _ _
  repeat' (first | with_reducible refine run_seq ?_ | with_reducible refine run_block ?_ | with_reducible refine step_code ?_ | with_reducible refine step_blk ?_ | with_reducible refine run_skip ?_ | with_reducible refine run_exit ?_ | with_reducible refine exits_code ?_ | with_reducible refine exits_here ?_ | with_reducible refine exits_blk rfl ?_ | with_reducible refine exits_lp ?_ | with_reducible refine run_ret ?_ | ((first | with_reducible refine run_region ?_ | with_reducible refine run_draw (by kernel_rfl) ?_); simp only [↓guardP_tt, ↓guardP_tf, ↓guardP_ft, ↓guardP_ff, guardP_t, guardP_f, evalQ, evalR, effQ, effR, skipS, opEff, evO, plainV, lkS, lkM, updL, putS, tie_sz, tie_zero, tie_zeroB, tie_fld, tie_ek, tie_int, tie_isb, tie_eq2, tie_f1, tie_ms,  ti_f1, ti_ms, ti_sz, ti_zero, ti_zeroB, ti_fld, ti_ek, ti_int, ti_isb, ti_eq2, binA, binI, intOp, funOf_v, cloOf_v, calIds, appEff, frE, foldB, foldS, castL_self, K.enc, K.dec, K.zero, K.es, K.bytes, AV.part, AV.setPart, AV.cells, AV.agg, AV.nth, Bool.false_eq_true, callEff, pubs, pub, nilAV, MM.upd, MM.set, argS, gdst, opIds, lids, AV.ids, List.getD_cons_succ, List.getD_cons_zero, List.map, List.tail, List.headD, List.nil_append, List.append_nil, List.cons_append, List.length_nil, List.length_cons, List.zip_cons_cons, List.zip_nil_right, List.set_cons_zero, List.set_cons_succ, List.replicate, Option.isSome_some, Option.map_some, Bool.not_true, Bool.not_false, forall_const, false_implies, Nat.reduceAdd, Nat.reduceEqDiff, Nat.reduceLT, Nat.reduceSub, Nat.reduceMul, Nat.reduceLeDiff, ↓reduceIte, and_true, true_and, and_self, false_and, and_false, reduceCtorEq, env16, ctWrong, ctFalling, ctRise]) | (with_reducible refine run_cond (by with_unfolding_all exact rfl) ?_ ?_ <;> intro hc <;> (try simp only [vb, decide_eq_true_eq, decide_eq_false_iff_not, beq_iff_eq, beq_eq_false_iff_ne, bne_iff_ne, bne_eq_false_iff_eq, Bool.not_eq_true', Bool.not_eq_false', reduceCtorEq] at hc) <;> (try (first | simp (disch := omega) only [wrap64, wrapu64, wrapu32, sh32, fdiv32, Int.tdiv_eq_ediv_of_nonneg, Int.tmod_eq_emod_of_nonneg, tn_add, tn_add1, Int.toNat_natCast, Int.toNat_zero, List.drop_zero] at hc | simp only [wrapu64m, wrapu32m] at hc))) | ((with_reducible refine compat_ok ?_); kernel_rfl) | with_reducible apply And.intro | (first | simp (disch := omega) only [wrap64, wrapu64, wrapu32, sh32, fdiv32, Int.tdiv_eq_ediv_of_nonneg, Int.tmod_eq_emod_of_nonneg, tn_add, tn_add1, Int.toNat_natCast, Int.toNat_zero, List.drop_zero] | simp only [wrapu64m, wrapu32m]) | (with_reducible intro hg; (try simp only [vb, decide_eq_true_eq, decide_eq_false_iff_not, beq_iff_eq, beq_eq_false_iff_ne, bne_iff_ne, bne_eq_false_iff_eq, Bool.not_eq_true', Bool.not_eq_false', reduceCtorEq] at hg); (try (first | simp (disch := omega) only [wrap64, wrapu64, wrapu32, sh32, fdiv32, Int.tdiv_eq_ediv_of_nonneg, Int.tmod_eq_emod_of_nonneg, tn_add, tn_add1, Int.toNat_natCast, Int.toNat_zero, List.drop_zero] at hg | simp only [wrapu64m, wrapu32m] at hg))))
  all_goals try omega
  simp only [finR, resAs, resA, resLe, lsLe, lkS, lkM, pubs, pub, tie_sz, ti_sz, tie_ek, ti_ek,  nilAV, MM.upd, MM.set, AV.part, AV.cells, AV.agg, List.tail, List.headD, Nat.reduceAdd, Nat.reduceEqDiff, Nat.reduceLT, ↓reduceIte, and_true, true_and, and_self, reduceCtorEq]
  exact AVle.rfl
end Go.AE

/- Contracts: package step, curves and sums. -/
namespace Go.AE
open Go.Proofs Go.RowKit
set_option linter.unusedVariables false
set_option linter.unusedSimpArgs false
set_option maxRecDepth 20000

def curveK (l : List Stp) : Int := if bidK l = 0 then 0 else offK l
def sumL (l : List Stp) : Int := (l.map (·.1)).sum
def sumK (l : List Stp) : Int := if curveK l = 0 then sumL l else 0
def okS (l : List Stp) : Prop := ∀ s ∈ l, ¬ badS s
theorem wrongF_ok {after : Int → Int → Bool} {l : List Stp} : ∀ {p : Option Int}, wrongF after p l = 0 → okS l := by
  induction l with
  | nil => intro p _ s hs; cases hs
  | cons a r ih =>
    intro p h
    cases p with
    | none =>
      simp only [wrongF] at h
      split at h
      · cases h
      · rename_i hb
        intro s hs
        rcases List.mem_cons.1 hs with rfl | hs
        · exact hb
        · exact ih h s hs
    | some p =>
      simp only [wrongF] at h
      split at h
      · cases h
      · rename_i hb
        split at h
        · intro s hs
          rcases List.mem_cons.1 hs with rfl | hs
          · exact hb
          · exact ih h s hs
        · cases h
theorem checkK_ok {after : Int → Int → Bool} {l : List Stp} (h : checkK after l = 0) : l.length ≠ 0 ∧ l.length ≤ 3 ∧ okS l ∧ wrongF after none l = 0 := by
  unfold checkK at h
  split at h
  · cases h
  · split at h
    · cases h
    · exact ⟨by assumption, by omega, wrongF_ok h, h⟩
theorem curveK_ok {l : List Stp} (h : curveK l = 0) : l.length ≠ 0 ∧ l.length ≤ 3 ∧ okS l := by
  unfold curveK at h
  split at h
  · rename_i hb; have := checkK_ok hb; exact ⟨this.1, this.2.1, this.2.2.1⟩
  · have := checkK_ok h; exact ⟨this.1, this.2.1, this.2.2.1⟩
theorem okS_get {l : List Stp} (h : okS l) {i : Nat} (hi : i < l.length) : 1 ≤ (l.getD i (0, 0)).1 ∧ (l.getD i (0, 0)).1 ≤ 1000000 ∧ -1000000 ≤ (l.getD i (0, 0)).2 ∧ (l.getD i (0, 0)).2 ≤ 1000000 := by
  have := h (l.getD i (0, 0)) (by rw [List.getD_eq_getElem?_getD, List.getElem?_eq_getElem hi]; exact List.getElem_mem _)
  unfold badS at this; omega
theorem sumL_take {l : List Stp} {i : Nat} (hi : i < l.length) : sumL (l.take (i + 1)) = sumL (l.take i) + (l.getD i (0, 0)).1 := by
  induction l generalizing i with
  | nil => simp at hi
  | cons a r ih =>
    cases i with
    | zero => simp [sumL]
    | succ i =>
      have := ih (i := i) (by simpa using hi)
      simp only [sumL, List.take_succ_cons, List.map_cons, List.sum_cons, List.getD_cons_succ] at this ⊢
      omega
theorem set_fill {α : Type} {m : List α} {z v : α} {i n : Nat} (hn : m.length = n) (hi : i < n) (hv : m[i]? = some v) : (m.take i ++ List.replicate (n - i) z).set i v = m.take (i + 1) ++ List.replicate (n - (i + 1)) z := by
  apply List.ext_getElem?
  intro k
  simp only [List.getElem?_set, List.getElem?_append, List.getElem?_take, List.getElem?_replicate, List.length_append, List.length_take, List.length_replicate, Nat.min_eq_left (show i ≤ m.length by omega), Nat.min_eq_left (show i + 1 ≤ m.length by omega)]
  by_cases h1 : i = k
  · subst h1
    rw [if_pos rfl, if_pos (by omega), if_pos (by omega), if_pos (by omega), hv]
  · rw [if_neg h1]
    by_cases h2 : k < i
    · rw [if_pos h2, if_pos h2, if_pos (show k < i + 1 by omega), if_pos (show k < i + 1 by omega)]
    · rw [if_neg h2, if_neg (show ¬ k < i + 1 by omega)]
      by_cases h3 : k < n
      · rw [if_pos (by omega), if_pos (by omega)]
      · rw [if_neg (by omega), if_neg (by omega)]
theorem sumL_bound {l : List Stp} (h : okS l) : 0 ≤ sumL l ∧ sumL l ≤ 1000000 * l.length := by
  induction l with
  | nil => simp [sumL]
  | cons a r ih =>
    have h1 := h a (by simp)
    have h2 := ih (fun s hs => h s (by simp [hs]))
    unfold badS at h1
    simp only [sumL, List.map_cons, List.sum_cons, List.length_cons] at h2 ⊢
    omega
theorem okS_take {l : List Stp} (h : okS l) (i : Nat) : okS (l.take i) := fun s hs => h s (List.mem_of_mem_take hs)
def env17 : Env := fun g => match g with | 22 => some ctOffer | 24 => some ctBid | _ => none
theorem env17_ok : EnvOk Tryz.prog env17 := by
  intro g ct h
  simp only [env17] at h
  split at h <;> first | (cases h; exact ok22) | (cases h; exact ok24) | cases h
def ctCurve : Ct := fun l => match l with
  | [.lst .stp l] => some (l.length ≤ 1099511627776, vi (curveK l))
  | _ => none
theorem ok57 : Sound Tryz.prog 57 ctCurve := by
  refine sound_of (fn := Tryz.f57) rfl rfl rfl tiOk env17_ok mix ?_ (by intro l p r h; unfold ctCurve at h; split at h <;> cases h <;> exact Nat.le_of_ble_eq_true rfl)
  intro l p r h hp F vs hv
  unfold ctCurve at h
  split at h <;> cases h
  rename_i l
  obtain ⟨v0, rest0, rfl, a0, hv⟩ := hv
  refine ⟨[_], ⟨_, _, rfl, a0, hv⟩, ?_⟩
  show Run Tryz.prog ti env17 8 (finR ti [.tmp 2] _) _ _ _
  repeat' (first | with_reducible refine run_seq ?_ | with_reducible refine run_block ?_ | with_reducible refine step_code ?_ | with_reducible refine step_blk ?_ | with_reducible refine run_skip ?_ | with_reducible refine run_exit ?_ | with_reducible refine exits_code ?_ | with_reducible refine exits_here ?_ | with_reducible refine exits_blk rfl ?_ | with_reducible refine exits_lp ?_ | with_reducible refine run_ret ?_ | ((first | with_reducible refine run_region ?_ | with_reducible refine run_draw (by kernel_rfl) ?_); simp only [↓guardP_tt, ↓guardP_tf, ↓guardP_ft, ↓guardP_ff, guardP_t, guardP_f, evalQ, evalR, effQ, effR, skipS, opEff, evO, plainV, lkS, lkM, updL, putS, tie_sz, tie_zero, tie_zeroB, tie_fld, tie_ek, tie_int, tie_isb, tie_eq2, tie_f1, tie_ms,  ti_f1, ti_ms, ti_sz, ti_zero, ti_zeroB, ti_fld, ti_ek, ti_int, ti_isb, ti_eq2, binA, binI, intOp, funOf_v, cloOf_v, calIds, appEff, frE, foldB, foldS, castL_self, K.enc, K.dec, K.zero, K.es, K.bytes, AV.part, AV.setPart, AV.cells, AV.agg, AV.nth, Bool.false_eq_true, callEff, pubs, pub, nilAV, MM.upd, MM.set, argS, gdst, opIds, lids, AV.ids, List.getD_cons_succ, List.getD_cons_zero, List.map, List.tail, List.headD, List.nil_append, List.append_nil, List.cons_append, List.length_nil, List.length_cons, List.zip_cons_cons, List.zip_nil_right, List.set_cons_zero, List.set_cons_succ, List.replicate, Option.isSome_some, Option.map_some, Bool.not_true, Bool.not_false, forall_const, false_implies, Nat.reduceAdd, Nat.reduceEqDiff, Nat.reduceLT, Nat.reduceSub, Nat.reduceMul, Nat.reduceLeDiff, ↓reduceIte, and_true, true_and, and_self, false_and, and_false, reduceCtorEq, env17, ctOffer, ctBid]) | (with_reducible refine run_cond (by with_unfolding_all exact rfl) ?_ ?_ <;> intro hc <;> (try simp only [vb, decide_eq_true_eq, decide_eq_false_iff_not, beq_iff_eq, beq_eq_false_iff_ne, bne_iff_ne, bne_eq_false_iff_eq, Bool.not_eq_true', Bool.not_eq_false', reduceCtorEq] at hc) <;> (try (first | simp (disch := omega) only [wrap64, wrapu64, wrapu32, sh32, fdiv32, Int.tdiv_eq_ediv_of_nonneg, Int.tmod_eq_emod_of_nonneg, tn_add, tn_add1, Int.toNat_natCast, Int.toNat_zero, List.drop_zero] at hc | simp only [wrapu64m, wrapu32m] at hc))) | ((with_reducible refine compat_ok ?_); kernel_rfl) | with_reducible apply And.intro | (first | simp (disch := omega) only [wrap64, wrapu64, wrapu32, sh32, fdiv32, Int.tdiv_eq_ediv_of_nonneg, Int.tmod_eq_emod_of_nonneg, tn_add, tn_add1, Int.toNat_natCast, Int.toNat_zero, List.drop_zero] | simp only [wrapu64m, wrapu32m]) | (with_reducible intro hg; (try simp only [vb, decide_eq_true_eq, decide_eq_false_iff_not, beq_iff_eq, beq_eq_false_iff_ne, bne_iff_ne, bne_eq_false_iff_eq, Bool.not_eq_true', Bool.not_eq_false', reduceCtorEq] at hg); (try (first | simp (disch := omega) only [wrap64, wrapu64, wrapu32, sh32, fdiv32, Int.tdiv_eq_ediv_of_nonneg, Int.tmod_eq_emod_of_nonneg, tn_add, tn_add1, Int.toNat_natCast, Int.toNat_zero, List.drop_zero] at hg | simp only [wrapu64m, wrapu32m] at hg))))
  all_goals try omega
  · simp only [finR, resAs, resA, resLe, lsLe, lkS, lkM, pubs, pub, tie_sz, ti_sz, tie_ek, ti_ek,  nilAV, MM.upd, MM.set, AV.part, AV.cells, AV.agg, List.tail, List.headD, Nat.reduceAdd, Nat.reduceEqDiff, Nat.reduceLT, ↓reduceIte, and_true, true_and, and_self, reduceCtorEq]
    exact AVle_int (by rw [curveK, if_pos hc])
  · simp only [finR, resAs, resA, resLe, lsLe, lkS, lkM, pubs, pub, tie_sz, ti_sz, tie_ek, ti_ek,  nilAV, MM.upd, MM.set, AV.part, AV.cells, AV.agg, List.tail, List.headD, Nat.reduceAdd, Nat.reduceEqDiff, Nat.reduceLT, ↓reduceIte, and_true, true_and, and_self, reduceCtorEq]
    exact AVle_int (by rw [curveK, if_neg hc])
def env18 : Env := fun g => match g with | 57 => some ctCurve | _ => none
theorem env18_ok : EnvOk Tryz.prog env18 := by
  intro g ct h
  simp only [env18] at h
  split at h <;> first | (cases h; exact ok57) | cases h
def ctSum : Ct := fun l => match l with
  | [.lst .stp l] => some (l.length ≤ 1099511627776, vi (sumK l))
  | _ => none
theorem ok26 : Sound Tryz.prog 26 ctSum := by
  refine sound_of (fn := Tryz.f26) rfl rfl rfl tiOk env18_ok mix ?_ (by intro l p r h; unfold ctSum at h; split at h <;> cases h <;> exact Nat.le_of_ble_eq_true rfl)
  intro l p r h hp F vs hv
  unfold ctSum at h
  split at h <;> cases h
  rename_i l
  obtain ⟨v0, rest0, rfl, a0, hv⟩ := hv
  refine ⟨[_], ⟨_, _, rfl, a0, hv⟩, ?_⟩
  show Run Tryz.prog ti env18 21 (finR ti [.tmp 2] _) _ _ _
  repeat' (first | with_reducible refine run_seq ?_ | with_reducible refine run_block ?_ | with_reducible refine step_code ?_ | with_reducible refine step_blk ?_ | with_reducible refine run_skip ?_ | with_reducible refine run_exit ?_ | with_reducible refine exits_code ?_ | with_reducible refine exits_here ?_ | with_reducible refine exits_blk rfl ?_ | with_reducible refine exits_lp ?_ | with_reducible refine run_ret ?_ | ((first | with_reducible refine run_region ?_ | with_reducible refine run_draw (by kernel_rfl) ?_); simp only [↓guardP_tt, ↓guardP_tf, ↓guardP_ft, ↓guardP_ff, guardP_t, guardP_f, evalQ, evalR, effQ, effR, skipS, opEff, evO, plainV, lkS, lkM, updL, putS, tie_sz, tie_zero, tie_zeroB, tie_fld, tie_ek, tie_int, tie_isb, tie_eq2, tie_f1, tie_ms,  ti_f1, ti_ms, ti_sz, ti_zero, ti_zeroB, ti_fld, ti_ek, ti_int, ti_isb, ti_eq2, binA, binI, intOp, funOf_v, cloOf_v, calIds, appEff, frE, foldB, foldS, castL_self, K.enc, K.dec, K.zero, K.es, K.bytes, AV.part, AV.setPart, AV.cells, AV.agg, AV.nth, Bool.false_eq_true, callEff, pubs, pub, nilAV, MM.upd, MM.set, argS, gdst, opIds, lids, AV.ids, List.getD_cons_succ, List.getD_cons_zero, List.map, List.tail, List.headD, List.nil_append, List.append_nil, List.cons_append, List.length_nil, List.length_cons, List.zip_cons_cons, List.zip_nil_right, List.set_cons_zero, List.set_cons_succ, List.replicate, Option.isSome_some, Option.map_some, Bool.not_true, Bool.not_false, forall_const, false_implies, Nat.reduceAdd, Nat.reduceEqDiff, Nat.reduceLT, Nat.reduceSub, Nat.reduceMul, Nat.reduceLeDiff, ↓reduceIte, and_true, true_and, and_self, false_and, and_false, reduceCtorEq, env18, ctCurve]) | (with_reducible refine run_cond (by with_unfolding_all exact rfl) ?_ ?_ <;> intro hc <;> (try simp only [vb, decide_eq_true_eq, decide_eq_false_iff_not, beq_iff_eq, beq_eq_false_iff_ne, bne_iff_ne, bne_eq_false_iff_eq, Bool.not_eq_true', Bool.not_eq_false', reduceCtorEq] at hc) <;> (try (first | simp (disch := omega) only [wrap64, wrapu64, wrapu32, sh32, fdiv32, Int.tdiv_eq_ediv_of_nonneg, Int.tmod_eq_emod_of_nonneg, tn_add, tn_add1, Int.toNat_natCast, Int.toNat_zero, List.drop_zero] at hc | simp only [wrapu64m, wrapu32m] at hc))) | ((with_reducible refine compat_ok ?_); kernel_rfl) | with_reducible apply And.intro | (first | simp (disch := omega) only [wrap64, wrapu64, wrapu32, sh32, fdiv32, Int.tdiv_eq_ediv_of_nonneg, Int.tmod_eq_emod_of_nonneg, tn_add, tn_add1, Int.toNat_natCast, Int.toNat_zero, List.drop_zero] | simp only [wrapu64m, wrapu32m]) | (with_reducible intro hg; (try simp only [vb, decide_eq_true_eq, decide_eq_false_iff_not, beq_iff_eq, beq_eq_false_iff_ne, bne_iff_ne, bne_eq_false_iff_eq, Bool.not_eq_true', Bool.not_eq_false', reduceCtorEq] at hg); (try (first | simp (disch := omega) only [wrap64, wrapu64, wrapu32, sh32, fdiv32, Int.tdiv_eq_ediv_of_nonneg, Int.tmod_eq_emod_of_nonneg, tn_add, tn_add1, Int.toNat_natCast, Int.toNat_zero, List.drop_zero] at hg | simp only [wrapu64m, wrapu32m] at hg))))
  all_goals try omega
  · simp only [finR, resAs, resA, resLe, lsLe, lkS, lkM, pubs, pub, tie_sz, ti_sz, tie_ek, ti_ek,  nilAV, MM.upd, MM.set, AV.part, AV.cells, AV.agg, List.tail, List.headD, Nat.reduceAdd, Nat.reduceEqDiff, Nat.reduceLT, ↓reduceIte, and_true, true_and, and_self, reduceCtorEq]
    exact AVle_int (by rw [sumK, if_neg hc])
  have hcv : curveK l = 0 := by simpa using hc
  obtain ⟨h0, h3, hok⟩ := curveK_ok hcv
  refine run_loop (ι := Nat) (fun i => ⟨[(11, vi i), (10, vi l.length), (9, .lst .stp l), (3, vi (sumL (l.take i)))], [], 0⟩)
    (fun i => i ≤ l.length) (fun i => l.length - i) 0 (Nat.zero_le _) ?_ ?_
  · (refine AS.le_of ?_ ?_ <;> simp only [slLe, memLe, entLe, lkS, lkM, Nat.reduceEqDiff, Nat.reduceLT, or_true, true_or, reduceCtorEq, ↓reduceIte, and_true, true_and] <;> (repeat' with_reducible apply And.intro) <;> (try (first | ((with_reducible refine AV.le_refl ?_); rfl) | with_reducible exact AV.le_junk | with_reducible exact AV.le_nil | ((with_reducible refine AV.le_int ?_); omega) | (with_reducible refine AV.le_int ?_) | (with_reducible refine AV.le_bool ?_) | ((with_reducible refine AV.le_lst ?_); try rfl) | (with_reducible refine AV.le_q ?_ ?_ ?_) | exact fun _ _ h => h | (with_reducible refine RC_qle ?_ ?_ ?_))))
    rfl
  intro i hi
  have hg := fun h => okS_get (i := i) hok h
  have hb := sumL_bound (okS_take hok i)
  have hl := List.length_take_le i l
  repeat' (first | with_reducible refine run_seq ?_ | with_reducible refine run_block ?_ | with_reducible refine step_code ?_ | with_reducible refine step_blk ?_ | with_reducible refine run_skip ?_ | with_reducible refine run_exit ?_ | with_reducible refine exits_code ?_ | with_reducible refine exits_here ?_ | with_reducible refine exits_blk rfl ?_ | with_reducible refine exits_lp ?_ | with_reducible refine run_ret ?_ | ((first | with_reducible refine run_region ?_ | with_reducible refine run_draw (by kernel_rfl) ?_); simp only [↓guardP_tt, ↓guardP_tf, ↓guardP_ft, ↓guardP_ff, guardP_t, guardP_f, evalQ, evalR, effQ, effR, skipS, opEff, evO, plainV, lkS, lkM, updL, putS, tie_sz, tie_zero, tie_zeroB, tie_fld, tie_ek, tie_int, tie_isb, tie_eq2, tie_f1, tie_ms,  ti_f1, ti_ms, ti_sz, ti_zero, ti_zeroB, ti_fld, ti_ek, ti_int, ti_isb, ti_eq2, binA, binI, intOp, funOf_v, cloOf_v, calIds, appEff, frE, foldB, foldS, castL_self, K.enc, K.dec, K.zero, K.es, K.bytes, AV.part, AV.setPart, AV.cells, AV.agg, AV.nth, Bool.false_eq_true, callEff, pubs, pub, nilAV, MM.upd, MM.set, argS, gdst, opIds, lids, AV.ids, List.getD_cons_succ, List.getD_cons_zero, List.map, List.tail, List.headD, List.nil_append, List.append_nil, List.cons_append, List.length_nil, List.length_cons, List.zip_cons_cons, List.zip_nil_right, List.set_cons_zero, List.set_cons_succ, List.replicate, Option.isSome_some, Option.map_some, Bool.not_true, Bool.not_false, forall_const, false_implies, Nat.reduceAdd, Nat.reduceEqDiff, Nat.reduceLT, Nat.reduceSub, Nat.reduceMul, Nat.reduceLeDiff, ↓reduceIte, and_true, true_and, and_self, false_and, and_false, reduceCtorEq, env18, ctCurve]) | (with_reducible refine run_cond (by with_unfolding_all exact rfl) ?_ ?_ <;> intro hc <;> (try simp only [vb, decide_eq_true_eq, decide_eq_false_iff_not, beq_iff_eq, beq_eq_false_iff_ne, bne_iff_ne, bne_eq_false_iff_eq, Bool.not_eq_true', Bool.not_eq_false', reduceCtorEq] at hc) <;> (try (first | simp (disch := omega) only [wrap64, wrapu64, wrapu32, sh32, fdiv32, Int.tdiv_eq_ediv_of_nonneg, Int.tmod_eq_emod_of_nonneg, tn_add, tn_add1, Int.toNat_natCast, Int.toNat_zero, List.drop_zero] at hc | simp only [wrapu64m, wrapu32m] at hc))) | ((with_reducible refine compat_ok ?_); kernel_rfl) | with_reducible apply And.intro | (first | simp (disch := omega) only [wrap64, wrapu64, wrapu32, sh32, fdiv32, Int.tdiv_eq_ediv_of_nonneg, Int.tmod_eq_emod_of_nonneg, tn_add, tn_add1, Int.toNat_natCast, Int.toNat_zero, List.drop_zero] | simp only [wrapu64m, wrapu32m]) | (with_reducible intro hg; (try simp only [vb, decide_eq_true_eq, decide_eq_false_iff_not, beq_iff_eq, beq_eq_false_iff_ne, bne_iff_ne, bne_eq_false_iff_eq, Bool.not_eq_true', Bool.not_eq_false', reduceCtorEq] at hg); (try (first | simp (disch := omega) only [wrap64, wrapu64, wrapu32, sh32, fdiv32, Int.tdiv_eq_ediv_of_nonneg, Int.tmod_eq_emod_of_nonneg, tn_add, tn_add1, Int.toNat_natCast, Int.toNat_zero, List.drop_zero] at hg | simp only [wrapu64m, wrapu32m] at hg))))
  all_goals try omega
  · refine step_lp ⟨i + 1, by omega, by omega, ?_⟩
    rw [← sumL_take (show i < l.length by omega)]
    (refine AS.le_of ?_ ?_ <;> simp only [slLe, memLe, entLe, lkS, lkM, Nat.reduceEqDiff, Nat.reduceLT, or_true, true_or, reduceCtorEq, ↓reduceIte, and_true, true_and] <;> (repeat' with_reducible apply And.intro) <;> (try (first | ((with_reducible refine AV.le_refl ?_); rfl) | with_reducible exact AV.le_junk | with_reducible exact AV.le_nil | ((with_reducible refine AV.le_int ?_); omega) | (with_reducible refine AV.le_int ?_) | (with_reducible refine AV.le_bool ?_) | ((with_reducible refine AV.le_lst ?_); try rfl) | (with_reducible refine AV.le_q ?_ ?_ ?_) | exact fun _ _ h => h | (with_reducible refine RC_qle ?_ ?_ ?_))))
  · simp only [finR, resAs, resA, resLe, lsLe, lkS, lkM, pubs, pub, tie_sz, ti_sz, tie_ek, ti_ek,  nilAV, MM.upd, MM.set, AV.part, AV.cells, AV.agg, List.tail, List.headD, Nat.reduceAdd, Nat.reduceEqDiff, Nat.reduceLT, ↓reduceIte, and_true, true_and, and_self, reduceCtorEq]
    refine AVle_int ?_
    rw [sumK, if_pos hcv, List.take_of_length_le (by omega)]
def negK (l : List Stp) : List Stp := l.map (fun s => (s.1, IntKind.i64.wrap (-s.2)))
def ctNegate : Ct := fun l => match l with
  | [.lst .stp l] => some (l.length ≤ 1099511627776, .lst .stp (negK l))
  | _ => none
theorem ok28 : Sound Tryz.prog 28 ctNegate := by
  refine sound_of (fn := Tryz.f28) rfl rfl rfl tiOk env0_ok mix ?_ (by intro l p r h; unfold ctNegate at h; split at h <;> cases h <;> exact Nat.le_of_ble_eq_true rfl)
  intro l p r h hp F vs hv
  unfold ctNegate at h
  split at h <;> cases h
  rename_i l
  obtain ⟨v0, rest0, rfl, a0, hv⟩ := hv
  refine ⟨[_], ⟨_, _, rfl, a0, hv⟩, ?_⟩
  show Run Tryz.prog ti env0 27 (finR ti [.tmp 2] _) _ _ _
  repeat' (first | with_reducible refine run_seq ?_ | with_reducible refine run_block ?_ | with_reducible refine step_code ?_ | with_reducible refine step_blk ?_ | with_reducible refine run_skip ?_ | with_reducible refine run_exit ?_ | with_reducible refine exits_code ?_ | with_reducible refine exits_here ?_ | with_reducible refine exits_blk rfl ?_ | with_reducible refine exits_lp ?_ | with_reducible refine run_ret ?_ | ((first | with_reducible refine run_region ?_ | with_reducible refine run_draw (by kernel_rfl) ?_); simp only [↓guardP_tt, ↓guardP_tf, ↓guardP_ft, ↓guardP_ff, guardP_t, guardP_f, evalQ, evalR, effQ, effR, skipS, opEff, evO, plainV, lkS, lkM, updL, putS, tie_sz, tie_zero, tie_zeroB, tie_fld, tie_ek, tie_int, tie_isb, tie_eq2, tie_f1, tie_ms,  ti_f1, ti_ms, ti_sz, ti_zero, ti_zeroB, ti_fld, ti_ek, ti_int, ti_isb, ti_eq2, binA, binI, intOp, funOf_v, cloOf_v, calIds, appEff, frE, foldB, foldS, castL_self, K.enc, K.dec, K.zero, K.es, K.bytes, AV.part, AV.setPart, AV.cells, AV.agg, AV.nth, Bool.false_eq_true, callEff, pubs, pub, nilAV, MM.upd, MM.set, argS, gdst, opIds, lids, AV.ids, List.getD_cons_succ, List.getD_cons_zero, List.map, List.tail, List.headD, List.nil_append, List.append_nil, List.cons_append, List.length_nil, List.length_cons, List.zip_cons_cons, List.zip_nil_right, List.set_cons_zero, List.set_cons_succ, List.replicate, Option.isSome_some, Option.map_some, Bool.not_true, Bool.not_false, forall_const, false_implies, Nat.reduceAdd, Nat.reduceEqDiff, Nat.reduceLT, Nat.reduceSub, Nat.reduceMul, Nat.reduceLeDiff, ↓reduceIte, and_true, true_and, and_self, false_and, and_false, reduceCtorEq, env0]) | (with_reducible refine run_cond (by with_unfolding_all exact rfl) ?_ ?_ <;> intro hc <;> (try simp only [vb, decide_eq_true_eq, decide_eq_false_iff_not, beq_iff_eq, beq_eq_false_iff_ne, bne_iff_ne, bne_eq_false_iff_eq, Bool.not_eq_true', Bool.not_eq_false', reduceCtorEq] at hc) <;> (try (first | simp (disch := omega) only [wrap64, wrapu64, wrapu32, sh32, fdiv32, Int.tdiv_eq_ediv_of_nonneg, Int.tmod_eq_emod_of_nonneg, tn_add, tn_add1, Int.toNat_natCast, Int.toNat_zero, List.drop_zero] at hc | simp only [wrapu64m, wrapu32m] at hc))) | ((with_reducible refine compat_ok ?_); kernel_rfl) | with_reducible apply And.intro | (first | simp (disch := omega) only [wrap64, wrapu64, wrapu32, sh32, fdiv32, Int.tdiv_eq_ediv_of_nonneg, Int.tmod_eq_emod_of_nonneg, tn_add, tn_add1, Int.toNat_natCast, Int.toNat_zero, List.drop_zero] | simp only [wrapu64m, wrapu32m]) | (with_reducible intro hg; (try simp only [vb, decide_eq_true_eq, decide_eq_false_iff_not, beq_iff_eq, beq_eq_false_iff_ne, bne_iff_ne, bne_eq_false_iff_eq, Bool.not_eq_true', Bool.not_eq_false', reduceCtorEq] at hg); (try (first | simp (disch := omega) only [wrap64, wrapu64, wrapu32, sh32, fdiv32, Int.tdiv_eq_ediv_of_nonneg, Int.tmod_eq_emod_of_nonneg, tn_add, tn_add1, Int.toNat_natCast, Int.toNat_zero, List.drop_zero] at hg | simp only [wrapu64m, wrapu32m] at hg))))
  all_goals try omega
  refine run_loop (ι := Nat) (fun i => ⟨[(11, vi i), (10, vi l.length), (9, .lst .stp l), (3, .row 3)], [(3, some (.row 47 .stp ((negK l).take i ++ List.replicate (l.length - i) (0, 0)) false))], 4⟩)
    (fun i => i ≤ l.length) (fun i => l.length - i) 0 (Nat.zero_le _) ?_ ?_
  · simp only [List.take_zero, List.nil_append, Nat.sub_zero]
    (refine AS.le_of ?_ ?_ <;> simp only [slLe, memLe, entLe, lkS, lkM, Nat.reduceEqDiff, Nat.reduceLT, or_true, true_or, reduceCtorEq, ↓reduceIte, and_true, true_and] <;> (repeat' with_reducible apply And.intro) <;> (try (first | ((with_reducible refine AV.le_refl ?_); rfl) | with_reducible exact AV.le_junk | with_reducible exact AV.le_nil | ((with_reducible refine AV.le_int ?_); omega) | (with_reducible refine AV.le_int ?_) | (with_reducible refine AV.le_bool ?_) | ((with_reducible refine AV.le_lst ?_); try rfl) | (with_reducible refine AV.le_q ?_ ?_ ?_) | exact fun _ _ h => h | (with_reducible refine RC_qle ?_ ?_ ?_))))
  intro i hi
  have hlen : ((negK l).take i ++ List.replicate (l.length - i) ((0, 0) : Stp)).length = l.length := by simp [negK]; omega
  repeat' (first | with_reducible refine run_seq ?_ | with_reducible refine run_block ?_ | with_reducible refine step_code ?_ | with_reducible refine step_blk ?_ | with_reducible refine run_skip ?_ | with_reducible refine run_exit ?_ | with_reducible refine exits_code ?_ | with_reducible refine exits_here ?_ | with_reducible refine exits_blk rfl ?_ | with_reducible refine exits_lp ?_ | with_reducible refine run_ret ?_ | ((first | with_reducible refine run_region ?_ | with_reducible refine run_draw (by kernel_rfl) ?_); simp only [↓guardP_tt, ↓guardP_tf, ↓guardP_ft, ↓guardP_ff, guardP_t, guardP_f, evalQ, evalR, effQ, effR, skipS, opEff, evO, plainV, lkS, lkM, updL, putS, tie_sz, tie_zero, tie_zeroB, tie_fld, tie_ek, tie_int, tie_isb, tie_eq2, tie_f1, tie_ms,  ti_f1, ti_ms, ti_sz, ti_zero, ti_zeroB, ti_fld, ti_ek, ti_int, ti_isb, ti_eq2, binA, binI, intOp, funOf_v, cloOf_v, calIds, appEff, frE, foldB, foldS, castL_self, K.enc, K.dec, K.zero, K.es, K.bytes, AV.part, AV.setPart, AV.cells, AV.agg, AV.nth, Bool.false_eq_true, callEff, pubs, pub, nilAV, MM.upd, MM.set, argS, gdst, opIds, lids, AV.ids, List.getD_cons_succ, List.getD_cons_zero, List.map, List.tail, List.headD, List.nil_append, List.append_nil, List.cons_append, List.length_nil, List.length_cons, List.zip_cons_cons, List.zip_nil_right, List.set_cons_zero, List.set_cons_succ, List.replicate, Option.isSome_some, Option.map_some, Bool.not_true, Bool.not_false, forall_const, false_implies, Nat.reduceAdd, Nat.reduceEqDiff, Nat.reduceLT, Nat.reduceSub, Nat.reduceMul, Nat.reduceLeDiff, ↓reduceIte, and_true, true_and, and_self, false_and, and_false, reduceCtorEq, env0]) | (with_reducible refine run_cond (by with_unfolding_all exact rfl) ?_ ?_ <;> intro hc <;> (try simp only [vb, decide_eq_true_eq, decide_eq_false_iff_not, beq_iff_eq, beq_eq_false_iff_ne, bne_iff_ne, bne_eq_false_iff_eq, Bool.not_eq_true', Bool.not_eq_false', reduceCtorEq] at hc) <;> (try (first | simp (disch := omega) only [wrap64, wrapu64, wrapu32, sh32, fdiv32, Int.tdiv_eq_ediv_of_nonneg, Int.tmod_eq_emod_of_nonneg, tn_add, tn_add1, Int.toNat_natCast, Int.toNat_zero, List.drop_zero] at hc | simp only [wrapu64m, wrapu32m] at hc))) | ((with_reducible refine compat_ok ?_); kernel_rfl) | with_reducible apply And.intro | (first | simp (disch := omega) only [wrap64, wrapu64, wrapu32, sh32, fdiv32, Int.tdiv_eq_ediv_of_nonneg, Int.tmod_eq_emod_of_nonneg, tn_add, tn_add1, Int.toNat_natCast, Int.toNat_zero, List.drop_zero] | simp only [wrapu64m, wrapu32m]) | (with_reducible intro hg; (try simp only [vb, decide_eq_true_eq, decide_eq_false_iff_not, beq_iff_eq, beq_eq_false_iff_ne, bne_iff_ne, bne_eq_false_iff_eq, Bool.not_eq_true', Bool.not_eq_false', reduceCtorEq] at hg); (try (first | simp (disch := omega) only [wrap64, wrapu64, wrapu32, sh32, fdiv32, Int.tdiv_eq_ediv_of_nonneg, Int.tmod_eq_emod_of_nonneg, tn_add, tn_add1, Int.toNat_natCast, Int.toNat_zero, List.drop_zero] at hg | simp only [wrapu64m, wrapu32m] at hg))))
  all_goals try omega
  · have hset := set_fill (m := negK l) (z := ((0, 0) : Stp)) (v := ((l.getD i (0, 0)).1, IntKind.i64.wrap (-(l.getD i (0, 0)).2))) (i := i) (n := l.length) (by simp [negK]) (by omega) (by simp [negK, List.getD_eq_getElem?_getD, List.getElem?_eq_getElem (show i < l.length by omega)])
    refine step_lp ⟨i + 1, by omega, by omega, ?_⟩
    rw [← hset]
    (refine AS.le_of ?_ ?_ <;> simp only [slLe, memLe, entLe, lkS, lkM, Nat.reduceEqDiff, Nat.reduceLT, or_true, true_or, reduceCtorEq, ↓reduceIte, and_true, true_and] <;> (repeat' with_reducible apply And.intro) <;> (try (first | ((with_reducible refine AV.le_refl ?_); rfl) | with_reducible exact AV.le_junk | with_reducible exact AV.le_nil | ((with_reducible refine AV.le_int ?_); omega) | (with_reducible refine AV.le_int ?_) | (with_reducible refine AV.le_bool ?_) | ((with_reducible refine AV.le_lst ?_); try rfl) | (with_reducible refine AV.le_q ?_ ?_ ?_) | exact fun _ _ h => h | (with_reducible refine RC_qle ?_ ?_ ?_))))
  · simp only [finR, resAs, resA, resLe, lsLe, lkS, lkM, pubs, pub, tie_sz, ti_sz, tie_ek, ti_ek,  nilAV, MM.upd, MM.set, AV.part, AV.cells, AV.agg, List.tail, List.headD, Nat.reduceAdd, Nat.reduceEqDiff, Nat.reduceLT, ↓reduceIte, and_true, true_and, and_self, reduceCtorEq]
    refine AVle_lst ?_
    rw [show l.length - i = 0 by omega, List.replicate_zero, List.append_nil, List.take_of_length_le (by simp [negK]; omega)]
def wantL (l : List Stp) (p : Rat) (sg : Int) : Int := (l.map fun s => if sg * cmpQ (s.2 : Rat) p < 0 then s.1 else 0).sum
def wantM (l : List Stp) (p : Rat) (sg : Int) : Int := (l.map fun s => if sg * cmpQ (s.2 : Rat) p ≤ 0 then s.1 else 0).sum
theorem sum_take {α : Type} (f : α → Int) (z : α) {l : List α} {i : Nat} (hi : i < l.length) : ((l.take (i + 1)).map f).sum = ((l.take i).map f).sum + f (l.getD i z) := by
  induction l generalizing i with
  | nil => simp at hi
  | cons a r ih =>
    cases i with
    | zero => simp
    | succ i =>
      have := ih (i := i) (by simpa using hi)
      simp only [List.take_succ_cons, List.map_cons, List.sum_cons, List.getD_cons_succ] at this ⊢
      omega
theorem sum_bound {f : Stp → Int} {l : List Stp} (h : okS l) (hf : ∀ s, f s = s.1 ∨ f s = 0) : 0 ≤ (l.map f).sum ∧ (l.map f).sum ≤ 1000000 * l.length := by
  induction l with
  | nil => simp
  | cons a r ih =>
    have h1 := h a (by simp)
    have h2 := ih (fun s hs => h s (by simp [hs]))
    have h3 := hf a
    unfold badS at h1
    simp only [List.map_cons, List.sum_cons, List.length_cons] at h2 ⊢
    omega
theorem cmpQ_bound (x y : Rat) : -1 ≤ cmpQ x y ∧ cmpQ x y ≤ 1 := by unfold cmpQ; split <;> (try split) <;> simp
def env19 : Env := fun g => match g with | 59 => some ctCmpQ | 60 => some ctFromQ | _ => none
theorem env19_ok : EnvOk Tryz.prog env19 := by
  intro g ct h
  simp only [env19] at h
  split at h <;> first | (cases h; exact ok59) | (cases h; exact ok60) | cases h
def ctWants : Ct := fun l => match l with
  | [.lst .stp l, a, .v (.int .i64 sg)] => match qA a with
    | some (p, s) => some (okS l ∧ l.length ≤ 3 ∧ s ≤ 33554432 ∧ (sg = 1 ∨ sg = -1), .tup (.tc (vi (wantL l p sg)) (.tc (vi (wantM l p sg)) .tn)))
    | none => none
  | _ => none
theorem ok66 : Sound Tryz.prog 66 ctWants := by
  refine sound_of (fn := Tryz.f66) rfl rfl rfl tiOk env19_ok mix ?_ (by intro l p r h; unfold ctWants at h; split at h <;> first | cases h | (split at h <;> cases h; exact Nat.le_of_ble_eq_true rfl))
  intro l p r h hp F vs hv
  unfold ctWants at h
  split at h
  rotate_left
  · cases h
  split at h <;> cases h
  rename_i l az sg _ p s ha
  obtain ⟨hok, h3, hs, hsg⟩ := hp
  obtain ⟨v0, r0, rfl, a0, v1, r1, rfl, a1, hv⟩ := hv
  replace a1 := qA_q ha a1
  refine ⟨[_, _, _], ⟨_, _, rfl, a0, _, _, rfl, a1, hv⟩, ?_⟩
  show Run Tryz.prog ti env19 45 (finR ti [.tmp 6, .tmp 7] _) _ _ _
  repeat' (first | with_reducible refine run_seq ?_ | with_reducible refine run_block ?_ | with_reducible refine step_code ?_ | with_reducible refine step_blk ?_ | with_reducible refine run_skip ?_ | with_reducible refine run_exit ?_ | with_reducible refine exits_code ?_ | with_reducible refine exits_here ?_ | with_reducible refine exits_blk rfl ?_ | with_reducible refine exits_lp ?_ | with_reducible refine run_ret ?_ | ((first | with_reducible refine run_region ?_ | with_reducible refine run_draw (by kernel_rfl) ?_); simp only [↓guardP_tt, ↓guardP_tf, ↓guardP_ft, ↓guardP_ff, guardP_t, guardP_f, evalQ, evalR, effQ, effR, skipS, opEff, evO, plainV, lkS, lkM, updL, putS, tie_sz, tie_zero, tie_zeroB, tie_fld, tie_ek, tie_int, tie_isb, tie_eq2, tie_f1, tie_ms,  ti_f1, ti_ms, ti_sz, ti_zero, ti_zeroB, ti_fld, ti_ek, ti_int, ti_isb, ti_eq2, binA, binI, intOp, funOf_v, cloOf_v, calIds, appEff, frE, foldB, foldS, castL_self, K.enc, K.dec, K.zero, K.es, K.bytes, AV.part, AV.setPart, AV.cells, AV.agg, AV.nth, Bool.false_eq_true, callEff, pubs, pub, nilAV, MM.upd, MM.set, argS, gdst, opIds, lids, AV.ids, List.getD_cons_succ, List.getD_cons_zero, List.map, List.tail, List.headD, List.nil_append, List.append_nil, List.cons_append, List.length_nil, List.length_cons, List.zip_cons_cons, List.zip_nil_right, List.set_cons_zero, List.set_cons_succ, List.replicate, Option.isSome_some, Option.map_some, Bool.not_true, Bool.not_false, forall_const, false_implies, Nat.reduceAdd, Nat.reduceEqDiff, Nat.reduceLT, Nat.reduceSub, Nat.reduceMul, Nat.reduceLeDiff, ↓reduceIte, and_true, true_and, and_self, false_and, and_false, reduceCtorEq, env19, ctCmpQ, ctQ2i, ctFromQ, qA]) | (with_reducible refine run_cond (by with_unfolding_all exact rfl) ?_ ?_ <;> intro hc <;> (try simp only [vb, decide_eq_true_eq, decide_eq_false_iff_not, beq_iff_eq, beq_eq_false_iff_ne, bne_iff_ne, bne_eq_false_iff_eq, Bool.not_eq_true', Bool.not_eq_false', reduceCtorEq] at hc) <;> (try (first | simp (disch := omega) only [wrap64, wrapu64, wrapu32, sh32, fdiv32, Int.tdiv_eq_ediv_of_nonneg, Int.tmod_eq_emod_of_nonneg, tn_add, tn_add1, Int.toNat_natCast, Int.toNat_zero, List.drop_zero] at hc | simp only [wrapu64m, wrapu32m] at hc))) | ((with_reducible refine compat_ok ?_); kernel_rfl) | with_reducible apply And.intro | (first | simp (disch := omega) only [wrap64, wrapu64, wrapu32, sh32, fdiv32, Int.tdiv_eq_ediv_of_nonneg, Int.tmod_eq_emod_of_nonneg, tn_add, tn_add1, Int.toNat_natCast, Int.toNat_zero, List.drop_zero] | simp only [wrapu64m, wrapu32m]) | (with_reducible intro hg; (try simp only [vb, decide_eq_true_eq, decide_eq_false_iff_not, beq_iff_eq, beq_eq_false_iff_ne, bne_iff_ne, bne_eq_false_iff_eq, Bool.not_eq_true', Bool.not_eq_false', reduceCtorEq] at hg); (try (first | simp (disch := omega) only [wrap64, wrapu64, wrapu32, sh32, fdiv32, Int.tdiv_eq_ediv_of_nonneg, Int.tmod_eq_emod_of_nonneg, tn_add, tn_add1, Int.toNat_natCast, Int.toNat_zero, List.drop_zero] at hg | simp only [wrapu64m, wrapu32m] at hg))))
  all_goals try omega
  refine run_loop (ι := Nat) (fun i => ⟨[(13, vi i), (12, vi l.length), (11, .lst .stp l), (2, vi sg), (4, .ptr 0 0), (6, vi (wantL (l.take i) p sg)), (7, vi (wantM (l.take i) p sg))], [(0, some (.box 27 (.q p false s)))], 1⟩)
    (fun i => i ≤ l.length) (fun i => l.length - i) 0 (Nat.zero_le _) ?_ ?_
  · (refine AS.le_of ?_ ?_ <;> simp only [slLe, memLe, entLe, lkS, lkM, Nat.reduceEqDiff, Nat.reduceLT, or_true, true_or, reduceCtorEq, ↓reduceIte, and_true, true_and] <;> (repeat' with_reducible apply And.intro) <;> (try (first | ((with_reducible refine AV.le_refl ?_); rfl) | with_reducible exact AV.le_junk | with_reducible exact AV.le_nil | ((with_reducible refine AV.le_int ?_); omega) | (with_reducible refine AV.le_int ?_) | (with_reducible refine AV.le_bool ?_) | ((with_reducible refine AV.le_lst ?_); try rfl) | (with_reducible refine AV.le_q ?_ ?_ ?_) | exact fun _ _ h => h | (with_reducible refine RC_qle ?_ ?_ ?_)))) <;> rfl
  intro i hi
  have hg := fun h => okS_get (i := i) hok h
  have hb1 := sum_bound (f := fun s => if sg * cmpQ (s.2 : Rat) p < 0 then s.1 else 0) (okS_take hok i) (fun s => by split <;> simp)
  have hb2 := sum_bound (f := fun s => if sg * cmpQ (s.2 : Rat) p ≤ 0 then s.1 else 0) (okS_take hok i) (fun s => by split <;> simp)
  have hl := List.length_take_le i l
  have hcb := cmpQ_bound ((l.getD i (0, 0)).2 : Rat) p
  have ht1 := fun h => sum_take (fun s : Stp => if sg * cmpQ (s.2 : Rat) p < 0 then s.1 else 0) (0, 0) (l := l) (i := i) h
  have ht2 := fun h => sum_take (fun s : Stp => if sg * cmpQ (s.2 : Rat) p ≤ 0 then s.1 else 0) (0, 0) (l := l) (i := i) h
  change 0 ≤ wantL (l.take i) p sg ∧ wantL (l.take i) p sg ≤ _ at hb1
  change 0 ≤ wantM (l.take i) p sg ∧ wantM (l.take i) p sg ≤ _ at hb2
  change i < l.length → wantL (l.take (i + 1)) p sg = wantL (l.take i) p sg + _ at ht1
  change i < l.length → wantM (l.take (i + 1)) p sg = wantM (l.take i) p sg + _ at ht2
  rcases hsg with rfl | rfl
  all_goals
    repeat' (first | with_reducible refine run_seq ?_ | with_reducible refine run_block ?_ | with_reducible refine step_code ?_ | with_reducible refine step_blk ?_ | with_reducible refine run_skip ?_ | with_reducible refine run_exit ?_ | with_reducible refine exits_code ?_ | with_reducible refine exits_here ?_ | with_reducible refine exits_blk rfl ?_ | with_reducible refine exits_lp ?_ | with_reducible refine run_ret ?_ | ((first | with_reducible refine run_region ?_ | with_reducible refine run_draw (by kernel_rfl) ?_); simp only [↓guardP_tt, ↓guardP_tf, ↓guardP_ft, ↓guardP_ff, guardP_t, guardP_f, evalQ, evalR, effQ, effR, skipS, opEff, evO, plainV, lkS, lkM, updL, putS, tie_sz, tie_zero, tie_zeroB, tie_fld, tie_ek, tie_int, tie_isb, tie_eq2, tie_f1, tie_ms,  ti_f1, ti_ms, ti_sz, ti_zero, ti_zeroB, ti_fld, ti_ek, ti_int, ti_isb, ti_eq2, binA, binI, intOp, funOf_v, cloOf_v, calIds, appEff, frE, foldB, foldS, castL_self, K.enc, K.dec, K.zero, K.es, K.bytes, AV.part, AV.setPart, AV.cells, AV.agg, AV.nth, Bool.false_eq_true, callEff, pubs, pub, nilAV, MM.upd, MM.set, argS, gdst, opIds, lids, AV.ids, List.getD_cons_succ, List.getD_cons_zero, List.map, List.tail, List.headD, List.nil_append, List.append_nil, List.cons_append, List.length_nil, List.length_cons, List.zip_cons_cons, List.zip_nil_right, List.set_cons_zero, List.set_cons_succ, List.replicate, Option.isSome_some, Option.map_some, Bool.not_true, Bool.not_false, forall_const, false_implies, Nat.reduceAdd, Nat.reduceEqDiff, Nat.reduceLT, Nat.reduceSub, Nat.reduceMul, Nat.reduceLeDiff, ↓reduceIte, and_true, true_and, and_self, false_and, and_false, reduceCtorEq, env19, ctCmpQ, ctQ2i, ctFromQ, qA]) | (with_reducible refine run_cond (by with_unfolding_all exact rfl) ?_ ?_ <;> intro hc <;> (try simp only [vb, decide_eq_true_eq, decide_eq_false_iff_not, beq_iff_eq, beq_eq_false_iff_ne, bne_iff_ne, bne_eq_false_iff_eq, Bool.not_eq_true', Bool.not_eq_false', reduceCtorEq] at hc) <;> (try (first | simp (disch := omega) only [wrap64, wrapu64, wrapu32, sh32, fdiv32, Int.tdiv_eq_ediv_of_nonneg, Int.tmod_eq_emod_of_nonneg, tn_add, tn_add1, Int.toNat_natCast, Int.toNat_zero, List.drop_zero] at hc | simp only [wrapu64m, wrapu32m] at hc))) | ((with_reducible refine compat_ok ?_); kernel_rfl) | with_reducible apply And.intro | (first | simp (disch := omega) only [wrap64, wrapu64, wrapu32, sh32, fdiv32, Int.tdiv_eq_ediv_of_nonneg, Int.tmod_eq_emod_of_nonneg, tn_add, tn_add1, Int.toNat_natCast, Int.toNat_zero, List.drop_zero] | simp only [wrapu64m, wrapu32m]) | (with_reducible intro hg; (try simp only [vb, decide_eq_true_eq, decide_eq_false_iff_not, beq_iff_eq, beq_eq_false_iff_ne, bne_iff_ne, bne_eq_false_iff_eq, Bool.not_eq_true', Bool.not_eq_false', reduceCtorEq] at hg); (try (first | simp (disch := omega) only [wrap64, wrapu64, wrapu32, sh32, fdiv32, Int.tdiv_eq_ediv_of_nonneg, Int.tmod_eq_emod_of_nonneg, tn_add, tn_add1, Int.toNat_natCast, Int.toNat_zero, List.drop_zero] at hg | simp only [wrapu64m, wrapu32m] at hg))))
  all_goals try omega
  all_goals first
    | (have e1 := ht1 (by omega)
       have e2 := ht2 (by omega)
       split at e1 <;> split at e2 <;> first
         | (exfalso; omega)
         | (refine step_lp ⟨i + 1, by omega, by omega, ?_⟩
            (refine AS.le_of ?_ ?_ <;> simp only [slLe, memLe, entLe, lkS, lkM, Nat.reduceEqDiff, Nat.reduceLT, or_true, true_or, reduceCtorEq, ↓reduceIte, and_true, true_and] <;> (repeat' with_reducible apply And.intro) <;> (try (first | ((with_reducible refine AV.le_refl ?_); rfl) | with_reducible exact AV.le_junk | with_reducible exact AV.le_nil | ((with_reducible refine AV.le_int ?_); omega) | (with_reducible refine AV.le_int ?_) | (with_reducible refine AV.le_bool ?_) | ((with_reducible refine AV.le_lst ?_); try rfl) | (with_reducible refine AV.le_q ?_ ?_ ?_) | exact fun _ _ h => h | (with_reducible refine RC_qle ?_ ?_ ?_))))))
    | (simp only [finR, resAs, resA, resLe, lsLe, lkS, lkM, pubs, pub, tie_sz, ti_sz, tie_ek, ti_ek,  nilAV, MM.upd, MM.set, AV.part, AV.cells, AV.agg, List.tail, List.headD, Nat.reduceAdd, Nat.reduceEqDiff, Nat.reduceLT, ↓reduceIte, and_true, true_and, and_self, reduceCtorEq]
       rw [List.take_of_length_le (by omega)]
       exact ⟨AVle.rfl, AVle.rfl⟩)
def supL (l : List Stp) (p : Rat) : Int := if offK l = 0 then wantL l p 1 else 0
def supM (l : List Stp) (p : Rat) : Int := if offK l = 0 then wantM l p 1 else 0
def demL (l : List Stp) (p : Rat) : Int := if bidK l = 0 then wantL l p (-1) else 0
def demM (l : List Stp) (p : Rat) : Int := if bidK l = 0 then wantM l p (-1) else 0
def ctWant2 (f g : List Stp → Rat → Int) (e : List Stp → Int) : Ct := fun l => match l with
  | [.lst .stp l, a] => match qA a with
    | some (p, s) => some (l.length ≤ 1099511627776 ∧ s ≤ 33554432, .tup (.tc (vi (f l p)) (.tc (vi (g l p)) (.tc (vi (e l)) .tn))))
    | none => none
  | _ => none
def env20 : Env := fun g => match g with | 22 => some ctOffer | 24 => some ctBid | 66 => some ctWants | _ => none
theorem env20_ok : EnvOk Tryz.prog env20 := by
  intro g ct h
  simp only [env20] at h
  split at h <;> first | (cases h; exact ok22) | (cases h; exact ok24) | (cases h; exact ok66) | cases h
def ctSupply : Ct := ctWant2 supL supM offK
theorem ok18 : Sound Tryz.prog 18 ctSupply := by
  refine sound_of (fn := Tryz.f18) rfl rfl rfl tiOk env20_ok mix ?_ (by intro l p r h; unfold ctSupply ctWant2 at h; split at h <;> first | cases h | (split at h <;> cases h; exact Nat.le_of_ble_eq_true rfl))
  intro l p r h hp F vs hv
  unfold ctSupply ctWant2 at h
  split at h
  rotate_left
  · cases h
  split at h <;> cases h
  rename_i l az _ p s ha
  obtain ⟨v0, r0, rfl, a0, v1, r1, rfl, a1, hv⟩ := hv
  replace a1 := qA_q ha a1
  refine ⟨[_, _], ⟨_, _, rfl, a0, _, _, rfl, a1, hv⟩, ?_⟩
  show Run Tryz.prog ti env20 21 (finR ti [.tmp 4, .tmp 5, .tmp 6] _) _ _ _
  repeat' (first | with_reducible refine run_seq ?_ | with_reducible refine run_block ?_ | with_reducible refine step_code ?_ | with_reducible refine step_blk ?_ | with_reducible refine run_skip ?_ | with_reducible refine run_exit ?_ | with_reducible refine exits_code ?_ | with_reducible refine exits_here ?_ | with_reducible refine exits_blk rfl ?_ | with_reducible refine exits_lp ?_ | with_reducible refine run_ret ?_ | ((first | with_reducible refine run_region ?_ | with_reducible refine run_draw (by kernel_rfl) ?_); simp only [↓guardP_tt, ↓guardP_tf, ↓guardP_ft, ↓guardP_ff, guardP_t, guardP_f, evalQ, evalR, effQ, effR, skipS, opEff, evO, plainV, lkS, lkM, updL, putS, tie_sz, tie_zero, tie_zeroB, tie_fld, tie_ek, tie_int, tie_isb, tie_eq2, tie_f1, tie_ms,  ti_f1, ti_ms, ti_sz, ti_zero, ti_zeroB, ti_fld, ti_ek, ti_int, ti_isb, ti_eq2, binA, binI, intOp, funOf_v, cloOf_v, calIds, appEff, frE, foldB, foldS, castL_self, K.enc, K.dec, K.zero, K.es, K.bytes, AV.part, AV.setPart, AV.cells, AV.agg, AV.nth, Bool.false_eq_true, callEff, pubs, pub, nilAV, MM.upd, MM.set, argS, gdst, opIds, lids, AV.ids, List.getD_cons_succ, List.getD_cons_zero, List.map, List.tail, List.headD, List.nil_append, List.append_nil, List.cons_append, List.length_nil, List.length_cons, List.zip_cons_cons, List.zip_nil_right, List.set_cons_zero, List.set_cons_succ, List.replicate, Option.isSome_some, Option.map_some, Bool.not_true, Bool.not_false, forall_const, false_implies, Nat.reduceAdd, Nat.reduceEqDiff, Nat.reduceLT, Nat.reduceSub, Nat.reduceMul, Nat.reduceLeDiff, ↓reduceIte, and_true, true_and, and_self, false_and, and_false, reduceCtorEq, env20, ctOffer, ctWants, qA, Int.reduceNeg, true_or, or_true]) | (with_reducible refine run_cond (by with_unfolding_all exact rfl) ?_ ?_ <;> intro hc <;> (try simp only [vb, decide_eq_true_eq, decide_eq_false_iff_not, beq_iff_eq, beq_eq_false_iff_ne, bne_iff_ne, bne_eq_false_iff_eq, Bool.not_eq_true', Bool.not_eq_false', reduceCtorEq] at hc) <;> (try (first | simp (disch := omega) only [wrap64, wrapu64, wrapu32, sh32, fdiv32, Int.tdiv_eq_ediv_of_nonneg, Int.tmod_eq_emod_of_nonneg, tn_add, tn_add1, Int.toNat_natCast, Int.toNat_zero, List.drop_zero] at hc | simp only [wrapu64m, wrapu32m] at hc))) | ((with_reducible refine compat_ok ?_); kernel_rfl) | with_reducible apply And.intro | (first | simp (disch := omega) only [wrap64, wrapu64, wrapu32, sh32, fdiv32, Int.tdiv_eq_ediv_of_nonneg, Int.tmod_eq_emod_of_nonneg, tn_add, tn_add1, Int.toNat_natCast, Int.toNat_zero, List.drop_zero] | simp only [wrapu64m, wrapu32m]) | (with_reducible intro hg; (try simp only [vb, decide_eq_true_eq, decide_eq_false_iff_not, beq_iff_eq, beq_eq_false_iff_ne, bne_iff_ne, bne_eq_false_iff_eq, Bool.not_eq_true', Bool.not_eq_false', reduceCtorEq] at hg); (try (first | simp (disch := omega) only [wrap64, wrapu64, wrapu32, sh32, fdiv32, Int.tdiv_eq_ediv_of_nonneg, Int.tmod_eq_emod_of_nonneg, tn_add, tn_add1, Int.toNat_natCast, Int.toNat_zero, List.drop_zero] at hg | simp only [wrapu64m, wrapu32m] at hg))))
  all_goals try omega
  · simp only [finR, resAs, resA, resLe, lsLe, lkS, lkM, pubs, pub, tie_sz, ti_sz, tie_ek, ti_ek,  nilAV, MM.upd, MM.set, AV.part, AV.cells, AV.agg, List.tail, List.headD, Nat.reduceAdd, Nat.reduceEqDiff, Nat.reduceLT, ↓reduceIte, and_true, true_and, and_self, reduceCtorEq]
    exact ⟨AVle_int (by rw [supL, if_neg hc]), AVle_int (by rw [supM, if_neg hc]), AVle.rfl⟩
  · exact (checkK_ok hc).2.2.1
  · exact (checkK_ok hc).2.1
  · simp only [finR, resAs, resA, resLe, lsLe, lkS, lkM, pubs, pub, tie_sz, ti_sz, tie_ek, ti_ek,  nilAV, MM.upd, MM.set, AV.part, AV.cells, AV.agg, List.tail, List.headD, Nat.reduceAdd, Nat.reduceEqDiff, Nat.reduceLT, ↓reduceIte, and_true, true_and, and_self, reduceCtorEq]
    exact ⟨AVle_int (by rw [supL, if_pos hc]), AVle_int (by rw [supM, if_pos hc]), AVle_int hc.symm⟩
def ctDemand : Ct := ctWant2 demL demM bidK
theorem ok20 : Sound Tryz.prog 20 ctDemand := by
  refine sound_of (fn := Tryz.f20) rfl rfl rfl tiOk env20_ok mix ?_ (by intro l p r h; unfold ctDemand ctWant2 at h; split at h <;> first | cases h | (split at h <;> cases h; exact Nat.le_of_ble_eq_true rfl))
  intro l p r h hp F vs hv
  unfold ctDemand ctWant2 at h
  split at h
  rotate_left
  · cases h
  split at h <;> cases h
  rename_i l az _ p s ha
  obtain ⟨v0, r0, rfl, a0, v1, r1, rfl, a1, hv⟩ := hv
  replace a1 := qA_q ha a1
  refine ⟨[_, _], ⟨_, _, rfl, a0, _, _, rfl, a1, hv⟩, ?_⟩
  show Run Tryz.prog ti env20 21 (finR ti [.tmp 4, .tmp 5, .tmp 6] _) _ _ _
  repeat' (first | with_reducible refine run_seq ?_ | with_reducible refine run_block ?_ | with_reducible refine step_code ?_ | with_reducible refine step_blk ?_ | with_reducible refine run_skip ?_ | with_reducible refine run_exit ?_ | with_reducible refine exits_code ?_ | with_reducible refine exits_here ?_ | with_reducible refine exits_blk rfl ?_ | with_reducible refine exits_lp ?_ | with_reducible refine run_ret ?_ | ((first | with_reducible refine run_region ?_ | with_reducible refine run_draw (by kernel_rfl) ?_); simp only [↓guardP_tt, ↓guardP_tf, ↓guardP_ft, ↓guardP_ff, guardP_t, guardP_f, evalQ, evalR, effQ, effR, skipS, opEff, evO, plainV, lkS, lkM, updL, putS, tie_sz, tie_zero, tie_zeroB, tie_fld, tie_ek, tie_int, tie_isb, tie_eq2, tie_f1, tie_ms,  ti_f1, ti_ms, ti_sz, ti_zero, ti_zeroB, ti_fld, ti_ek, ti_int, ti_isb, ti_eq2, binA, binI, intOp, funOf_v, cloOf_v, calIds, appEff, frE, foldB, foldS, castL_self, K.enc, K.dec, K.zero, K.es, K.bytes, AV.part, AV.setPart, AV.cells, AV.agg, AV.nth, Bool.false_eq_true, callEff, pubs, pub, nilAV, MM.upd, MM.set, argS, gdst, opIds, lids, AV.ids, List.getD_cons_succ, List.getD_cons_zero, List.map, List.tail, List.headD, List.nil_append, List.append_nil, List.cons_append, List.length_nil, List.length_cons, List.zip_cons_cons, List.zip_nil_right, List.set_cons_zero, List.set_cons_succ, List.replicate, Option.isSome_some, Option.map_some, Bool.not_true, Bool.not_false, forall_const, false_implies, Nat.reduceAdd, Nat.reduceEqDiff, Nat.reduceLT, Nat.reduceSub, Nat.reduceMul, Nat.reduceLeDiff, ↓reduceIte, and_true, true_and, and_self, false_and, and_false, reduceCtorEq, env20, ctBid, ctWants, qA, Int.reduceNeg, true_or, or_true]) | (with_reducible refine run_cond (by with_unfolding_all exact rfl) ?_ ?_ <;> intro hc <;> (try simp only [vb, decide_eq_true_eq, decide_eq_false_iff_not, beq_iff_eq, beq_eq_false_iff_ne, bne_iff_ne, bne_eq_false_iff_eq, Bool.not_eq_true', Bool.not_eq_false', reduceCtorEq] at hc) <;> (try (first | simp (disch := omega) only [wrap64, wrapu64, wrapu32, sh32, fdiv32, Int.tdiv_eq_ediv_of_nonneg, Int.tmod_eq_emod_of_nonneg, tn_add, tn_add1, Int.toNat_natCast, Int.toNat_zero, List.drop_zero] at hc | simp only [wrapu64m, wrapu32m] at hc))) | ((with_reducible refine compat_ok ?_); kernel_rfl) | with_reducible apply And.intro | (first | simp (disch := omega) only [wrap64, wrapu64, wrapu32, sh32, fdiv32, Int.tdiv_eq_ediv_of_nonneg, Int.tmod_eq_emod_of_nonneg, tn_add, tn_add1, Int.toNat_natCast, Int.toNat_zero, List.drop_zero] | simp only [wrapu64m, wrapu32m]) | (with_reducible intro hg; (try simp only [vb, decide_eq_true_eq, decide_eq_false_iff_not, beq_iff_eq, beq_eq_false_iff_ne, bne_iff_ne, bne_eq_false_iff_eq, Bool.not_eq_true', Bool.not_eq_false', reduceCtorEq] at hg); (try (first | simp (disch := omega) only [wrap64, wrapu64, wrapu32, sh32, fdiv32, Int.tdiv_eq_ediv_of_nonneg, Int.tmod_eq_emod_of_nonneg, tn_add, tn_add1, Int.toNat_natCast, Int.toNat_zero, List.drop_zero] at hg | simp only [wrapu64m, wrapu32m] at hg))))
  all_goals try omega
  · simp only [finR, resAs, resA, resLe, lsLe, lkS, lkM, pubs, pub, tie_sz, ti_sz, tie_ek, ti_ek,  nilAV, MM.upd, MM.set, AV.part, AV.cells, AV.agg, List.tail, List.headD, Nat.reduceAdd, Nat.reduceEqDiff, Nat.reduceLT, ↓reduceIte, and_true, true_and, and_self, reduceCtorEq]
    exact ⟨AVle_int (by rw [demL, if_neg hc]), AVle_int (by rw [demM, if_neg hc]), AVle.rfl⟩
  · exact (checkK_ok hc).2.2.1
  · exact (checkK_ok hc).2.1
  · simp only [finR, resAs, resA, resLe, lsLe, lkS, lkM, pubs, pub, tie_sz, ti_sz, tie_ek, ti_ek,  nilAV, MM.upd, MM.set, AV.part, AV.cells, AV.agg, List.tail, List.headD, Nat.reduceAdd, Nat.reduceEqDiff, Nat.reduceLT, ↓reduceIte, and_true, true_and, and_self, reduceCtorEq]
    exact ⟨AVle_int (by rw [demL, if_pos hc]), AVle_int (by rw [demM, if_pos hc]), AVle_int hc.symm⟩
end Go.AE

/- Contracts: step.Allocate, step.Cost. -/
namespace Go.AE
open Go.Proofs Go.RowKit
set_option linter.unusedVariables false
set_option linter.unusedSimpArgs false
set_option maxRecDepth 20000

def minQ (x y : Rat) : Rat := if x ≤ y then x else y
def qAt (l : List Stp) (q : Rat) : Nat → Rat
  | 0 => q
  | i + 1 => qAt l q i - minQ (qAt l q i) ((l.getD i (0, 0)).1 : Rat)
def outAt (l : List Stp) (q : Rat) (i : Nat) : Rat := minQ (qAt l q i) ((l.getD i (0, 0)).1 : Rat)
def sAt (s : Nat) : Nat → Nat
  | 0 => s
  | i + 1 => sAt s i + (max (sAt s i) 2 + 4) + 8
theorem sAt_le {s i : Nat} (h : i ≤ 3) : sAt s i ≤ 8 * s + 200 := by
  rcases (by omega : i = 0 ∨ i = 1 ∨ i = 2 ∨ i = 3) with rfl | rfl | rfl | rfl <;> simp only [sAt] <;> omega
def alK (l : List Stp) (q : Rat) (s : Nat) : List QV := (List.range l.length).map fun i => ⟨outAt l q i, true, max (sAt s i) 2 + 4⟩
def allE (l : List Stp) (q : Rat) : Int := if curveK l ≠ 0 then curveK l else if q < 0 ∨ (sumK l : Rat) < q then 1 else 0
def alR (l : List Stp) (q : Rat) (s : Nat) : List QV := if allE l q = 0 then alK l q s else []
def env21 : Env := fun g => match g with | 57 => some ctCurve | 26 => some ctSum | 58 => some ctSignQ | 60 => some ctFromQ | 59 => some ctCmpQ | 61 => some ctMinQ | 62 => some ctSubQ | _ => none
theorem env21_ok : EnvOk Tryz.prog env21 := by
  intro g ct h
  simp only [env21] at h
  split at h <;> first | (cases h; exact ok57) | (cases h; exact ok26) | (cases h; exact ok58) | (cases h; exact ok60) | (cases h; exact ok59) | (cases h; exact ok61) | (cases h; exact ok62) | cases h
def ctAlloc : Ct := fun l => match l with
  | [.lst .stp l, a] => match qA a with
    | some (q, s) => some (l.length ≤ 1099511627776 ∧ s ≤ 4194304, .tup (.tc (.lst .q (alR l q s)) (.tc (vi (allE l q)) .tn)))
    | none => none
  | _ => none
theorem AVle_nil {k : K} {l : List k.T} (h : l = []) : AVle (.v (.slice none 0 0)) (.lst k l) := by
  subst h
  intro F v hv
  obtain ⟨_, e⟩ := (show plainV (.slice none 0 0) = true ∧ [v] = [.slice none 0 0] from hv)
  cases e
  exact (show ∃ u, [_] = [u] ∧ RL F k.es (RK F k) [] u from ⟨_, rfl, none, 0, rfl, by simp, fun h => absurd rfl h⟩)
theorem ok12 : Sound Tryz.prog 12 ctAlloc := by
  refine sound_of (fn := Tryz.f12) rfl rfl rfl tiOk env21_ok mix ?_ (by intro l p r h; unfold ctAlloc at h; split at h <;> first | cases h | (split at h <;> cases h; exact Nat.le_of_ble_eq_true rfl))
  intro l p r h hp F vs hv
  unfold ctAlloc at h
  split at h
  rotate_left
  · cases h
  split at h <;> cases h
  rename_i l az _ q s ha
  obtain ⟨v0, r0, rfl, a0, v1, r1, rfl, a1, hv⟩ := hv
  replace a1 := qA_q ha a1
  refine ⟨[_, _], ⟨_, _, rfl, a0, _, _, rfl, a1, hv⟩, ?_⟩
  have hsum : curveK l = 0 → 0 ≤ sumK l ∧ sumK l ≤ 3000000 := by
    intro h
    obtain ⟨h0, h3, hok⟩ := curveK_ok h
    have := sumL_bound hok
    rw [sumK, if_pos h]; omega
  show Run Tryz.prog ti env21 52 (finR ti [.tmp 4, .tmp 5] _) _ _ _
  repeat' (first | with_reducible refine run_seq ?_ | with_reducible refine run_block ?_ | with_reducible refine step_code ?_ | with_reducible refine step_blk ?_ | with_reducible refine run_skip ?_ | with_reducible refine run_exit ?_ | with_reducible refine exits_code ?_ | with_reducible refine exits_here ?_ | with_reducible refine exits_blk rfl ?_ | with_reducible refine exits_lp ?_ | with_reducible refine run_ret ?_ | ((first | with_reducible refine run_region ?_ | with_reducible refine run_draw (by kernel_rfl) ?_); simp only [↓guardP_tt, ↓guardP_tf, ↓guardP_ft, ↓guardP_ff, guardP_t, guardP_f, evalQ, evalR, effQ, effR, skipS, opEff, evO, plainV, lkS, lkM, updL, putS, tie_sz, tie_zero, tie_zeroB, tie_fld, tie_ek, tie_int, tie_isb, tie_eq2, tie_f1, tie_ms,  ti_f1, ti_ms, ti_sz, ti_zero, ti_zeroB, ti_fld, ti_ek, ti_int, ti_isb, ti_eq2, binA, binI, intOp, funOf_v, cloOf_v, calIds, appEff, frE, foldB, foldS, castL_self, K.enc, K.dec, K.zero, K.es, K.bytes, AV.part, AV.setPart, AV.cells, AV.agg, AV.nth, Bool.false_eq_true, callEff, pubs, pub, nilAV, MM.upd, MM.set, argS, gdst, opIds, lids, AV.ids, List.getD_cons_succ, List.getD_cons_zero, List.map, List.tail, List.headD, List.nil_append, List.append_nil, List.cons_append, List.length_nil, List.length_cons, List.zip_cons_cons, List.zip_nil_right, List.set_cons_zero, List.set_cons_succ, List.replicate, Option.isSome_some, Option.map_some, Bool.not_true, Bool.not_false, forall_const, false_implies, Nat.reduceAdd, Nat.reduceEqDiff, Nat.reduceLT, Nat.reduceSub, Nat.reduceMul, Nat.reduceLeDiff, ↓reduceIte, and_true, true_and, and_self, false_and, and_false, reduceCtorEq, env21, ctCurve, ctSum, ctSignQ, ctFromQ, ctCmpQ, ctQ2i, ctMinQ, ctSubQ, ctQ2, qA]) | (with_reducible refine run_cond (by with_unfolding_all exact rfl) ?_ ?_ <;> intro hc <;> (try simp only [vb, decide_eq_true_eq, decide_eq_false_iff_not, beq_iff_eq, beq_eq_false_iff_ne, bne_iff_ne, bne_eq_false_iff_eq, Bool.not_eq_true', Bool.not_eq_false', reduceCtorEq] at hc) <;> (try (first | simp (disch := omega) only [wrap64, wrapu64, wrapu32, sh32, fdiv32, Int.tdiv_eq_ediv_of_nonneg, Int.tmod_eq_emod_of_nonneg, tn_add, tn_add1, Int.toNat_natCast, Int.toNat_zero, List.drop_zero] at hc | simp only [wrapu64m, wrapu32m] at hc))) | ((with_reducible refine compat_ok ?_); kernel_rfl) | with_reducible apply And.intro | (first | simp (disch := omega) only [wrap64, wrapu64, wrapu32, sh32, fdiv32, Int.tdiv_eq_ediv_of_nonneg, Int.tmod_eq_emod_of_nonneg, tn_add, tn_add1, Int.toNat_natCast, Int.toNat_zero, List.drop_zero] | simp only [wrapu64m, wrapu32m]) | (with_reducible intro hg; (try simp only [vb, decide_eq_true_eq, decide_eq_false_iff_not, beq_iff_eq, beq_eq_false_iff_ne, bne_iff_ne, bne_eq_false_iff_eq, Bool.not_eq_true', Bool.not_eq_false', reduceCtorEq] at hg); (try (first | simp (disch := omega) only [wrap64, wrapu64, wrapu32, sh32, fdiv32, Int.tdiv_eq_ediv_of_nonneg, Int.tmod_eq_emod_of_nonneg, tn_add, tn_add1, Int.toNat_natCast, Int.toNat_zero, List.drop_zero] at hg | simp only [wrapu64m, wrapu32m] at hg))))
  all_goals try omega
  · have e : allE l q = curveK l := by rw [allE, if_pos hc]
    simp only [finR, resAs, resA, resLe, lsLe, lkS, lkM, pubs, pub, tie_sz, ti_sz, tie_ek, ti_ek,  nilAV, MM.upd, MM.set, AV.part, AV.cells, AV.agg, List.tail, List.headD, Nat.reduceAdd, Nat.reduceEqDiff, Nat.reduceLT, ↓reduceIte, and_true, true_and, and_self, reduceCtorEq]
    exact ⟨AVle_nil (by rw [alR, if_neg (by rw [e]; exact hc)]), AVle_int e.symm⟩
  · have e : allE l q = 1 := by rw [allE, if_neg (by simp_all), if_pos (.inr (cmpQ_gt.1 hc))]
    simp only [finR, resAs, resA, resLe, lsLe, lkS, lkM, pubs, pub, tie_sz, ti_sz, tie_ek, ti_ek,  nilAV, MM.upd, MM.set, AV.part, AV.cells, AV.agg, List.tail, List.headD, Nat.reduceAdd, Nat.reduceEqDiff, Nat.reduceLT, ↓reduceIte, and_true, true_and, and_self, reduceCtorEq]
    exact ⟨AVle_nil (by rw [alR, if_neg (by rw [e]; decide)]), AVle_int e.symm⟩
  rotate_left
  · have e : allE l q = 1 := by rw [allE, if_neg (by simp_all), if_pos (.inl (sgnQ_neg.1 hg))]
    simp only [finR, resAs, resA, resLe, lsLe, lkS, lkM, pubs, pub, tie_sz, ti_sz, tie_ek, ti_ek,  nilAV, MM.upd, MM.set, AV.part, AV.cells, AV.agg, List.tail, List.headD, Nat.reduceAdd, Nat.reduceEqDiff, Nat.reduceLT, ↓reduceIte, and_true, true_and, and_self, reduceCtorEq]
    exact ⟨AVle_nil (by rw [alR, if_neg (by rw [e]; decide)]), AVle_int e.symm⟩
  have hcv : curveK l = 0 := by assumption
  have e : allE l q = 0 := by
    rw [allE, if_neg (by simp [hcv]), if_neg]
    rintro (h | h)
    · exact hg (sgnQ_neg.2 h)
    · exact hc (cmpQ_gt.2 h)
  have er : alR l q s = alK l q s := by rw [alR, if_pos e]
  obtain ⟨h0, h3, hok⟩ := curveK_ok hcv
  refine run_loop (ι := Nat) (fun i => ⟨[(31, vi i), (30, vi l.length), (29, .lst .stp l), (7, .row 21), (3, .ptr 0 0)], [(21, some (.row 27 .q ((alK l q s).take i ++ List.replicate (l.length - i) ⟨0, true, 0⟩) false)), (0, some (.box 27 (.q (qAt l q i) false (sAt s i))))], 22⟩)
    (fun i => i ≤ l.length) (fun i => l.length - i) 0 (Nat.zero_le _) ?_ ?_
  · simp only [List.take_zero, List.nil_append, Nat.sub_zero]
    (refine AS.le_of ?_ ?_ <;> simp only [slLe, memLe, entLe, lkS, lkM, Nat.reduceEqDiff, Nat.reduceLT, or_true, true_or, reduceCtorEq, ↓reduceIte, and_true, true_and] <;> (repeat' with_reducible apply And.intro) <;> (try (first | ((with_reducible refine AV.le_refl ?_); rfl) | with_reducible exact AV.le_junk | with_reducible exact AV.le_nil | ((with_reducible refine AV.le_int ?_); omega) | (with_reducible refine AV.le_int ?_) | (with_reducible refine AV.le_bool ?_) | ((with_reducible refine AV.le_lst ?_); try rfl) | (with_reducible refine AV.le_q ?_ ?_ ?_) | exact fun _ _ h => h | (with_reducible refine RC_qle ?_ ?_ ?_))))
  intro i hi
  have hlen : ((alK l q s).take i ++ List.replicate (l.length - i) (⟨0, true, 0⟩ : QV)).length = l.length := by simp [alK]; omega
  have hg2 := fun h => okS_get (i := i) hok h
  have hsz := sAt_le (s := s) (i := i) (by omega)
  have hset := fun h : i < l.length => set_fill (m := alK l q s) (z := (⟨0, true, 0⟩ : QV)) (v := ⟨outAt l q i, true, max (sAt s i) 2 + 4⟩) (i := i) (n := l.length) (by simp [alK]) h (by simp [alK, h])
  have hget : ∀ v : QV, i < l.length → (((alK l q s).take i ++ List.replicate (l.length - i) (⟨0, true, 0⟩ : QV)).set i v).getD i ⟨0, true, 0⟩ = v := by
    intro v h
    rw [List.getD_eq_getElem?_getD, List.getElem?_set, if_pos rfl, if_pos (by rw [hlen]; exact h)]; rfl
  by_cases hlt : i < l.length
  · replace hset := hset hlt
    replace hget := fun v => hget v hlt
    repeat' (first | with_reducible refine run_seq ?_ | with_reducible refine run_block ?_ | with_reducible refine step_code ?_ | with_reducible refine step_blk ?_ | with_reducible refine run_skip ?_ | with_reducible refine run_exit ?_ | with_reducible refine exits_code ?_ | with_reducible refine exits_here ?_ | with_reducible refine exits_blk rfl ?_ | with_reducible refine exits_lp ?_ | with_reducible refine run_ret ?_ | ((first | with_reducible refine run_region ?_ | with_reducible refine run_draw (by kernel_rfl) ?_); simp only [↓guardP_tt, ↓guardP_tf, ↓guardP_ft, ↓guardP_ff, guardP_t, guardP_f, evalQ, evalR, effQ, effR, skipS, opEff, evO, plainV, lkS, lkM, updL, putS, tie_sz, tie_zero, tie_zeroB, tie_fld, tie_ek, tie_int, tie_isb, tie_eq2, tie_f1, tie_ms,  ti_f1, ti_ms, ti_sz, ti_zero, ti_zeroB, ti_fld, ti_ek, ti_int, ti_isb, ti_eq2, binA, binI, intOp, funOf_v, cloOf_v, calIds, appEff, frE, foldB, foldS, castL_self, K.enc, K.dec, K.zero, K.es, K.bytes, AV.part, AV.setPart, AV.cells, AV.agg, AV.nth, Bool.false_eq_true, callEff, pubs, pub, nilAV, MM.upd, MM.set, argS, gdst, opIds, lids, AV.ids, List.getD_cons_succ, List.getD_cons_zero, List.map, List.tail, List.headD, List.nil_append, List.append_nil, List.cons_append, List.length_nil, List.length_cons, List.zip_cons_cons, List.zip_nil_right, List.set_cons_zero, List.set_cons_succ, List.replicate, Option.isSome_some, Option.map_some, Bool.not_true, Bool.not_false, forall_const, false_implies, Nat.reduceAdd, Nat.reduceEqDiff, Nat.reduceLT, Nat.reduceSub, Nat.reduceMul, Nat.reduceLeDiff, ↓reduceIte, and_true, true_and, and_self, false_and, and_false, reduceCtorEq, env21, ctCurve, ctSum, ctSignQ, ctFromQ, ctCmpQ, ctQ2i, ctMinQ, ctSubQ, ctQ2, qA, List.length_set]) | (with_reducible refine run_cond (by with_unfolding_all exact rfl) ?_ ?_ <;> intro hc <;> (try simp only [vb, decide_eq_true_eq, decide_eq_false_iff_not, beq_iff_eq, beq_eq_false_iff_ne, bne_iff_ne, bne_eq_false_iff_eq, Bool.not_eq_true', Bool.not_eq_false', reduceCtorEq] at hc) <;> (try (first | simp (disch := omega) only [wrap64, wrapu64, wrapu32, sh32, fdiv32, Int.tdiv_eq_ediv_of_nonneg, Int.tmod_eq_emod_of_nonneg, tn_add, tn_add1, Int.toNat_natCast, Int.toNat_zero, List.drop_zero] at hc | simp only [wrapu64m, wrapu32m] at hc))) | ((with_reducible refine compat_ok ?_); kernel_rfl) | with_reducible apply And.intro | (first | simp (disch := omega) only [wrap64, wrapu64, wrapu32, sh32, fdiv32, Int.tdiv_eq_ediv_of_nonneg, Int.tmod_eq_emod_of_nonneg, tn_add, tn_add1, Int.toNat_natCast, Int.toNat_zero, List.drop_zero] | simp only [wrapu64m, wrapu32m]) | (with_reducible intro hg; (try simp only [vb, decide_eq_true_eq, decide_eq_false_iff_not, beq_iff_eq, beq_eq_false_iff_ne, bne_iff_ne, bne_eq_false_iff_eq, Bool.not_eq_true', Bool.not_eq_false', reduceCtorEq] at hg); (try (first | simp (disch := omega) only [wrap64, wrapu64, wrapu32, sh32, fdiv32, Int.tdiv_eq_ediv_of_nonneg, Int.tmod_eq_emod_of_nonneg, tn_add, tn_add1, Int.toNat_natCast, Int.toNat_zero, List.drop_zero] at hg | simp only [wrapu64m, wrapu32m] at hg))))
    all_goals try omega
    · rw [hget]; simp only; omega
    have eo : (if qAt l q i ≤ ((l.getD i (0, 0)).1 : Rat) then qAt l q i else ((l.getD i (0, 0)).1 : Rat)) = outAt l q i := rfl
    refine step_lp ⟨i + 1, by omega, by omega, ?_⟩
    simp only [hget, eo]
    rw [← hset]
    (refine AS.le_of ?_ ?_ <;> simp only [slLe, memLe, entLe, lkS, lkM, Nat.reduceEqDiff, Nat.reduceLT, or_true, true_or, reduceCtorEq, ↓reduceIte, and_true, true_and] <;> (repeat' with_reducible apply And.intro) <;> (try (first | ((with_reducible refine AV.le_refl ?_); rfl) | with_reducible exact AV.le_junk | with_reducible exact AV.le_nil | ((with_reducible refine AV.le_int ?_); omega) | (with_reducible refine AV.le_int ?_) | (with_reducible refine AV.le_bool ?_) | ((with_reducible refine AV.le_lst ?_); try rfl) | (with_reducible refine AV.le_q ?_ ?_ ?_) | exact fun _ _ h => h | (with_reducible refine RC_qle ?_ ?_ ?_))))
    · rfl
    · intro _; rfl
    · exact Nat.le_refl _
  · repeat' (first | with_reducible refine run_seq ?_ | with_reducible refine run_block ?_ | with_reducible refine step_code ?_ | with_reducible refine step_blk ?_ | with_reducible refine run_skip ?_ | with_reducible refine run_exit ?_ | with_reducible refine exits_code ?_ | with_reducible refine exits_here ?_ | with_reducible refine exits_blk rfl ?_ | with_reducible refine exits_lp ?_ | with_reducible refine run_ret ?_ | ((first | with_reducible refine run_region ?_ | with_reducible refine run_draw (by kernel_rfl) ?_); simp only [↓guardP_tt, ↓guardP_tf, ↓guardP_ft, ↓guardP_ff, guardP_t, guardP_f, evalQ, evalR, effQ, effR, skipS, opEff, evO, plainV, lkS, lkM, updL, putS, tie_sz, tie_zero, tie_zeroB, tie_fld, tie_ek, tie_int, tie_isb, tie_eq2, tie_f1, tie_ms,  ti_f1, ti_ms, ti_sz, ti_zero, ti_zeroB, ti_fld, ti_ek, ti_int, ti_isb, ti_eq2, binA, binI, intOp, funOf_v, cloOf_v, calIds, appEff, frE, foldB, foldS, castL_self, K.enc, K.dec, K.zero, K.es, K.bytes, AV.part, AV.setPart, AV.cells, AV.agg, AV.nth, Bool.false_eq_true, callEff, pubs, pub, nilAV, MM.upd, MM.set, argS, gdst, opIds, lids, AV.ids, List.getD_cons_succ, List.getD_cons_zero, List.map, List.tail, List.headD, List.nil_append, List.append_nil, List.cons_append, List.length_nil, List.length_cons, List.zip_cons_cons, List.zip_nil_right, List.set_cons_zero, List.set_cons_succ, List.replicate, Option.isSome_some, Option.map_some, Bool.not_true, Bool.not_false, forall_const, false_implies, Nat.reduceAdd, Nat.reduceEqDiff, Nat.reduceLT, Nat.reduceSub, Nat.reduceMul, Nat.reduceLeDiff, ↓reduceIte, and_true, true_and, and_self, false_and, and_false, reduceCtorEq, env21, ctCurve, ctSum, ctSignQ, ctFromQ, ctCmpQ, ctQ2i, ctMinQ, ctSubQ, ctQ2, qA]) | (with_reducible refine run_cond (by with_unfolding_all exact rfl) ?_ ?_ <;> intro hc <;> (try simp only [vb, decide_eq_true_eq, decide_eq_false_iff_not, beq_iff_eq, beq_eq_false_iff_ne, bne_iff_ne, bne_eq_false_iff_eq, Bool.not_eq_true', Bool.not_eq_false', reduceCtorEq] at hc) <;> (try (first | simp (disch := omega) only [wrap64, wrapu64, wrapu32, sh32, fdiv32, Int.tdiv_eq_ediv_of_nonneg, Int.tmod_eq_emod_of_nonneg, tn_add, tn_add1, Int.toNat_natCast, Int.toNat_zero, List.drop_zero] at hc | simp only [wrapu64m, wrapu32m] at hc))) | ((with_reducible refine compat_ok ?_); kernel_rfl) | with_reducible apply And.intro | (first | simp (disch := omega) only [wrap64, wrapu64, wrapu32, sh32, fdiv32, Int.tdiv_eq_ediv_of_nonneg, Int.tmod_eq_emod_of_nonneg, tn_add, tn_add1, Int.toNat_natCast, Int.toNat_zero, List.drop_zero] | simp only [wrapu64m, wrapu32m]) | (with_reducible intro hg; (try simp only [vb, decide_eq_true_eq, decide_eq_false_iff_not, beq_iff_eq, beq_eq_false_iff_ne, bne_iff_ne, bne_eq_false_iff_eq, Bool.not_eq_true', Bool.not_eq_false', reduceCtorEq] at hg); (try (first | simp (disch := omega) only [wrap64, wrapu64, wrapu32, sh32, fdiv32, Int.tdiv_eq_ediv_of_nonneg, Int.tmod_eq_emod_of_nonneg, tn_add, tn_add1, Int.toNat_natCast, Int.toNat_zero, List.drop_zero] at hg | simp only [wrapu64m, wrapu32m] at hg))))
    all_goals try omega
    simp only [finR, resAs, resA, resLe, lsLe, lkS, lkM, pubs, pub, tie_sz, ti_sz, tie_ek, ti_ek,  nilAV, MM.upd, MM.set, AV.part, AV.cells, AV.agg, List.tail, List.headD, Nat.reduceAdd, Nat.reduceEqDiff, Nat.reduceLT, ↓reduceIte, and_true, true_and, and_self, reduceCtorEq]
    refine ⟨AVle_lst ?_, AVle_int e.symm⟩
    rw [er, show l.length - i = 0 by omega, List.replicate_zero, List.append_nil, List.take_of_length_le (by simp [alK]; omega)]
/-- The cost of the first i steps' allocations, and a bound on its words. -/
def costAt (l : List Stp) (q : Rat) : Nat → Rat
  | 0 => 0
  | i + 1 => costAt l q i + outAt l q i * ((l.getD i (0, 0)).2 : Rat)
def csAt (s : Nat) : Nat → Nat
  | 0 => 2
  | i + 1 => csAt s i + (max (sAt s i) 2 + 4 + 2 + 8) + 8
theorem csAt_le {s i : Nat} (h : i ≤ 3) : csAt s i ≤ 20 * s + 1000 := by
  rcases (by omega : i = 0 ∨ i = 1 ∨ i = 2 ∨ i = 3) with rfl | rfl | rfl | rfl <;> simp only [csAt, sAt] <;> omega
def costK (l : List Stp) (q : Rat) : Rat := if allE l q = 0 then costAt l q l.length else 0
theorem allE_ok {l : List Stp} {q : Rat} (h : allE l q = 0) : curveK l = 0 ∧ 0 ≤ q ∧ q ≤ (sumK l : Rat) := by
  unfold allE at h
  split at h
  · contradiction
  · split at h
    · cases h
    · rename_i h1 h2
      refine ⟨by simpa using h1, ?_, ?_⟩
      · by_cases h4 : q < 0
        · exact absurd (.inl h4) h2
        · grind
      · by_cases h4 : (sumK l : Rat) < q
        · exact absurd (.inr h4) h2
        · grind
def env22 : Env := fun g => match g with | 12 => some ctAlloc | 60 => some ctFromQ | 64 => some ctMulQ | 63 => some ctAddQ | _ => none
theorem env22_ok : EnvOk Tryz.prog env22 := by
  intro g ct h
  simp only [env22] at h
  split at h <;> first | (cases h; exact ok12) | (cases h; exact ok60) | (cases h; exact ok64) | (cases h; exact ok63) | cases h
def ctCost : Ct := fun l => match l with
  | [.lst .stp l, a] => match qA a with
    | some (q, s) => some (l.length ≤ 1099511627776 ∧ s ≤ 1000, .tup (.tc (.q (costK l q) true 21000) (.tc (vi (allE l q)) .tn)))
    | none => none
  | _ => none
def ctCostG : Ct := fun l => match l with
  | [.lst .stp l, a] => match qA a with
    | some (q, s) => some (l.length ≤ 1099511627776 ∧ s ≤ 4194304, .tup (.tc (.q (costK l q) true (20 * s + 1000)) (.tc (vi (allE l q)) .tn)))
    | none => none
  | _ => none
theorem ok13G : Sound Tryz.prog 13 ctCostG := by
  refine sound_of (fn := Tryz.f13) rfl rfl rfl tiOk env22_ok mix ?_ (by intro l p r h; unfold ctCostG at h; split at h <;> first | cases h | (split at h <;> cases h; exact Nat.le_of_ble_eq_true rfl))
  intro l p r h hp F vs hv
  unfold ctCostG at h
  split at h
  rotate_left
  · cases h
  split at h <;> cases h
  rename_i l az _ q s ha
  obtain ⟨v0, r0, rfl, a0, v1, r1, rfl, a1, hv⟩ := hv
  replace a1 := qA_q ha a1
  refine ⟨[_, _], ⟨_, _, rfl, a0, _, _, rfl, a1, hv⟩, ?_⟩
  show Run Tryz.prog ti env22 41 (finR ti [.cell 4 27, .tmp 5] _) _ _ _
  repeat' (first | with_reducible refine run_seq ?_ | with_reducible refine run_block ?_ | with_reducible refine step_code ?_ | with_reducible refine step_blk ?_ | with_reducible refine run_skip ?_ | with_reducible refine run_exit ?_ | with_reducible refine exits_code ?_ | with_reducible refine exits_here ?_ | with_reducible refine exits_blk rfl ?_ | with_reducible refine exits_lp ?_ | with_reducible refine run_ret ?_ | ((first | with_reducible refine run_region ?_ | with_reducible refine run_draw (by kernel_rfl) ?_); simp only [↓guardP_tt, ↓guardP_tf, ↓guardP_ft, ↓guardP_ff, guardP_t, guardP_f, evalQ, evalR, effQ, effR, skipS, opEff, evO, plainV, lkS, lkM, updL, putS, tie_sz, tie_zero, tie_zeroB, tie_fld, tie_ek, tie_int, tie_isb, tie_eq2, tie_f1, tie_ms,  ti_f1, ti_ms, ti_sz, ti_zero, ti_zeroB, ti_fld, ti_ek, ti_int, ti_isb, ti_eq2, binA, binI, intOp, funOf_v, cloOf_v, calIds, appEff, frE, foldB, foldS, castL_self, K.enc, K.dec, K.zero, K.es, K.bytes, AV.part, AV.setPart, AV.cells, AV.agg, AV.nth, Bool.false_eq_true, callEff, pubs, pub, nilAV, MM.upd, MM.set, argS, gdst, opIds, lids, AV.ids, List.getD_cons_succ, List.getD_cons_zero, List.map, List.tail, List.headD, List.nil_append, List.append_nil, List.cons_append, List.length_nil, List.length_cons, List.zip_cons_cons, List.zip_nil_right, List.set_cons_zero, List.set_cons_succ, List.replicate, Option.isSome_some, Option.map_some, Bool.not_true, Bool.not_false, forall_const, false_implies, Nat.reduceAdd, Nat.reduceEqDiff, Nat.reduceLT, Nat.reduceSub, Nat.reduceMul, Nat.reduceLeDiff, ↓reduceIte, and_true, true_and, and_self, false_and, and_false, reduceCtorEq, env22, ctAlloc, ctFromQ, ctMulQ, ctAddQ, ctQ2, qA]) | (with_reducible refine run_cond (by with_unfolding_all exact rfl) ?_ ?_ <;> intro hc <;> (try simp only [vb, decide_eq_true_eq, decide_eq_false_iff_not, beq_iff_eq, beq_eq_false_iff_ne, bne_iff_ne, bne_eq_false_iff_eq, Bool.not_eq_true', Bool.not_eq_false', reduceCtorEq] at hc) <;> (try (first | simp (disch := omega) only [wrap64, wrapu64, wrapu32, sh32, fdiv32, Int.tdiv_eq_ediv_of_nonneg, Int.tmod_eq_emod_of_nonneg, tn_add, tn_add1, Int.toNat_natCast, Int.toNat_zero, List.drop_zero] at hc | simp only [wrapu64m, wrapu32m] at hc))) | ((with_reducible refine compat_ok ?_); kernel_rfl) | with_reducible apply And.intro | (first | simp (disch := omega) only [wrap64, wrapu64, wrapu32, sh32, fdiv32, Int.tdiv_eq_ediv_of_nonneg, Int.tmod_eq_emod_of_nonneg, tn_add, tn_add1, Int.toNat_natCast, Int.toNat_zero, List.drop_zero] | simp only [wrapu64m, wrapu32m]) | (with_reducible intro hg; (try simp only [vb, decide_eq_true_eq, decide_eq_false_iff_not, beq_iff_eq, beq_eq_false_iff_ne, bne_iff_ne, bne_eq_false_iff_eq, Bool.not_eq_true', Bool.not_eq_false', reduceCtorEq] at hg); (try (first | simp (disch := omega) only [wrap64, wrapu64, wrapu32, sh32, fdiv32, Int.tdiv_eq_ediv_of_nonneg, Int.tmod_eq_emod_of_nonneg, tn_add, tn_add1, Int.toNat_natCast, Int.toNat_zero, List.drop_zero] at hg | simp only [wrapu64m, wrapu32m] at hg))))
  all_goals try omega
  · have hz : qval 0 0 = 0 := qval_zero
    simp only [finR, resAs, resA, resLe, lsLe, lkS, lkM, pubs, pub, tie_sz, ti_sz, tie_ek, ti_ek,  nilAV, MM.upd, MM.set, AV.part, AV.cells, AV.agg, List.tail, List.headD, Nat.reduceAdd, Nat.reduceEqDiff, Nat.reduceLT, ↓reduceIte, and_true, true_and, and_self, reduceCtorEq]
    exact ⟨AVle_q (by omega) (by omega) (by rw [costK, if_neg hc, hz]) (fun _ => ⟨rfl, rfl, .inl rfl⟩), AVle.rfl⟩
  have he := hc
  obtain ⟨hcv, _, _⟩ := allE_ok he
  obtain ⟨h0, h3, hok⟩ := curveK_ok hcv
  have er : alR l q s = alK l q s := by rw [alR, if_pos hc]
  have hal : (alK l q s).length = l.length := by simp [alK]
  simp only [er, hal]
  refine run_loop (ι := Nat) (fun i => ⟨[(24, vi i), (23, vi l.length), (22, .lst .q (alK l q s)), (8, .ptr 14 0), (0, .lst .stp l), (4, .ptr 1 0)], [(14, some (.box 27 (.q (costAt l q i) true (csAt s i)))), (1, some (.box 27 (.pair (.z 0 true 0) (.z 0 true 0))))], 15⟩)
    (fun i => i ≤ l.length) (fun i => l.length - i) 0 (Nat.zero_le _) ?_ ?_
  · (refine AS.le_of ?_ ?_ <;> simp only [slLe, memLe, entLe, lkS, lkM, Nat.reduceEqDiff, Nat.reduceLT, or_true, true_or, reduceCtorEq, ↓reduceIte, and_true, true_and] <;> (repeat' with_reducible apply And.intro) <;> (try (first | ((with_reducible refine AV.le_refl ?_); rfl) | with_reducible exact AV.le_junk | with_reducible exact AV.le_nil | ((with_reducible refine AV.le_int ?_); omega) | (with_reducible refine AV.le_int ?_) | (with_reducible refine AV.le_bool ?_) | ((with_reducible refine AV.le_lst ?_); try rfl) | (with_reducible refine AV.le_q ?_ ?_ ?_) | exact fun _ _ h => h | (with_reducible refine RC_qle ?_ ?_ ?_))))
    all_goals first | rfl | exact fun _ => rfl | exact Nat.le_refl _
  intro i hi
  have hg2 := fun h => okS_get (i := i) hok h
  have hsz := sAt_le (s := s) (i := i) (by omega)
  have hcz := csAt_le (s := s) (i := i) (by omega)
  have hga : i < l.length → (alK l q s).getD i ⟨0, true, 0⟩ = ⟨outAt l q i, true, max (sAt s i) 2 + 4⟩ := by
    intro h
    simp [alK, List.getD_eq_getElem?_getD, h]
  repeat' (first | with_reducible refine run_seq ?_ | with_reducible refine run_block ?_ | with_reducible refine step_code ?_ | with_reducible refine step_blk ?_ | with_reducible refine run_skip ?_ | with_reducible refine run_exit ?_ | with_reducible refine exits_code ?_ | with_reducible refine exits_here ?_ | with_reducible refine exits_blk rfl ?_ | with_reducible refine exits_lp ?_ | with_reducible refine run_ret ?_ | ((first | with_reducible refine run_region ?_ | with_reducible refine run_draw (by kernel_rfl) ?_); simp only [↓guardP_tt, ↓guardP_tf, ↓guardP_ft, ↓guardP_ff, guardP_t, guardP_f, evalQ, evalR, effQ, effR, skipS, opEff, evO, plainV, lkS, lkM, updL, putS, tie_sz, tie_zero, tie_zeroB, tie_fld, tie_ek, tie_int, tie_isb, tie_eq2, tie_f1, tie_ms,  ti_f1, ti_ms, ti_sz, ti_zero, ti_zeroB, ti_fld, ti_ek, ti_int, ti_isb, ti_eq2, binA, binI, intOp, funOf_v, cloOf_v, calIds, appEff, frE, foldB, foldS, castL_self, K.enc, K.dec, K.zero, K.es, K.bytes, AV.part, AV.setPart, AV.cells, AV.agg, AV.nth, Bool.false_eq_true, callEff, pubs, pub, nilAV, MM.upd, MM.set, argS, gdst, opIds, lids, AV.ids, List.getD_cons_succ, List.getD_cons_zero, List.map, List.tail, List.headD, List.nil_append, List.append_nil, List.cons_append, List.length_nil, List.length_cons, List.zip_cons_cons, List.zip_nil_right, List.set_cons_zero, List.set_cons_succ, List.replicate, Option.isSome_some, Option.map_some, Bool.not_true, Bool.not_false, forall_const, false_implies, Nat.reduceAdd, Nat.reduceEqDiff, Nat.reduceLT, Nat.reduceSub, Nat.reduceMul, Nat.reduceLeDiff, ↓reduceIte, and_true, true_and, and_self, false_and, and_false, reduceCtorEq, env22, ctAlloc, ctFromQ, ctMulQ, ctAddQ, ctQ2, qA]) | (with_reducible refine run_cond (by with_unfolding_all exact rfl) ?_ ?_ <;> intro hc <;> (try simp only [vb, decide_eq_true_eq, decide_eq_false_iff_not, beq_iff_eq, beq_eq_false_iff_ne, bne_iff_ne, bne_eq_false_iff_eq, Bool.not_eq_true', Bool.not_eq_false', reduceCtorEq] at hc) <;> (try (first | simp (disch := omega) only [wrap64, wrapu64, wrapu32, sh32, fdiv32, Int.tdiv_eq_ediv_of_nonneg, Int.tmod_eq_emod_of_nonneg, tn_add, tn_add1, Int.toNat_natCast, Int.toNat_zero, List.drop_zero] at hc | simp only [wrapu64m, wrapu32m] at hc))) | ((with_reducible refine compat_ok ?_); kernel_rfl) | with_reducible apply And.intro | (first | simp (disch := omega) only [wrap64, wrapu64, wrapu32, sh32, fdiv32, Int.tdiv_eq_ediv_of_nonneg, Int.tmod_eq_emod_of_nonneg, tn_add, tn_add1, Int.toNat_natCast, Int.toNat_zero, List.drop_zero] | simp only [wrapu64m, wrapu32m]) | (with_reducible intro hg; (try simp only [vb, decide_eq_true_eq, decide_eq_false_iff_not, beq_iff_eq, beq_eq_false_iff_ne, bne_iff_ne, bne_eq_false_iff_eq, Bool.not_eq_true', Bool.not_eq_false', reduceCtorEq] at hg); (try (first | simp (disch := omega) only [wrap64, wrapu64, wrapu32, sh32, fdiv32, Int.tdiv_eq_ediv_of_nonneg, Int.tmod_eq_emod_of_nonneg, tn_add, tn_add1, Int.toNat_natCast, Int.toNat_zero, List.drop_zero] at hg | simp only [wrapu64m, wrapu32m] at hg))))
  all_goals try omega
  all_goals try (rw [hga (by omega)]; simp only; omega)
  · rw [hga (by omega)]
    refine step_lp ⟨i + 1, by omega, by omega, ?_⟩
    (refine AS.le_of ?_ ?_ <;> simp only [slLe, memLe, entLe, lkS, lkM, Nat.reduceEqDiff, Nat.reduceLT, or_true, true_or, reduceCtorEq, ↓reduceIte, and_true, true_and] <;> (repeat' with_reducible apply And.intro) <;> (try (first | ((with_reducible refine AV.le_refl ?_); rfl) | with_reducible exact AV.le_junk | with_reducible exact AV.le_nil | ((with_reducible refine AV.le_int ?_); omega) | (with_reducible refine AV.le_int ?_) | (with_reducible refine AV.le_bool ?_) | ((with_reducible refine AV.le_lst ?_); try rfl) | (with_reducible refine AV.le_q ?_ ?_ ?_) | exact fun _ _ h => h | (with_reducible refine RC_qle ?_ ?_ ?_))))
    all_goals first | rfl | exact fun _ => rfl | exact Nat.le_refl _
  · have hi2 : i = l.length := by omega
    subst hi2
    simp only [finR, resAs, resA, resLe, lsLe, lkS, lkM, pubs, pub, tie_sz, ti_sz, tie_ek, ti_ek,  nilAV, MM.upd, MM.set, AV.part, AV.cells, AV.agg, List.tail, List.headD, Nat.reduceAdd, Nat.reduceEqDiff, Nat.reduceLT, ↓reduceIte, and_true, true_and, and_self, reduceCtorEq]
    exact ⟨AVle_qq (by rw [costK, if_pos he]) (by omega) (fun h => h), AVle_int he.symm⟩
theorem ok13 : Sound Tryz.prog 13 ctCost := by
  refine ⟨ok13G.1, ?_⟩
  intro al p r h hp w F args hF hv
  unfold ctCost at h
  split at h
  rotate_left
  · cases h
  split at h <;> cases h
  rename_i l az _ q s ha
  refine (ok13G.2 [.lst .stp l, az] (l.length ≤ 1099511627776 ∧ s ≤ 4194304) (.tup (.tc (.q (costK l q) true (20 * s + 1000)) (.tc (vi (allE l q)) .tn))) (by simp only [ctCostG, ha]) ⟨hp.1, by omega⟩ w F args hF hv).mono ?_
  rintro e w' ⟨F', v, h1, h2, h3, h4, h5, h6⟩
  obtain ⟨vs, e1, x, r, rfl, h7, h8⟩ := h6
  exact ⟨F', v, h1, h2, h3, h4, h5, _, e1, x, r, rfl, AVle_qq rfl (by omega) (fun h => h) F' x h7, h8⟩
end Go.AE
