/- The law StepEndpoints, as a contract: it returns true. -/
import Derived.Test.YtaeicclhopehaaaE4
namespace Go.AE
open Go.Proofs Go.RowKit
set_option linter.unusedVariables false
set_option linter.unusedSimpArgs false
set_option maxRecDepth 20000

theorem okS_pos {l : List Stp} (h : okS l) : ∀ s ∈ l, 0 < s.1 := fun s hs => by
  have := h s hs
  unfold badS at this
  omega
theorem curve_of {l : List Stp} (h : offK l = 0 ∨ bidK l = 0) : curveK l = 0 := by
  unfold curveK
  split
  · rfl
  · rcases h with h | h
    · exact h
    · contradiction
theorem costK_R {l : List Stp} {q : Rat} (hc : curveK l = 0) (h0 : 0 ≤ q) (h1 : q ≤ (sumL l : Rat)) : allE l q = 0 ∧ costK l q = costR l q := by
  have e : allE l q = 0 := by
    have hs : sumK l = sumL l := by rw [sumK, if_pos hc]
    rw [allE, if_neg (by simp [hc]), if_neg]
    rw [hs]
    rintro (h | h) <;> grind
  exact ⟨e, by rw [costK, if_pos e, costAt_R]⟩
def ctTrue1 : Ct := fun l => match l with
  | [.lst .stp l] => some (True, vb true)
  | _ => none
def costL (l : List Stp) : Int := (l.map fun s => s.1 * s.2).sum
theorem mul_bd {a b : Int} (h1 : 0 ≤ a) (h2 : a ≤ 1000000) (h3 : -1000000 ≤ b) (h4 : b ≤ 1000000) : -1000000000000 ≤ a * b ∧ a * b ≤ 1000000000000 := by
  have e1 : a * b ≤ 1000000 * 1000000 := by
    rcases Int.le_total 0 b with h | h
    · exact Int.mul_le_mul h2 h4 h (by omega)
    · exact Int.le_trans (Int.mul_nonpos_of_nonneg_of_nonpos h1 h) (by omega)
  have e2 : a * (-b) ≤ 1000000 * 1000000 := by
    rcases Int.le_total 0 (-b) with h | h
    · exact Int.mul_le_mul h2 (by omega) h (by omega)
    · exact Int.le_trans (Int.mul_nonpos_of_nonneg_of_nonpos h1 h) (by omega)
  rw [Int.mul_neg] at e2
  omega
theorem costL_bound {l : List Stp} (h : okS l) : -1000000000000 * l.length ≤ costL l ∧ costL l ≤ 1000000000000 * l.length := by
  induction l with
  | nil => simp [costL]
  | cons a r ih =>
    have h1 := h a (by simp)
    have h2 := ih (fun s hs => h s (by simp [hs]))
    unfold badS at h1
    simp only [costL, List.map_cons, List.sum_cons, List.length_cons] at h2 ⊢
    have h3 := mul_bd (a := a.1) (b := a.2) (by omega) (by omega) (by omega) (by omega)
    omega
def env50 : Env := fun g => match g with | 18 => some ctCurve18 | 19 => some ctAwake | 20 => some ctSum | 21 => some ctCosts | 22 => some ctIntR | _ => none
theorem env50_ok : EnvOk Try.prog env50 := by
  intro g ct h
  simp only [env50] at h
  split at h <;> first | (cases h; exact ok18) | (cases h; exact ok19) | (cases h; exact ok20) | (cases h; exact ok21) | (cases h; exact ok22) | cases h
theorem ok3 : Sound Try.prog 3 ctTrue1 := by
  refine sound_of (fn := Try.f3) rfl rfl rfl tiOk env50_ok mix ?_ (by intro l p r h; unfold ctTrue1 at h; split at h <;> cases h <;> exact Nat.le_of_ble_eq_true rfl)
  intro l p r h hp F vs hv
  unfold ctTrue1 at h
  split at h <;> cases h
  rename_i l
  obtain ⟨v0, rest0, rfl, a0, hv⟩ := hv
  refine ⟨[_], ⟨_, _, rfl, a0, hv⟩, ?_⟩
  show Run Try.prog ti env50 63 (finR ti [.tmp 2] _) _ _ _
  repeat' (first | with_reducible refine run_seq ?_ | with_reducible refine run_block ?_ | with_reducible refine step_code ?_ | with_reducible refine step_blk ?_ | with_reducible refine run_skip ?_ | with_reducible refine run_exit ?_ | with_reducible refine exits_code ?_ | with_reducible refine exits_here ?_ | with_reducible refine exits_blk rfl ?_ | with_reducible refine exits_lp ?_ | with_reducible refine run_ret ?_ | (with_reducible refine run_region ?_; simp only [↓guardP_tt, ↓guardP_tf, ↓guardP_ft, ↓guardP_ff, guardP_t, guardP_f, evalQ, evalR, effQ, effR, skipS, opEff, evO, plainV, lkS, lkM, updL, putS, tie_sz, tie_zero, tie_zeroB, tie_fld, tie_ek, tie_int, tie_isb, tie_eq2, tie_f1, tie_ms, tie2_sz, tie2_zero, tie2_zeroB, tie2_fld, tie2_ek, tie2_int, tie2_isb, tie2_eq2, tie2_f1, tie2_ms, ti_ek2, ti_f1, ti_ms, ti_sz, ti_zero, ti_zeroB, ti_fld, ti_ek, ti_int, ti_isb, ti_eq2, binA, binI, intOp, appEff, foldB, foldS, castL_self, K.enc, K.dec, K.zero, K.es, K.bytes, AV.part, AV.setPart, AV.cells, AV.agg, AV.nth, Bool.false_eq_true, callEff, pubs, pub, nilAV, MM.upd, MM.set, argS, gdst, opIds, lids, AV.ids, List.getD_cons_succ, List.getD_cons_zero, List.map, List.tail, List.headD, List.nil_append, List.append_nil, List.cons_append, List.length_nil, List.length_cons, List.zip_cons_cons, List.zip_nil_right, List.set_cons_zero, List.set_cons_succ, List.replicate, Option.isSome_some, Option.map_some, Bool.not_true, Bool.not_false, forall_const, false_implies, Nat.reduceAdd, Nat.reduceEqDiff, Nat.reduceLT, Nat.reduceSub, Nat.reduceMul, Nat.reduceLeDiff, ↓reduceIte, and_true, true_and, and_self, false_and, and_false, reduceCtorEq, env50, ctCurve18, ctAwake]) | (with_reducible refine run_draw (by kernel_rfl) ?_; simp only [↓guardP_tt, ↓guardP_tf, ↓guardP_ft, ↓guardP_ff, guardP_t, guardP_f, evalQ, evalR, effQ, effR, skipS, opEff, evO, plainV, lkS, lkM, updL, putS, tie_sz, tie_zero, tie_zeroB, tie_fld, tie_ek, tie_int, tie_isb, tie_eq2, tie_f1, tie_ms, tie2_sz, tie2_zero, tie2_zeroB, tie2_fld, tie2_ek, tie2_int, tie2_isb, tie2_eq2, tie2_f1, tie2_ms, ti_ek2, ti_f1, ti_ms, ti_sz, ti_zero, ti_zeroB, ti_fld, ti_ek, ti_int, ti_isb, ti_eq2, binA, binI, intOp, appEff, foldB, foldS, castL_self, K.enc, K.dec, K.zero, K.es, K.bytes, AV.part, AV.setPart, AV.cells, AV.agg, AV.nth, Bool.false_eq_true, callEff, pubs, pub, nilAV, MM.upd, MM.set, argS, gdst, opIds, lids, AV.ids, List.getD_cons_succ, List.getD_cons_zero, List.map, List.tail, List.headD, List.nil_append, List.append_nil, List.cons_append, List.length_nil, List.length_cons, List.zip_cons_cons, List.zip_nil_right, List.set_cons_zero, List.set_cons_succ, List.replicate, Option.isSome_some, Option.map_some, Bool.not_true, Bool.not_false, forall_const, false_implies, Nat.reduceAdd, Nat.reduceEqDiff, Nat.reduceLT, Nat.reduceSub, Nat.reduceMul, Nat.reduceLeDiff, ↓reduceIte, and_true, true_and, and_self, false_and, and_false, reduceCtorEq, env50, ctCurve18, ctAwake]) | (with_reducible refine run_cond (by with_unfolding_all exact rfl) ?_ ?_ <;> intro hc <;> (try simp only [vb, decide_eq_true_eq, decide_eq_false_iff_not, beq_iff_eq, beq_eq_false_iff_ne, bne_iff_ne, bne_eq_false_iff_eq, Bool.not_eq_true', Bool.not_eq_false', reduceCtorEq] at hc) <;> (try (first | simp (disch := omega) only [wrap64, wrapu64, wrapu32, sh32, fdiv32, Int.tdiv_eq_ediv_of_nonneg, Int.tmod_eq_emod_of_nonneg, tn_add, tn_add1, Int.toNat_natCast, Int.toNat_zero, List.drop_zero] at hc | simp only [wrapu64m, wrapu32m] at hc))) | ((with_reducible refine compat_ok ?_); kernel_rfl) | with_reducible apply And.intro | (first | simp (disch := omega) only [wrap64, wrapu64, wrapu32, sh32, fdiv32, Int.tdiv_eq_ediv_of_nonneg, Int.tmod_eq_emod_of_nonneg, tn_add, tn_add1, Int.toNat_natCast, Int.toNat_zero, List.drop_zero] | simp only [wrapu64m, wrapu32m]) | (with_reducible intro hg; (try simp only [vb, decide_eq_true_eq, decide_eq_false_iff_not, beq_iff_eq, beq_eq_false_iff_ne, bne_iff_ne, bne_eq_false_iff_eq, Bool.not_eq_true', Bool.not_eq_false', reduceCtorEq] at hg); (try (first | simp (disch := omega) only [wrap64, wrapu64, wrapu32, sh32, fdiv32, Int.tdiv_eq_ediv_of_nonneg, Int.tmod_eq_emod_of_nonneg, tn_add, tn_add1, Int.toNat_natCast, Int.toNat_zero, List.drop_zero] at hg | simp only [wrapu64m, wrapu32m] at hg))))
  all_goals try omega
  rotate_left
  · simp only [finR, resAs, resA, resLe, lsLe, lkS, lkM, pubs, pub, tie_sz, ti_sz, tie_ek, ti_ek, tie2_sz, tie2_ek, ti_ek2, nilAV, MM.upd, MM.set, AV.part, AV.cells, AV.agg, List.tail, List.headD, Nat.reduceAdd, Nat.reduceEqDiff, Nat.reduceLT, ↓reduceIte, and_true, true_and, and_self, reduceCtorEq]
    exact AVle.rfl
  · simp only [finR, resAs, resA, resLe, lsLe, lkS, lkM, pubs, pub, tie_sz, ti_sz, tie_ek, ti_ek, tie2_sz, tie2_ek, ti_ek2, nilAV, MM.upd, MM.set, AV.part, AV.cells, AV.agg, List.tail, List.headD, Nat.reduceAdd, Nat.reduceEqDiff, Nat.reduceLT, ↓reduceIte, and_true, true_and, and_self, reduceCtorEq]
    exact AVle.rfl
  rename_i hl
  have hcv := curve_of hg
  obtain ⟨h0, h3, hok⟩ := curveK_ok hcv
  refine run_loop (ι := Nat) (fun i => ⟨[(5, vi i), (4, vi (costL (l.take i))), (3, vi (sumL (l.take i))), (0, .lst .stp l)], [], 16⟩) (fun i => i ≤ l.length) (fun i => l.length - i) 0 (Nat.zero_le _) ?_ ?_
  · (refine AS.le_of ?_ ?_ <;> simp only [slLe, memLe, entLe, lkS, lkM, Nat.reduceEqDiff, Nat.reduceLT, or_true, true_or, reduceCtorEq, ↓reduceIte, and_true, true_and] <;> (repeat' with_reducible apply And.intro) <;> (try (first | ((with_reducible refine AV.le_refl ?_); rfl) | with_reducible exact AV.le_junk | with_reducible exact AV.le_nil | ((with_reducible refine AV.le_int ?_); omega) | (with_reducible refine AV.le_int ?_) | (with_reducible refine AV.le_bool ?_) | ((with_reducible refine AV.le_lst ?_); try rfl) | (with_reducible refine AV.le_q ?_ ?_ ?_) | exact fun _ _ h => h | (with_reducible refine RC_qle ?_ ?_ ?_))))
    all_goals rfl
  intro i hi
  have hg2 := fun h => okS_get (i := i) hok h
  have hb := sumL_bound (okS_take hok i)
  have hb2 := costL_bound (okS_take hok i)
  have hlt := List.length_take_le i l
  have hct := fun h => sum_take (fun s : Stp => s.1 * s.2) (0, 0) (l := l) (i := i) h
  change i < l.length → costL (l.take (i + 1)) = costL (l.take i) + _ at hct
  have hmul : i < l.length → -1000000000000 ≤ (l.getD i (0, 0)).1 * (l.getD i (0, 0)).2 ∧ (l.getD i (0, 0)).1 * (l.getD i (0, 0)).2 ≤ 1000000000000 := by
    intro h
    obtain ⟨a1, a2, a3, a4⟩ := hg2 h
    exact mul_bd (by omega) a2 a3 a4
  have hsk : sumK l = sumL l := by rw [sumK, if_pos hcv]
  have hpos := okS_pos hok
  have hsn := sumL_nonneg hpos
  by_cases hlt2 : i < l.length
  · have hm2 := hmul hlt2
    have hg3 := hg2 hlt2
    have hct2 := hct hlt2
    have hst := sumL_take hlt2
    generalize hm : (l.getD i (0, 0)).1 * (l.getD i (0, 0)).2 = m at *
    repeat' (first | with_reducible refine run_seq ?_ | with_reducible refine run_block ?_ | with_reducible refine step_code ?_ | with_reducible refine step_blk ?_ | with_reducible refine run_skip ?_ | with_reducible refine run_exit ?_ | with_reducible refine exits_code ?_ | with_reducible refine exits_here ?_ | with_reducible refine exits_blk rfl ?_ | with_reducible refine exits_lp ?_ | with_reducible refine run_ret ?_ | (with_reducible refine run_region ?_; simp only [↓guardP_tt, ↓guardP_tf, ↓guardP_ft, ↓guardP_ff, guardP_t, guardP_f, evalQ, evalR, effQ, effR, skipS, opEff, evO, plainV, lkS, lkM, updL, putS, tie_sz, tie_zero, tie_zeroB, tie_fld, tie_ek, tie_int, tie_isb, tie_eq2, tie_f1, tie_ms, tie2_sz, tie2_zero, tie2_zeroB, tie2_fld, tie2_ek, tie2_int, tie2_isb, tie2_eq2, tie2_f1, tie2_ms, ti_ek2, ti_f1, ti_ms, ti_sz, ti_zero, ti_zeroB, ti_fld, ti_ek, ti_int, ti_isb, ti_eq2, binA, binI, intOp, appEff, foldB, foldS, castL_self, K.enc, K.dec, K.zero, K.es, K.bytes, AV.part, AV.setPart, AV.cells, AV.agg, AV.nth, Bool.false_eq_true, callEff, pubs, pub, nilAV, MM.upd, MM.set, argS, gdst, opIds, lids, AV.ids, List.getD_cons_succ, List.getD_cons_zero, List.map, List.tail, List.headD, List.nil_append, List.append_nil, List.cons_append, List.length_nil, List.length_cons, List.zip_cons_cons, List.zip_nil_right, List.set_cons_zero, List.set_cons_succ, List.replicate, Option.isSome_some, Option.map_some, Bool.not_true, Bool.not_false, forall_const, false_implies, Nat.reduceAdd, Nat.reduceEqDiff, Nat.reduceLT, Nat.reduceSub, Nat.reduceMul, Nat.reduceLeDiff, ↓reduceIte, and_true, true_and, and_self, false_and, and_false, reduceCtorEq, env50, ctCurve18, ctAwake, hm, Int.toNat_natCast]) | (with_reducible refine run_draw (by kernel_rfl) ?_; simp only [↓guardP_tt, ↓guardP_tf, ↓guardP_ft, ↓guardP_ff, guardP_t, guardP_f, evalQ, evalR, effQ, effR, skipS, opEff, evO, plainV, lkS, lkM, updL, putS, tie_sz, tie_zero, tie_zeroB, tie_fld, tie_ek, tie_int, tie_isb, tie_eq2, tie_f1, tie_ms, tie2_sz, tie2_zero, tie2_zeroB, tie2_fld, tie2_ek, tie2_int, tie2_isb, tie2_eq2, tie2_f1, tie2_ms, ti_ek2, ti_f1, ti_ms, ti_sz, ti_zero, ti_zeroB, ti_fld, ti_ek, ti_int, ti_isb, ti_eq2, binA, binI, intOp, appEff, foldB, foldS, castL_self, K.enc, K.dec, K.zero, K.es, K.bytes, AV.part, AV.setPart, AV.cells, AV.agg, AV.nth, Bool.false_eq_true, callEff, pubs, pub, nilAV, MM.upd, MM.set, argS, gdst, opIds, lids, AV.ids, List.getD_cons_succ, List.getD_cons_zero, List.map, List.tail, List.headD, List.nil_append, List.append_nil, List.cons_append, List.length_nil, List.length_cons, List.zip_cons_cons, List.zip_nil_right, List.set_cons_zero, List.set_cons_succ, List.replicate, Option.isSome_some, Option.map_some, Bool.not_true, Bool.not_false, forall_const, false_implies, Nat.reduceAdd, Nat.reduceEqDiff, Nat.reduceLT, Nat.reduceSub, Nat.reduceMul, Nat.reduceLeDiff, ↓reduceIte, and_true, true_and, and_self, false_and, and_false, reduceCtorEq, env50, ctCurve18, ctAwake, hm, Int.toNat_natCast]) | (with_reducible refine run_cond (by with_unfolding_all exact rfl) ?_ ?_ <;> intro hc <;> (try simp only [vb, decide_eq_true_eq, decide_eq_false_iff_not, beq_iff_eq, beq_eq_false_iff_ne, bne_iff_ne, bne_eq_false_iff_eq, Bool.not_eq_true', Bool.not_eq_false', reduceCtorEq] at hc) <;> (try (first | simp (disch := omega) only [wrap64, wrapu64, wrapu32, sh32, fdiv32, Int.tdiv_eq_ediv_of_nonneg, Int.tmod_eq_emod_of_nonneg, tn_add, tn_add1, Int.toNat_natCast, Int.toNat_zero, List.drop_zero] at hc | simp only [wrapu64m, wrapu32m] at hc))) | ((with_reducible refine compat_ok ?_); kernel_rfl) | with_reducible apply And.intro | (first | simp (disch := omega) only [wrap64, wrapu64, wrapu32, sh32, fdiv32, Int.tdiv_eq_ediv_of_nonneg, Int.tmod_eq_emod_of_nonneg, tn_add, tn_add1, Int.toNat_natCast, Int.toNat_zero, List.drop_zero] | simp only [wrapu64m, wrapu32m]) | (with_reducible intro hg; (try simp only [vb, decide_eq_true_eq, decide_eq_false_iff_not, beq_iff_eq, beq_eq_false_iff_ne, bne_iff_ne, bne_eq_false_iff_eq, Bool.not_eq_true', Bool.not_eq_false', reduceCtorEq] at hg); (try (first | simp (disch := omega) only [wrap64, wrapu64, wrapu32, sh32, fdiv32, Int.tdiv_eq_ediv_of_nonneg, Int.tmod_eq_emod_of_nonneg, tn_add, tn_add1, Int.toNat_natCast, Int.toNat_zero, List.drop_zero] at hg | simp only [wrapu64m, wrapu32m] at hg))))
    all_goals try omega
    refine step_lp ⟨i + 1, by omega, by omega, ?_⟩
    rw [hct2, hst]
    (refine AS.le_of ?_ ?_ <;> simp only [slLe, memLe, entLe, lkS, lkM, Nat.reduceEqDiff, Nat.reduceLT, or_true, true_or, reduceCtorEq, ↓reduceIte, and_true, true_and] <;> (repeat' with_reducible apply And.intro) <;> (try (first | ((with_reducible refine AV.le_refl ?_); rfl) | with_reducible exact AV.le_junk | with_reducible exact AV.le_nil | ((with_reducible refine AV.le_int ?_); omega) | (with_reducible refine AV.le_int ?_) | (with_reducible refine AV.le_bool ?_) | ((with_reducible refine AV.le_lst ?_); try rfl) | (with_reducible refine AV.le_q ?_ ?_ ?_) | exact fun _ _ h => h | (with_reducible refine RC_qle ?_ ?_ ?_))))
  · have hi2 : i = l.length := by omega
    subst hi2
    obtain ⟨z1, z2⟩ := costK_R hcv (q := 0) (by decide) (by exact_mod_cast rcast_le.2 hsn)
    rw [costR_zero hpos] at z2
    obtain ⟨y1, y2⟩ := costK_R hcv (q := (sumL l : Rat)) (by exact_mod_cast rcast_le.2 hsn) (by grind)
    rw [costR_sum hpos] at y2
    change costK l _ = ((costL l : Int) : Rat) at y2
    have hz : qval 0 0 = 0 := qval_zero
    have hb3 := sumL_bound hok
    have hb4 := costL_bound hok
    simp only [List.take_length]
    repeat' (first | with_reducible refine run_seq ?_ | with_reducible refine run_block ?_ | with_reducible refine step_code ?_ | with_reducible refine step_blk ?_ | with_reducible refine run_skip ?_ | with_reducible refine run_exit ?_ | with_reducible refine exits_code ?_ | with_reducible refine exits_here ?_ | with_reducible refine exits_blk rfl ?_ | with_reducible refine exits_lp ?_ | with_reducible refine run_ret ?_ | (with_reducible refine run_region ?_; simp only [↓guardP_tt, ↓guardP_tf, ↓guardP_ft, ↓guardP_ff, guardP_t, guardP_f, evalQ, evalR, effQ, effR, skipS, opEff, evO, plainV, lkS, lkM, updL, putS, tie_sz, tie_zero, tie_zeroB, tie_fld, tie_ek, tie_int, tie_isb, tie_eq2, tie_f1, tie_ms, tie2_sz, tie2_zero, tie2_zeroB, tie2_fld, tie2_ek, tie2_int, tie2_isb, tie2_eq2, tie2_f1, tie2_ms, ti_ek2, ti_f1, ti_ms, ti_sz, ti_zero, ti_zeroB, ti_fld, ti_ek, ti_int, ti_isb, ti_eq2, binA, binI, intOp, appEff, foldB, foldS, castL_self, K.enc, K.dec, K.zero, K.es, K.bytes, AV.part, AV.setPart, AV.cells, AV.agg, AV.nth, Bool.false_eq_true, callEff, pubs, pub, nilAV, MM.upd, MM.set, argS, gdst, opIds, lids, AV.ids, List.getD_cons_succ, List.getD_cons_zero, List.map, List.tail, List.headD, List.nil_append, List.append_nil, List.cons_append, List.length_nil, List.length_cons, List.zip_cons_cons, List.zip_nil_right, List.set_cons_zero, List.set_cons_succ, List.replicate, Option.isSome_some, Option.map_some, Bool.not_true, Bool.not_false, forall_const, false_implies, Nat.reduceAdd, Nat.reduceEqDiff, Nat.reduceLT, Nat.reduceSub, Nat.reduceMul, Nat.reduceLeDiff, ↓reduceIte, and_true, true_and, and_self, false_and, and_false, reduceCtorEq, env50, ctSum, ctCosts, ctIntR, qA, qC, hsk, z1, z2, y1, y2, hz, beq_self_eq_true, decide_true, Rat.intCast_zero]) | (with_reducible refine run_draw (by kernel_rfl) ?_; simp only [↓guardP_tt, ↓guardP_tf, ↓guardP_ft, ↓guardP_ff, guardP_t, guardP_f, evalQ, evalR, effQ, effR, skipS, opEff, evO, plainV, lkS, lkM, updL, putS, tie_sz, tie_zero, tie_zeroB, tie_fld, tie_ek, tie_int, tie_isb, tie_eq2, tie_f1, tie_ms, tie2_sz, tie2_zero, tie2_zeroB, tie2_fld, tie2_ek, tie2_int, tie2_isb, tie2_eq2, tie2_f1, tie2_ms, ti_ek2, ti_f1, ti_ms, ti_sz, ti_zero, ti_zeroB, ti_fld, ti_ek, ti_int, ti_isb, ti_eq2, binA, binI, intOp, appEff, foldB, foldS, castL_self, K.enc, K.dec, K.zero, K.es, K.bytes, AV.part, AV.setPart, AV.cells, AV.agg, AV.nth, Bool.false_eq_true, callEff, pubs, pub, nilAV, MM.upd, MM.set, argS, gdst, opIds, lids, AV.ids, List.getD_cons_succ, List.getD_cons_zero, List.map, List.tail, List.headD, List.nil_append, List.append_nil, List.cons_append, List.length_nil, List.length_cons, List.zip_cons_cons, List.zip_nil_right, List.set_cons_zero, List.set_cons_succ, List.replicate, Option.isSome_some, Option.map_some, Bool.not_true, Bool.not_false, forall_const, false_implies, Nat.reduceAdd, Nat.reduceEqDiff, Nat.reduceLT, Nat.reduceSub, Nat.reduceMul, Nat.reduceLeDiff, ↓reduceIte, and_true, true_and, and_self, false_and, and_false, reduceCtorEq, env50, ctSum, ctCosts, ctIntR, qA, qC, hsk, z1, z2, y1, y2, hz, beq_self_eq_true, decide_true, Rat.intCast_zero]) | (with_reducible refine run_cond (by with_unfolding_all exact rfl) ?_ ?_ <;> intro hc <;> (try simp only [vb, decide_eq_true_eq, decide_eq_false_iff_not, beq_iff_eq, beq_eq_false_iff_ne, bne_iff_ne, bne_eq_false_iff_eq, Bool.not_eq_true', Bool.not_eq_false', reduceCtorEq] at hc) <;> (try (first | simp (disch := omega) only [wrap64, wrapu64, wrapu32, sh32, fdiv32, Int.tdiv_eq_ediv_of_nonneg, Int.tmod_eq_emod_of_nonneg, tn_add, tn_add1, Int.toNat_natCast, Int.toNat_zero, List.drop_zero] at hc | simp only [wrapu64m, wrapu32m] at hc))) | ((with_reducible refine compat_ok ?_); kernel_rfl) | with_reducible apply And.intro | (first | simp (disch := omega) only [wrap64, wrapu64, wrapu32, sh32, fdiv32, Int.tdiv_eq_ediv_of_nonneg, Int.tmod_eq_emod_of_nonneg, tn_add, tn_add1, Int.toNat_natCast, Int.toNat_zero, List.drop_zero] | simp only [wrapu64m, wrapu32m]) | (with_reducible intro hg; (try simp only [vb, decide_eq_true_eq, decide_eq_false_iff_not, beq_iff_eq, beq_eq_false_iff_ne, bne_iff_ne, bne_eq_false_iff_eq, Bool.not_eq_true', Bool.not_eq_false', reduceCtorEq] at hg); (try (first | simp (disch := omega) only [wrap64, wrapu64, wrapu32, sh32, fdiv32, Int.tdiv_eq_ediv_of_nonneg, Int.tmod_eq_emod_of_nonneg, tn_add, tn_add1, Int.toNat_natCast, Int.toNat_zero, List.drop_zero] at hg | simp only [wrapu64m, wrapu32m] at hg))))
    all_goals try omega
    simp only [finR, resAs, resA, resLe, lsLe, lkS, lkM, pubs, pub, tie_sz, ti_sz, tie_ek, ti_ek, tie2_sz, tie2_ek, ti_ek2, nilAV, MM.upd, MM.set, AV.part, AV.cells, AV.agg, List.tail, List.headD, Nat.reduceAdd, Nat.reduceEqDiff, Nat.reduceLT, ↓reduceIte, and_true, true_and, and_self, reduceCtorEq]
    exact AVle.rfl
end Go.AE
