/- The law PathDynamicProgramming, as a contract: it returns true. -/
import Derived.Test.YtaeicclhopehaaaQL7
import Derived.Test.YtaeicclhopehaaaGj
namespace Go.AE
open Go.Proofs Go.RowKit
set_option linter.unusedVariables false
set_option linter.unusedSimpArgs false
set_option maxRecDepth 20000

abbrev onU (u : U) (s : Int) : U := ⟨u.bus, u.min, u.steps, u.up, u.down, u.start, u.idle, u.spin, s⟩
theorem may_on {u : U} (hm : mayU u) {s : Int} (hv : vS u s) : mayU (onU u s) := by
  have hud := okU_ud hm
  obtain ⟨h1, h2⟩ := mayU_ok hm
  unfold vS at hv
  unfold mayU checkU at hm ⊢
  have hk : okU (onU u s) := by
    unfold okU at h2 ⊢
    have : maxU (onU u s) = maxU u := rfl
    rw [this]
    simp only
    omega
  split at hm
  · cases hm
  · rename_i hb
    rw [if_neg hb, if_neg (by simp [h1]), if_pos hk]
theorem dyn {u : U} {l : List QV} {k : Nat} (hw : wrongP u l.length = 0) (hk : k ≤ l.length) (s : Int) (hs : s = stF u (initU u) ((bestR u l).take k)) :
    vS u s ∧ profE u (l.take k) ((bestR u l).take k) = 0 ∧ wrongP (onU u s) (l.drop k).length = 0 ∧ bestR (onU u s) (l.drop k) = (bestR u l).drop k ∧ bestP u l = profR u (l.take k) ((bestR u l).take k) + bestP (onU u s) (l.drop k) := by
  obtain ⟨hm, h8⟩ := wrong_may hw
  obtain ⟨b1, b2, b3, b4⟩ := best_own hw
  have d := best_dp hw
  have hv : vS u s := by rw [hs]; exact st_v hm k (initU_v hm).1 d.feas
  have hmv := may_on hm hv
  have hw1 : wrongP u (l.take k).length = 0 := wrong_ok hm (by rw [List.length_take]; omega)
  have hw2 : wrongP (onU u s) (l.drop k).length = 0 := wrong_ok hmv (by rw [List.length_drop]; omega)
  obtain ⟨p1, p2⟩ := prof_ok hw1 (row := (bestR u l).take k) (by rw [List.length_take, List.length_take, b4]) (feas_take k d.feas)
  obtain ⟨_, _, _, p3⟩ := prof_gain p1
  have hiv : initU (onU u s) = s := by
    have hud := okU_ud hm
    unfold vS at hv
    rw [initU, if_pos hmv]
    show heldU (onU u s) s = s
    unfold heldU
    simp only
    omega
  have hnk : ∀ t on, nextK (onU u s) t on = nextK u t on := by
    intro t on
    unfold nextK
    rw [next_same (u := u) (v := onU u s) rfl rfl]
    by_cases hc : t ≠ 0 ∧ -u.down ≤ t ∧ t ≤ u.up
    · rw [if_pos ⟨hmv, hc⟩, if_pos ⟨hm, hc⟩]
    · rw [if_neg (fun h => hc h.2), if_neg (fun h => hc h.2)]
  have hbf := W_same (u := u) (v := onU u s) rfl rfl rfl hnk
  have hhd : hrs (onU u s) (l.drop k) = (hrs u l).drop k := by
    unfold hrs
    rw [← List.map_drop]
    rfl
  have hht : hrs u (l.take k) = (hrs u l).take k := by
    unfold hrs
    rw [← List.map_take]
  have hX : bestX (onU u s) (l.drop k) = W u ((hrs u l).drop k) s := by
    unfold bestX W
    rw [hiv, hhd, hbf]
  have hr0 : bestR u l = (W u (hrs u l) (initU u)).2 := by rw [bestR, if_pos hw]; rfl
  have hp0 : bestP u l = (W u (hrs u l) (initU u)).1.x := by rw [bestP, if_pos hw]; rfl
  obtain ⟨i1, i2⟩ := dp_drop hm (hrs u l) (s := initU u) k (initU_v hm).1 (by simpa [hrs] using hk)
  rw [← hr0, ← hs] at i1 i2
  rw [← hp0] at i2
  refine ⟨hv, p1, hw2, ?_, ?_⟩
  · rw [bestR, if_pos hw2, hX, i1]
  · have e : bestP (onU u s) (l.drop k) = (W u ((hrs u l).drop k) s).1.x := by rw [bestP, if_pos hw2, hX]
    rw [p3, e, hht]
    exact i2
def env84 : Env := fun g => match g with | 36 => some ctLong27u | 37 => some ctAwake | 38 => some ctBest | 28 => some ctSignQ | 39 => some ctInit | 40 => some ctNext | 41 => some ctProfit | 42 => some ctSame26 | 33 => some ctAddQ | 27 => some ctEqQ | _ => none
theorem env84_ok : EnvOk Try.prog env84 := by
  intro g ct h
  simp only [env84] at h
  split at h <;> first | (cases h; exact ok36u) | (cases h; exact ok37) | (cases h; exact ok38) | (cases h; exact ok28) | (cases h; exact ok39) | (cases h; exact ok40) | (cases h; exact ok41) | (cases h; exact ok42) | (cases h; exact ok33) | (cases h; exact ok27) | cases h
def ctUqn : Ct := fun l => match l with
  | [a, .lst .qx l, .v (.int .u8 n)] => match uOf a with
    | some u => some (0 ≤ n ∧ n < 256, vb true)
    | none => none
  | _ => none
set_option maxHeartbeats 4000000 in
theorem ok7 : Sound Try.prog 7 ctUqn := by
  refine sound_of (fn := Try.f7) rfl rfl rfl tiOk env84_ok mix ?_ (by intro l p r h; unfold ctUqn at h; split at h <;> first | cases h | (split at h <;> cases h; exact Nat.le_of_ble_eq_true rfl))
  intro l p r h hp F vs hv
  unfold ctUqn at h
  split at h
  rotate_left
  · cases h
  split at h <;> cases h
  rename_i az l n _ u hu
  obtain rfl := uOf_eq hu
  have heta : (⟨u.bus, u.min, u.steps, u.up, u.down, u.start, u.idle, u.spin, u.on⟩ : U) = u := rfl
  cases hlg : long27 u l []
  rotate_left
  · refine ⟨_, hv, ?_⟩
    show Run Try.prog ti env84 110 (finR ti [.tmp 6] _) _ _ _
    repeat' (first | with_reducible refine run_seq ?_ | with_reducible refine run_block ?_ | with_reducible refine step_code ?_ | with_reducible refine step_blk ?_ | with_reducible refine run_skip ?_ | with_reducible refine run_exit ?_ | with_reducible refine exits_code ?_ | with_reducible refine exits_here ?_ | with_reducible refine exits_blk rfl ?_ | with_reducible refine exits_lp ?_ | with_reducible refine run_ret ?_ | ((first | with_reducible refine run_region ?_ | with_reducible refine run_draw (by kernel_rfl) ?_); simp only [↓guardP_tt, ↓guardP_tf, ↓guardP_ft, ↓guardP_ff, guardP_t, guardP_f, evalQ, evalR, effQ, effR, skipS, opEff, evO, plainV, lkS, lkM, updL, putS, tie_sz, tie_zero, tie_zeroB, tie_fld, tie_ek, tie_int, tie_isb, tie_eq2, tie_f1, tie_ms, tie2_sz, tie2_zero, tie2_zeroB, tie2_fld, tie2_ek, tie2_int, tie2_isb, tie2_eq2, tie2_f1, tie2_ms, ti_ek2, ti_f1, ti_ms, ti_sz, ti_zero, ti_zeroB, ti_fld, ti_ek, ti_int, ti_isb, ti_eq2, binA, binI, intOp, appEff, frE, foldB, foldS, castL_self, K.enc, K.dec, K.zero, K.es, K.bytes, AV.part, AV.setPart, AV.cells, AV.agg, AV.nth, Bool.false_eq_true, callEff, pubs, pub, nilAV, MM.upd, MM.set, argS, gdst, opIds, lids, AV.ids, List.getD_cons_succ, List.getD_cons_zero, List.map, List.tail, List.headD, List.nil_append, List.append_nil, List.cons_append, List.length_nil, List.length_cons, List.zip_cons_cons, List.zip_nil_right, List.set_cons_zero, List.set_cons_succ, List.replicate, Option.isSome_some, Option.map_some, Bool.not_true, Bool.not_false, forall_const, false_implies, Nat.reduceAdd, Nat.reduceEqDiff, Nat.reduceLT, Nat.reduceSub, Nat.reduceMul, Nat.reduceLeDiff, ↓reduceIte, and_true, true_and, and_self, false_and, and_false, reduceCtorEq, env84, ctLong27u, ctAwake, uOf, heta, hlg]) | (with_reducible refine run_cond (by with_unfolding_all exact rfl) ?_ ?_ <;> intro hc <;> (try simp only [vb, decide_eq_true_eq, decide_eq_false_iff_not, beq_iff_eq, beq_eq_false_iff_ne, bne_iff_ne, bne_eq_false_iff_eq, Bool.not_eq_true', Bool.not_eq_false', reduceCtorEq] at hc) <;> (try (first | simp (disch := omega) only [wrap64, wrapu64, wrapu32, sh32, fdiv32, Int.tdiv_eq_ediv_of_nonneg, Int.tmod_eq_emod_of_nonneg, tn_add, tn_add1, Int.toNat_natCast, Int.toNat_zero, List.drop_zero] at hc | simp only [wrapu64m, wrapu32m] at hc))) | ((with_reducible refine compat_ok ?_); kernel_rfl) | with_reducible apply And.intro | (first | simp (disch := omega) only [wrap64, wrapu64, wrapu32, sh32, fdiv32, Int.tdiv_eq_ediv_of_nonneg, Int.tmod_eq_emod_of_nonneg, tn_add, tn_add1, Int.toNat_natCast, Int.toNat_zero, List.drop_zero] | simp only [wrapu64m, wrapu32m]) | (with_reducible intro hg; (try simp only [vb, decide_eq_true_eq, decide_eq_false_iff_not, beq_iff_eq, beq_eq_false_iff_ne, bne_iff_ne, bne_eq_false_iff_eq, Bool.not_eq_true', Bool.not_eq_false', reduceCtorEq] at hg); (try (first | simp (disch := omega) only [wrap64, wrapu64, wrapu32, sh32, fdiv32, Int.tdiv_eq_ediv_of_nonneg, Int.tmod_eq_emod_of_nonneg, tn_add, tn_add1, Int.toNat_natCast, Int.toNat_zero, List.drop_zero] at hg | simp only [wrapu64m, wrapu32m] at hg))))
    all_goals try omega
    simp only [finR, resAs, resA, resLe, lsLe, lkS, lkM, pubs, pub, tie_sz, ti_sz, tie_ek, ti_ek, tie2_sz, tie2_ek, ti_ek2, nilAV, MM.upd, MM.set, AV.part, AV.cells, AV.agg, List.tail, List.headD, Nat.reduceAdd, Nat.reduceEqDiff, Nat.reduceLT, ↓reduceIte, and_true, true_and, and_self, reduceCtorEq]
    exact AVle.rfl
  obtain ⟨g1, g2, g3, g4⟩ := long27_false hlg
  obtain ⟨v0, r0, rfl, a0, v1, r1, rfl, a1, hv⟩ := hv
  replace a1 := qxs_q a1 g4
  refine ⟨[_, _, _], ⟨_, _, rfl, a0, _, _, rfl, a1, hv⟩, ?_⟩
  have hql : (qL 6 l).length = l.length := by simp [qL]
  have hqs := qL_s (n := 6) (l := l)
  generalize qL 6 l = ql at *
  have hqs2 : ∀ x ∈ ql, x.s ≤ 6 := fun x hx => Nat.le_of_eq (hqs x hx)
  have hqs3 : ∀ x ∈ ql, x.s ≤ 1000 := fun x hx => by have := hqs x hx; omega
  show Run Try.prog ti env84 110 (finR ti [.tmp 6] _) _ _ _
  by_cases hw : wrongP u ql.length = 0
  rotate_left
  · have hw1 : (wrongP u ql.length != 0) = true := bne_iff_ne.2 hw
    have hr : bestP u ql = 0 := by rw [bestP, if_neg hw]
    have hs0 : sgnQ 0 = 0 := by decide
    repeat' (first | with_reducible refine run_seq ?_ | with_reducible refine run_block ?_ | with_reducible refine step_code ?_ | with_reducible refine step_blk ?_ | with_reducible refine run_skip ?_ | with_reducible refine run_exit ?_ | with_reducible refine exits_code ?_ | with_reducible refine exits_here ?_ | with_reducible refine exits_blk rfl ?_ | with_reducible refine exits_lp ?_ | with_reducible refine run_ret ?_ | ((first | with_reducible refine run_region ?_ | with_reducible refine run_draw (by kernel_rfl) ?_); simp only [↓guardP_tt, ↓guardP_tf, ↓guardP_ft, ↓guardP_ff, guardP_t, guardP_f, evalQ, evalR, effQ, effR, skipS, opEff, evO, plainV, lkS, lkM, updL, putS, tie_sz, tie_zero, tie_zeroB, tie_fld, tie_ek, tie_int, tie_isb, tie_eq2, tie_f1, tie_ms, tie2_sz, tie2_zero, tie2_zeroB, tie2_fld, tie2_ek, tie2_int, tie2_isb, tie2_eq2, tie2_f1, tie2_ms, ti_ek2, ti_f1, ti_ms, ti_sz, ti_zero, ti_zeroB, ti_fld, ti_ek, ti_int, ti_isb, ti_eq2, binA, binI, intOp, appEff, frE, foldB, foldS, castL_self, K.enc, K.dec, K.zero, K.es, K.bytes, AV.part, AV.setPart, AV.cells, AV.agg, AV.nth, Bool.false_eq_true, callEff, pubs, pub, nilAV, MM.upd, MM.set, argS, gdst, opIds, lids, AV.ids, List.getD_cons_succ, List.getD_cons_zero, List.map, List.tail, List.headD, List.nil_append, List.append_nil, List.cons_append, List.length_nil, List.length_cons, List.zip_cons_cons, List.zip_nil_right, List.set_cons_zero, List.set_cons_succ, List.replicate, Option.isSome_some, Option.map_some, Bool.not_true, Bool.not_false, forall_const, false_implies, Nat.reduceAdd, Nat.reduceEqDiff, Nat.reduceLT, Nat.reduceSub, Nat.reduceMul, Nat.reduceLeDiff, ↓reduceIte, and_true, true_and, and_self, false_and, and_false, reduceCtorEq, env84, ctLong27u, ctAwake, ctBest, ctSignQ, qA, uOf, heta, hw1, hr, hs0, beq_self_eq_true]) | (with_reducible refine run_cond (by with_unfolding_all exact rfl) ?_ ?_ <;> intro hc <;> (try simp only [vb, decide_eq_true_eq, decide_eq_false_iff_not, beq_iff_eq, beq_eq_false_iff_ne, bne_iff_ne, bne_eq_false_iff_eq, Bool.not_eq_true', Bool.not_eq_false', reduceCtorEq] at hc) <;> (try (first | simp (disch := omega) only [wrap64, wrapu64, wrapu32, sh32, fdiv32, Int.tdiv_eq_ediv_of_nonneg, Int.tmod_eq_emod_of_nonneg, tn_add, tn_add1, Int.toNat_natCast, Int.toNat_zero, List.drop_zero] at hc | simp only [wrapu64m, wrapu32m] at hc))) | ((with_reducible refine compat_ok ?_); kernel_rfl) | with_reducible apply And.intro | (first | simp (disch := omega) only [wrap64, wrapu64, wrapu32, sh32, fdiv32, Int.tdiv_eq_ediv_of_nonneg, Int.tmod_eq_emod_of_nonneg, tn_add, tn_add1, Int.toNat_natCast, Int.toNat_zero, List.drop_zero] | simp only [wrapu64m, wrapu32m]) | (with_reducible intro hg; (try simp only [vb, decide_eq_true_eq, decide_eq_false_iff_not, beq_iff_eq, beq_eq_false_iff_ne, bne_iff_ne, bne_eq_false_iff_eq, Bool.not_eq_true', Bool.not_eq_false', reduceCtorEq] at hg); (try (first | simp (disch := omega) only [wrap64, wrapu64, wrapu32, sh32, fdiv32, Int.tdiv_eq_ediv_of_nonneg, Int.tmod_eq_emod_of_nonneg, tn_add, tn_add1, Int.toNat_natCast, Int.toNat_zero, List.drop_zero] at hg | simp only [wrapu64m, wrapu32m] at hg))))
    all_goals try omega
    all_goals first
      | exact hqs2 _ hg
      | exact hqs3 _ hg
      | (simp only [finR, resAs, resA, resLe, lsLe, lkS, lkM, pubs, pub, tie_sz, ti_sz, tie_ek, ti_ek, tie2_sz, tie2_ek, ti_ek2, nilAV, MM.upd, MM.set, AV.part, AV.cells, AV.agg, List.tail, List.headD, Nat.reduceAdd, Nat.reduceEqDiff, Nat.reduceLT, ↓reduceIte, and_true, true_and, and_self, reduceCtorEq]
         exact AVle.rfl)
  obtain ⟨hm, h8⟩ := wrong_may hw
  obtain ⟨b1, b2, b3, b4⟩ := best_own hw
  have hw1 : (wrongP u ql.length != 0) = false := by rw [hw]; rfl
  have b5 : (((bestR u ql).length : Int) != (ql.length : Int)) = false := by rw [b4]; exact bne_self_eq_false _
  obtain ⟨kk, hK, hK2⟩ : ∃ kk : Nat, n.tmod ((ql.length : Int) + 1) = (kk : Int) ∧ kk ≤ ql.length := by
    rw [Int.tmod_eq_emod_of_nonneg hp.1]
    have h1 := Int.emod_nonneg n (b := (ql.length : Int) + 1) (by omega)
    have h2 := Int.emod_lt_of_pos n (b := (ql.length : Int) + 1) (by omega)
    exact ⟨(n % ((ql.length : Int) + 1)).toNat, by omega, by omega⟩
  have e1 : IntKind.i64.wrap n = n := wrap64 (by omega) (by omega)
  have e2 : IntKind.i64.wrap ((ql.length : Int) + 1) = (ql.length : Int) + 1 := wrap64 (by omega) (by omega)
  have hin := (initU_v hm).1
  have hst : u.steps.length ≤ 1099511627776 := by omega
  repeat' (first | with_reducible refine run_seq ?_ | with_reducible refine run_block ?_ | with_reducible refine step_code ?_ | with_reducible refine step_blk ?_ | with_reducible refine run_skip ?_ | with_reducible refine run_exit ?_ | with_reducible refine exits_code ?_ | with_reducible refine exits_here ?_ | with_reducible refine exits_blk rfl ?_ | with_reducible refine exits_lp ?_ | with_reducible refine run_ret ?_ | ((first | with_reducible refine run_region ?_ | with_reducible refine run_draw (by kernel_rfl) ?_); simp only [↓guardP_tt, ↓guardP_tf, ↓guardP_ft, ↓guardP_ff, guardP_t, guardP_f, evalQ, evalR, effQ, effR, skipS, opEff, evO, plainV, lkS, lkM, updL, putS, tie_sz, tie_zero, tie_zeroB, tie_fld, tie_ek, tie_int, tie_isb, tie_eq2, tie_f1, tie_ms, tie2_sz, tie2_zero, tie2_zeroB, tie2_fld, tie2_ek, tie2_int, tie2_isb, tie2_eq2, tie2_f1, tie2_ms, ti_ek2, ti_f1, ti_ms, ti_sz, ti_zero, ti_zeroB, ti_fld, ti_ek, ti_int, ti_isb, ti_eq2, binA, binI, intOp, appEff, frE, foldB, foldS, castL_self, K.enc, K.dec, K.zero, K.es, K.bytes, AV.part, AV.setPart, AV.cells, AV.agg, AV.nth, Bool.false_eq_true, callEff, pubs, pub, nilAV, MM.upd, MM.set, argS, gdst, opIds, lids, AV.ids, List.getD_cons_succ, List.getD_cons_zero, List.map, List.tail, List.headD, List.nil_append, List.append_nil, List.cons_append, List.length_nil, List.length_cons, List.zip_cons_cons, List.zip_nil_right, List.set_cons_zero, List.set_cons_succ, List.replicate, Option.isSome_some, Option.map_some, Bool.not_true, Bool.not_false, forall_const, false_implies, Nat.reduceAdd, Nat.reduceEqDiff, Nat.reduceLT, Nat.reduceSub, Nat.reduceMul, Nat.reduceLeDiff, ↓reduceIte, and_true, true_and, and_self, false_and, and_false, reduceCtorEq, env84, ctLong27u, ctAwake, ctBest, ctInit, qA, uOf, heta, hw, hw1, b5, e1, e2, hK]) | (with_reducible refine run_cond (by with_unfolding_all exact rfl) ?_ ?_ <;> intro hc <;> (try simp only [vb, decide_eq_true_eq, decide_eq_false_iff_not, beq_iff_eq, beq_eq_false_iff_ne, bne_iff_ne, bne_eq_false_iff_eq, Bool.not_eq_true', Bool.not_eq_false', reduceCtorEq] at hc) <;> (try (first | simp (disch := omega) only [wrap64, wrapu64, wrapu32, sh32, fdiv32, Int.tdiv_eq_ediv_of_nonneg, Int.tmod_eq_emod_of_nonneg, tn_add, tn_add1, Int.toNat_natCast, Int.toNat_zero, List.drop_zero] at hc | simp only [wrapu64m, wrapu32m] at hc))) | ((with_reducible refine compat_ok ?_); kernel_rfl) | with_reducible apply And.intro | (first | simp (disch := omega) only [wrap64, wrapu64, wrapu32, sh32, fdiv32, Int.tdiv_eq_ediv_of_nonneg, Int.tmod_eq_emod_of_nonneg, tn_add, tn_add1, Int.toNat_natCast, Int.toNat_zero, List.drop_zero] | simp only [wrapu64m, wrapu32m]) | (with_reducible intro hg; (try simp only [vb, decide_eq_true_eq, decide_eq_false_iff_not, beq_iff_eq, beq_eq_false_iff_ne, bne_iff_ne, bne_eq_false_iff_eq, Bool.not_eq_true', Bool.not_eq_false', reduceCtorEq] at hg); (try (first | simp (disch := omega) only [wrap64, wrapu64, wrapu32, sh32, fdiv32, Int.tdiv_eq_ediv_of_nonneg, Int.tmod_eq_emod_of_nonneg, tn_add, tn_add1, Int.toNat_natCast, Int.toNat_zero, List.drop_zero] at hg | simp only [wrapu64m, wrapu32m] at hg))))
  all_goals try omega
  all_goals try exact hqs2 _ hg
  all_goals try exact hqs3 _ hg
  have hfe : feasF u (initU u) (bestR u ql) = true := (best_dp hw).feas
  refine run_loop (ι := Nat) (fun i => ⟨[(13, vi i), (12, vi (stF u (initU u) ((bestR u ql).take i))), (11, .ptr 35 0), (10, vi kk), (7, .lst .bool (bestR u ql)), (8, .ptr 16 0), (3, .ptr 0 0), (1, .lst .q ql)],
      [(35, some (.box 53 (uAV u))), (16, some (.box 33 (.q (bestP u ql) true 250000))), (0, some (.box 53 (uAV u)))], 41⟩)
    (fun i => i ≤ kk) (fun i => kk - i) 0 (Nat.zero_le _) ?_ ?_
  · (refine AS.le_of ?_ ?_ <;> simp only [slLe, memLe, entLe, lkS, lkM, Nat.reduceEqDiff, Nat.reduceLT, or_true, true_or, reduceCtorEq, ↓reduceIte, and_true, true_and] <;> (repeat' with_reducible apply And.intro) <;> (try (first | ((with_reducible refine AV.le_refl ?_); rfl) | with_reducible exact AV.le_junk | with_reducible exact AV.le_nil | ((with_reducible refine AV.le_int ?_); omega) | (with_reducible refine AV.le_int ?_) | (with_reducible refine AV.le_bool ?_) | ((with_reducible refine AV.le_lst ?_); try rfl) | (with_reducible refine AV.le_q ?_ ?_ ?_) | exact fun _ _ h => h | (with_reducible refine RC_qle ?_ ?_ ?_))))
    all_goals first | rfl | (simp [stF]; done)
  intro i hi
  by_cases hlt : i < kk
  · have hvs : vS u (stF u (initU u) ((bestR u ql).take i)) := st_v hm i hin hfe
    have hnx : (nextK u (stF u (initU u) ((bestR u ql).take i)) ((bestR u ql).getD i false)).1 = stF u (initU u) ((bestR u ql).take (i + 1)) := by
      rw [nextK_U hm hvs, st_take (by omega)]
    repeat' (first | with_reducible refine run_seq ?_ | with_reducible refine run_block ?_ | with_reducible refine step_code ?_ | with_reducible refine step_blk ?_ | with_reducible refine run_skip ?_ | with_reducible refine run_exit ?_ | with_reducible refine exits_code ?_ | with_reducible refine exits_here ?_ | with_reducible refine exits_blk rfl ?_ | with_reducible refine exits_lp ?_ | with_reducible refine run_ret ?_ | ((first | with_reducible refine run_region ?_ | with_reducible refine run_draw (by kernel_rfl) ?_); simp only [↓guardP_tt, ↓guardP_tf, ↓guardP_ft, ↓guardP_ff, guardP_t, guardP_f, evalQ, evalR, effQ, effR, skipS, opEff, evO, plainV, lkS, lkM, updL, putS, tie_sz, tie_zero, tie_zeroB, tie_fld, tie_ek, tie_int, tie_isb, tie_eq2, tie_f1, tie_ms, tie2_sz, tie2_zero, tie2_zeroB, tie2_fld, tie2_ek, tie2_int, tie2_isb, tie2_eq2, tie2_f1, tie2_ms, ti_ek2, ti_f1, ti_ms, ti_sz, ti_zero, ti_zeroB, ti_fld, ti_ek, ti_int, ti_isb, ti_eq2, binA, binI, intOp, appEff, frE, foldB, foldS, castL_self, K.enc, K.dec, K.zero, K.es, K.bytes, AV.part, AV.setPart, AV.cells, AV.agg, AV.nth, Bool.false_eq_true, callEff, pubs, pub, nilAV, MM.upd, MM.set, argS, gdst, opIds, lids, AV.ids, List.getD_cons_succ, List.getD_cons_zero, List.map, List.tail, List.headD, List.nil_append, List.append_nil, List.cons_append, List.length_nil, List.length_cons, List.zip_cons_cons, List.zip_nil_right, List.set_cons_zero, List.set_cons_succ, List.replicate, Option.isSome_some, Option.map_some, Bool.not_true, Bool.not_false, forall_const, false_implies, Nat.reduceAdd, Nat.reduceEqDiff, Nat.reduceLT, Nat.reduceSub, Nat.reduceMul, Nat.reduceLeDiff, ↓reduceIte, and_true, true_and, and_self, false_and, and_false, reduceCtorEq, env84, ctNext, uOf, heta, hnx, Int.toNat_natCast]) | (with_reducible refine run_cond (by with_unfolding_all exact rfl) ?_ ?_ <;> intro hc <;> (try simp only [vb, decide_eq_true_eq, decide_eq_false_iff_not, beq_iff_eq, beq_eq_false_iff_ne, bne_iff_ne, bne_eq_false_iff_eq, Bool.not_eq_true', Bool.not_eq_false', reduceCtorEq] at hc) <;> (try (first | simp (disch := omega) only [wrap64, wrapu64, wrapu32, sh32, fdiv32, Int.tdiv_eq_ediv_of_nonneg, Int.tmod_eq_emod_of_nonneg, tn_add, tn_add1, Int.toNat_natCast, Int.toNat_zero, List.drop_zero] at hc | simp only [wrapu64m, wrapu32m] at hc))) | ((with_reducible refine compat_ok ?_); kernel_rfl) | with_reducible apply And.intro | (first | simp (disch := omega) only [wrap64, wrapu64, wrapu32, sh32, fdiv32, Int.tdiv_eq_ediv_of_nonneg, Int.tmod_eq_emod_of_nonneg, tn_add, tn_add1, Int.toNat_natCast, Int.toNat_zero, List.drop_zero] | simp only [wrapu64m, wrapu32m]) | (with_reducible intro hg; (try simp only [vb, decide_eq_true_eq, decide_eq_false_iff_not, beq_iff_eq, beq_eq_false_iff_ne, bne_iff_ne, bne_eq_false_iff_eq, Bool.not_eq_true', Bool.not_eq_false', reduceCtorEq] at hg); (try (first | simp (disch := omega) only [wrap64, wrapu64, wrapu32, sh32, fdiv32, Int.tdiv_eq_ediv_of_nonneg, Int.tmod_eq_emod_of_nonneg, tn_add, tn_add1, Int.toNat_natCast, Int.toNat_zero, List.drop_zero] at hg | simp only [wrapu64m, wrapu32m] at hg))))
    all_goals try omega
    refine step_lp ⟨i + 1, by omega, by omega, ?_⟩
    (refine AS.le_of ?_ ?_ <;> simp only [slLe, memLe, entLe, lkS, lkM, Nat.reduceEqDiff, Nat.reduceLT, or_true, true_or, reduceCtorEq, ↓reduceIte, and_true, true_and] <;> (repeat' with_reducible apply And.intro) <;> (try (first | ((with_reducible refine AV.le_refl ?_); rfl) | with_reducible exact AV.le_junk | with_reducible exact AV.le_nil | ((with_reducible refine AV.le_int ?_); omega) | (with_reducible refine AV.le_int ?_) | (with_reducible refine AV.le_bool ?_) | ((with_reducible refine AV.le_lst ?_); try rfl) | (with_reducible refine AV.le_q ?_ ?_ ?_) | exact fun _ _ h => h | (with_reducible refine RC_qle ?_ ?_ ?_))))
  · have hi2 : i = kk := by omega
    subst hi2
    obtain ⟨S, hS⟩ : ∃ S, stF u (initU u) ((bestR u ql).take i) = S := ⟨_, rfl⟩
    obtain ⟨f0, f1, f2, f3, f4⟩ := dyn hw hK2 S hS.symm
    rw [hS]
    obtain ⟨v, hvd⟩ : ∃ v : U, (⟨u.bus, u.min, u.steps, u.up, u.down, u.start, u.idle, u.spin, S⟩ : U) = v := ⟨_, rfl⟩
    have hvs : v.steps.length ≤ 1099511627776 := by rw [← hvd]; exact hst
    change wrongP (⟨u.bus, u.min, u.steps, u.up, u.down, u.start, u.idle, u.spin, S⟩ : U) _ = 0 at f2
    change bestR (⟨u.bus, u.min, u.steps, u.up, u.down, u.start, u.idle, u.spin, S⟩ : U) _ = _ at f3
    change bestP u ql = _ + bestP (⟨u.bus, u.min, u.steps, u.up, u.down, u.start, u.idle, u.spin, S⟩ : U) _ at f4
    rw [hvd] at f2 f3 f4
    have k1 : decide (bestP u ql = profR u (ql.take i) ((bestR u ql).take i) + bestP v (ql.drop i)) = true := decide_eq_true f4
    repeat' (first | with_reducible refine run_seq ?_ | with_reducible refine run_block ?_ | with_reducible refine step_code ?_ | with_reducible refine step_blk ?_ | with_reducible refine run_skip ?_ | with_reducible refine run_exit ?_ | with_reducible refine exits_code ?_ | with_reducible refine exits_here ?_ | with_reducible refine exits_blk rfl ?_ | with_reducible refine exits_lp ?_ | with_reducible refine run_ret ?_ | ((first | with_reducible refine run_region ?_ | with_reducible refine run_draw (by kernel_rfl) ?_); simp only [↓guardP_tt, ↓guardP_tf, ↓guardP_ft, ↓guardP_ff, guardP_t, guardP_f, evalQ, evalR, effQ, effR, skipS, opEff, evO, plainV, lkS, lkM, updL, putS, tie_sz, tie_zero, tie_zeroB, tie_fld, tie_ek, tie_int, tie_isb, tie_eq2, tie_f1, tie_ms, tie2_sz, tie2_zero, tie2_zeroB, tie2_fld, tie2_ek, tie2_int, tie2_isb, tie2_eq2, tie2_f1, tie2_ms, ti_ek2, ti_f1, ti_ms, ti_sz, ti_zero, ti_zeroB, ti_fld, ti_ek, ti_int, ti_isb, ti_eq2, binA, binI, intOp, appEff, frE, foldB, foldS, castL_self, K.enc, K.dec, K.zero, K.es, K.bytes, AV.part, AV.setPart, AV.cells, AV.agg, AV.nth, Bool.false_eq_true, callEff, pubs, pub, nilAV, MM.upd, MM.set, argS, gdst, opIds, lids, AV.ids, List.getD_cons_succ, List.getD_cons_zero, List.map, List.tail, List.headD, List.nil_append, List.append_nil, List.cons_append, List.length_nil, List.length_cons, List.zip_cons_cons, List.zip_nil_right, List.set_cons_zero, List.set_cons_succ, List.replicate, Option.isSome_some, Option.map_some, Bool.not_true, Bool.not_false, forall_const, false_implies, Nat.reduceAdd, Nat.reduceEqDiff, Nat.reduceLT, Nat.reduceSub, Nat.reduceMul, Nat.reduceLeDiff, ↓reduceIte, and_true, true_and, and_self, false_and, and_false, reduceCtorEq, env84, ctProfit, ctBest, ctSame26, ctAddQ, ctEqQ, ctQ2, ctQ2i, qA, uOf, heta, hvd, f1, f2, f3, k1, beq_self_eq_true, decide_true, Int.toNat_natCast, Int.toNat_zero, List.drop_zero, List.take_length]) | (with_reducible refine run_cond (by with_unfolding_all exact rfl) ?_ ?_ <;> intro hc <;> (try simp only [vb, decide_eq_true_eq, decide_eq_false_iff_not, beq_iff_eq, beq_eq_false_iff_ne, bne_iff_ne, bne_eq_false_iff_eq, Bool.not_eq_true', Bool.not_eq_false', reduceCtorEq] at hc) <;> (try (first | simp (disch := omega) only [wrap64, wrapu64, wrapu32, sh32, fdiv32, Int.tdiv_eq_ediv_of_nonneg, Int.tmod_eq_emod_of_nonneg, tn_add, tn_add1, Int.toNat_natCast, Int.toNat_zero, List.drop_zero] at hc | simp only [wrapu64m, wrapu32m] at hc))) | ((with_reducible refine compat_ok ?_); kernel_rfl) | with_reducible apply And.intro | (first | simp (disch := omega) only [wrap64, wrapu64, wrapu32, sh32, fdiv32, Int.tdiv_eq_ediv_of_nonneg, Int.tmod_eq_emod_of_nonneg, tn_add, tn_add1, Int.toNat_natCast, Int.toNat_zero, List.drop_zero] | simp only [wrapu64m, wrapu32m]) | (with_reducible intro hg; (try simp only [vb, decide_eq_true_eq, decide_eq_false_iff_not, beq_iff_eq, beq_eq_false_iff_ne, bne_iff_ne, bne_eq_false_iff_eq, Bool.not_eq_true', Bool.not_eq_false', reduceCtorEq] at hg); (try (first | simp (disch := omega) only [wrap64, wrapu64, wrapu32, sh32, fdiv32, Int.tdiv_eq_ediv_of_nonneg, Int.tmod_eq_emod_of_nonneg, tn_add, tn_add1, Int.toNat_natCast, Int.toNat_zero, List.drop_zero] at hg | simp only [wrapu64m, wrapu32m] at hg))))
    all_goals try omega
    all_goals first
      | exact hqs3 _ (List.mem_of_mem_take hg)
      | exact hqs3 _ (List.mem_of_mem_drop hg)
      | (rw [List.length_take]; omega)
      | (rw [List.length_drop]; omega)
      | (simp only [finR, resAs, resA, resLe, lsLe, lkS, lkM, pubs, pub, tie_sz, ti_sz, tie_ek, ti_ek, tie2_sz, tie2_ek, ti_ek2, nilAV, MM.upd, MM.set, AV.part, AV.cells, AV.agg, List.tail, List.headD, Nat.reduceAdd, Nat.reduceEqDiff, Nat.reduceLT, ↓reduceIte, and_true, true_and, and_self, reduceCtorEq]
         exact AVle.rfl)
end Go.AE
