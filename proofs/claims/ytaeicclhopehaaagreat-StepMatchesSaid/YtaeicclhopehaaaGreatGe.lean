/- Contracts: whole.div. Contracts: package whole, the functions of numbers. Contracts: package frac, its parts. Contracts: frac.does. The table of its kinds, walked by hand; then on states. -/
import Derived.Test.YtaeicclhopehaaaGreatGc
import Derived.Test.YtaeicclhopehaaaGreatGd
import Derived.WideMake
namespace Go.AE
open Go.Proofs Go.RowKit
set_option linter.unusedVariables false
set_option linter.unusedSimpArgs false
set_option maxRecDepth 20000

def env3 : Env := fun g => match g with | 130 => some ctTrim | 134 => some ctMul | 157 => some ctSmall | 152 => some ctCmpW | 153 => some ctSubW | _ => none
theorem env3_ok : EnvOk Tryz.prog env3 := by
  intro g ct h
  simp only [env3] at h
  split at h <;> first | (cases h; exact ok130) | (cases h; exact ok134) | (cases h; exact ok157) | (cases h; exact ok152) | (cases h; exact ok153) | cases h
def ctDiv : Ct := fun l => match l with
  | [.lst .u32 a, .lst .u32 b] => some (a.length ≤ 68719476736 ∧ b.length ≤ 68719476736 ∧ b.getLast? ≠ some 0 ∧ b ≠ [], .tup (.tc (.lst .u32 (trimL (digs a.length (wv a / wv b)))) (.tc (.lst .u32 (trimL (digs b.length (wv a % wv b)))) .tn)))
  | _ => none
theorem wv_one (x : Int) : wv [x] = x := by simp [wv]
theorem ok154 : Sound Tryz.prog 154 ctDiv := by
  refine sound_of (fn := Tryz.f154) rfl rfl rfl tiOk env3_ok mix ?_ (by intro l p r h; unfold ctDiv at h; split at h <;> cases h <;> exact Nat.le_of_ble_eq_true rfl)
  intro l p r h hp F vs hv
  unfold ctDiv at h
  split at h <;> cases h
  rename_i a b
  obtain ⟨hla, hlb, hcb, hbn⟩ := hp
  obtain ⟨v0, rest0, rfl, a0, hv⟩ := hv
  have ok0 := okW_lst a0
  obtain ⟨v1, rest1, rfl, a1, hv⟩ := hv
  have ok1 := okW_lst a1
  refine ⟨[_, _], ⟨_, _, rfl, a0, _, _, rfl, a1, hv⟩, ?_⟩
  have hB := wv_pos ok1 hcb hbn
  have hlb0 := List.length_pos_iff.2 hbn
  by_cases hb1 : b.length = 1
  · obtain ⟨y, rfl⟩ := List.length_eq_one_iff.1 hb1
    have hy := ok1 y (by simp)
    rw [wv_one] at hB ⊢
    have hyg : [y].getD (Int.toNat 0) 0 = y := rfl
    have hm := Int.emod_nonneg (wv a) (show y ≠ 0 from fun h => by rw [h] at hB; exact absurd hB (by decide))
    have hm2 := Int.emod_lt_of_pos (wv a) hB
    show Run Tryz.prog ti env3 93 (finR ti [.tmp 4, .tmp 5] _) _ _ _
    repeat' (first | with_reducible refine run_seq ?_ | with_reducible refine run_block ?_ | with_reducible refine step_code ?_ | with_reducible refine step_blk ?_ | with_reducible refine run_skip ?_ | with_reducible refine run_exit ?_ | with_reducible refine exits_code ?_ | with_reducible refine exits_here ?_ | with_reducible refine exits_blk rfl ?_ | with_reducible refine exits_lp ?_ | with_reducible refine run_ret ?_ | ((first | with_reducible refine run_region ?_ | with_reducible refine run_draw (by kernel_rfl) ?_); simp only [↓guardP_tt, ↓guardP_tf, ↓guardP_ft, ↓guardP_ff, guardP_t, guardP_f, evalQ, evalR, effQ, effR, skipS, opEff, evO, plainV, lkS, lkM, updL, putS, tie_sz, tie_zero, tie_zeroB, tie_fld, tie_ek, tie_int, tie_isb, tie_eq2, tie_f1, tie_ms,  ti_f1, ti_ms, ti_sz, ti_zero, ti_zeroB, ti_fld, ti_ek, ti_int, ti_isb, ti_eq2, binA, binI, intOp, funOf_v, cloOf_v, calIds, appEff, frE, foldB, foldS, castL_self, K.enc, K.dec, K.zero, K.es, K.bytes, AV.part, AV.setPart, AV.cells, AV.agg, AV.nth, Bool.false_eq_true, callEff, pubs, pub, nilAV, MM.upd, MM.set, argS, gdst, opIds, lids, AV.ids, List.getD_cons_succ, List.getD_cons_zero, List.map, List.tail, List.headD, List.nil_append, List.append_nil, List.cons_append, List.length_nil, List.length_cons, List.zip_cons_cons, List.zip_nil_right, List.set_cons_zero, List.set_cons_succ, List.replicate, Option.isSome_some, Option.map_some, Bool.not_true, Bool.not_false, forall_const, false_implies, Nat.reduceAdd, Nat.reduceEqDiff, Nat.reduceLT, Nat.reduceSub, Nat.reduceMul, Nat.reduceLeDiff, ↓reduceIte, and_true, true_and, and_self, false_and, and_false, reduceCtorEq, env3, ctTrim, ctMul, ctSmall, ctCmpW, ctSubW, hyg]) | (with_reducible refine run_cond (by with_unfolding_all exact rfl) ?_ ?_ <;> intro hc <;> (try simp only [vb, decide_eq_true_eq, decide_eq_false_iff_not, beq_iff_eq, beq_eq_false_iff_ne, bne_iff_ne, bne_eq_false_iff_eq, Bool.not_eq_true', Bool.not_eq_false', reduceCtorEq] at hc) <;> (try (first | simp (disch := omega) only [wrap64, wrapu64, wrapu32, sh32, fdiv32, Int.tdiv_eq_ediv_of_nonneg, Int.tmod_eq_emod_of_nonneg, tn_add, tn_add1, Int.toNat_natCast, Int.toNat_zero, List.drop_zero] at hc | simp only [wrapu64m, wrapu32m] at hc))) | ((with_reducible refine compat_ok ?_); kernel_rfl) | with_reducible apply And.intro | (first | simp (disch := omega) only [wrap64, wrapu64, wrapu32, sh32, fdiv32, Int.tdiv_eq_ediv_of_nonneg, Int.tmod_eq_emod_of_nonneg, tn_add, tn_add1, Int.toNat_natCast, Int.toNat_zero, List.drop_zero] | simp only [wrapu64m, wrapu32m]) | (with_reducible intro hg; (try simp only [vb, decide_eq_true_eq, decide_eq_false_iff_not, beq_iff_eq, beq_eq_false_iff_ne, bne_iff_ne, bne_eq_false_iff_eq, Bool.not_eq_true', Bool.not_eq_false', reduceCtorEq] at hg); (try (first | simp (disch := omega) only [wrap64, wrapu64, wrapu32, sh32, fdiv32, Int.tdiv_eq_ediv_of_nonneg, Int.tmod_eq_emod_of_nonneg, tn_add, tn_add1, Int.toNat_natCast, Int.toNat_zero, List.drop_zero] at hg | simp only [wrapu64m, wrapu32m] at hg))))
    all_goals try omega
    · simp only [finR, resAs, resA, resLe, lsLe, lkS, lkM, pubs, pub, tie_sz, ti_sz, tie_ek, ti_ek,  nilAV, MM.upd, MM.set, AV.part, AV.cells, AV.agg, List.tail, List.headD, Nat.reduceAdd, Nat.reduceEqDiff, Nat.reduceLT, ↓reduceIte, and_true, true_and, and_self, reduceCtorEq]
      refine ⟨AVle.rfl, AVle_lst ?_⟩
      simp only [List.length_cons, List.length_nil, digs]
      rw [Int.emod_eq_of_lt hm (by omega)]
  show Run Tryz.prog ti env3 93 (finR ti [.tmp 4, .tmp 5] _) _ _ _
  repeat' (first | with_reducible refine run_seq ?_ | with_reducible refine run_block ?_ | with_reducible refine step_code ?_ | with_reducible refine step_blk ?_ | with_reducible refine run_skip ?_ | with_reducible refine run_exit ?_ | with_reducible refine exits_code ?_ | with_reducible refine exits_here ?_ | with_reducible refine exits_blk rfl ?_ | with_reducible refine exits_lp ?_ | with_reducible refine run_ret ?_ | ((first | with_reducible refine run_region ?_ | with_reducible refine run_draw (by kernel_rfl) ?_); simp only [↓guardP_tt, ↓guardP_tf, ↓guardP_ft, ↓guardP_ff, guardP_t, guardP_f, evalQ, evalR, effQ, effR, skipS, opEff, evO, plainV, lkS, lkM, updL, putS, tie_sz, tie_zero, tie_zeroB, tie_fld, tie_ek, tie_int, tie_isb, tie_eq2, tie_f1, tie_ms,  ti_f1, ti_ms, ti_sz, ti_zero, ti_zeroB, ti_fld, ti_ek, ti_int, ti_isb, ti_eq2, binA, binI, intOp, funOf_v, cloOf_v, calIds, appEff, frE, foldB, foldS, castL_self, K.enc, K.dec, K.zero, K.es, K.bytes, AV.part, AV.setPart, AV.cells, AV.agg, AV.nth, Bool.false_eq_true, callEff, pubs, pub, nilAV, MM.upd, MM.set, argS, gdst, opIds, lids, AV.ids, List.getD_cons_succ, List.getD_cons_zero, List.map, List.tail, List.headD, List.nil_append, List.append_nil, List.cons_append, List.length_nil, List.length_cons, List.zip_cons_cons, List.zip_nil_right, List.set_cons_zero, List.set_cons_succ, List.replicate, Option.isSome_some, Option.map_some, Bool.not_true, Bool.not_false, forall_const, false_implies, Nat.reduceAdd, Nat.reduceEqDiff, Nat.reduceLT, Nat.reduceSub, Nat.reduceMul, Nat.reduceLeDiff, ↓reduceIte, and_true, true_and, and_self, false_and, and_false, reduceCtorEq, env3, ctTrim, ctMul, ctSmall, ctCmpW, ctSubW]) | (with_reducible refine run_cond (by with_unfolding_all exact rfl) ?_ ?_ <;> intro hc <;> (try simp only [vb, decide_eq_true_eq, decide_eq_false_iff_not, beq_iff_eq, beq_eq_false_iff_ne, bne_iff_ne, bne_eq_false_iff_eq, Bool.not_eq_true', Bool.not_eq_false', reduceCtorEq] at hc) <;> (try (first | simp (disch := omega) only [wrap64, wrapu64, wrapu32, sh32, fdiv32, Int.tdiv_eq_ediv_of_nonneg, Int.tmod_eq_emod_of_nonneg, tn_add, tn_add1, Int.toNat_natCast, Int.toNat_zero, List.drop_zero] at hc | simp only [wrapu64m, wrapu32m] at hc))) | ((with_reducible refine compat_ok ?_); kernel_rfl) | with_reducible apply And.intro | (first | simp (disch := omega) only [wrap64, wrapu64, wrapu32, sh32, fdiv32, Int.tdiv_eq_ediv_of_nonneg, Int.tmod_eq_emod_of_nonneg, tn_add, tn_add1, Int.toNat_natCast, Int.toNat_zero, List.drop_zero] | simp only [wrapu64m, wrapu32m]) | (with_reducible intro hg; (try simp only [vb, decide_eq_true_eq, decide_eq_false_iff_not, beq_iff_eq, beq_eq_false_iff_ne, bne_iff_ne, bne_eq_false_iff_eq, Bool.not_eq_true', Bool.not_eq_false', reduceCtorEq] at hg); (try (first | simp (disch := omega) only [wrap64, wrapu64, wrapu32, sh32, fdiv32, Int.tdiv_eq_ediv_of_nonneg, Int.tmod_eq_emod_of_nonneg, tn_add, tn_add1, Int.toNat_natCast, Int.toNat_zero, List.drop_zero] at hg | simp only [wrapu64m, wrapu32m] at hg))))
  all_goals try omega
  refine run_loop (ι := Nat × List Int × List Int) (fun x => ⟨[(35, vi x.1), (34, vi a.length), (4, .row 7), (5, .lst .u32 x.2.2), (0, .lst .u32 a), (1, .lst .u32 b)], [(7, some (.row 59 .u32 x.2.1 false))], 8⟩)
    (fun x => x.1 ≤ a.length ∧ x.2.1.length = a.length ∧ okW x.2.1 ∧ okW x.2.2 ∧ x.2.2.getLast? ≠ some 0 ∧ wv (a.drop (a.length - x.1)) = wv (x.2.1.drop (a.length - x.1)) * wv b + wv x.2.2 ∧ wv x.2.2 < wv b) (fun x => a.length - x.1) (0, List.replicate a.length 0, [])
    ⟨Nat.zero_le _, by simp, okW_zeros _, fun x hx => (by cases hx), by simp, by simp [wv], hB⟩ ?_ ?_
  · (refine AS.le_of ?_ ?_ <;> simp only [slLe, memLe, entLe, lkS, lkM, Nat.reduceEqDiff, Nat.reduceLT, or_true, true_or, reduceCtorEq, ↓reduceIte, and_true, true_and] <;> (repeat' with_reducible apply And.intro) <;> (try (first | ((with_reducible refine AV.le_refl ?_); rfl) | with_reducible exact AV.le_junk | with_reducible exact AV.le_nil | ((with_reducible refine AV.le_int ?_); omega) | (with_reducible refine AV.le_int ?_) | (with_reducible refine AV.le_bool ?_) | ((with_reducible refine AV.le_lst ?_); try rfl) | (with_reducible refine AV.le_q ?_ ?_ ?_) | exact fun _ _ h => h | (with_reducible refine RC_qle ?_ ?_ ?_))))
  rintro ⟨k, q, r⟩ ⟨hk, h1, h2, h3, h4, h5, h6⟩
  simp only at hk h1 h2 h3 h4 h5 h6
  have hx := okW_getD ok0 ((a.length : Int) - 1 - k).toNat
  have hrl : r.length ≤ b.length := length_le_of_wv h3 h4 (by have := wv_lt ok1; omega)
  have hr0 := wv_nonneg h3
  have hok1 : okW (a.getD ((a.length : Int) - 1 - k).toNat 0 :: r) := by
    intro y hy
    rcases List.mem_cons.1 hy with rfl | hy
    · exact hx
    · exact h3 y hy
  have ht := trimL_length (a.getD ((a.length : Int) - 1 - k).toNat 0 :: r)
  have hcan := trimL_canon (a.getD ((a.length : Int) - 1 - k).toNat 0 :: r)
  have hok2 := okW_trimL hok1
  have hv1 : wv (trimL (a.getD ((a.length : Int) - 1 - k).toNat 0 :: r)) = a.getD ((a.length : Int) - 1 - k).toNat 0 + 4294967296 * wv r := by rw [wv_trimL]; rfl
  rw [List.length_cons] at ht
  repeat' (first | with_reducible refine run_seq ?_ | with_reducible refine run_block ?_ | with_reducible refine step_code ?_ | with_reducible refine step_blk ?_ | with_reducible refine run_skip ?_ | with_reducible refine run_exit ?_ | with_reducible refine exits_code ?_ | with_reducible refine exits_here ?_ | with_reducible refine exits_blk rfl ?_ | with_reducible refine exits_lp ?_ | with_reducible refine run_ret ?_ | ((first | with_reducible refine run_region ?_ | with_reducible refine run_draw (by kernel_rfl) ?_); simp only [↓guardP_tt, ↓guardP_tf, ↓guardP_ft, ↓guardP_ff, guardP_t, guardP_f, evalQ, evalR, effQ, effR, skipS, opEff, evO, plainV, lkS, lkM, updL, putS, tie_sz, tie_zero, tie_zeroB, tie_fld, tie_ek, tie_int, tie_isb, tie_eq2, tie_f1, tie_ms,  ti_f1, ti_ms, ti_sz, ti_zero, ti_zeroB, ti_fld, ti_ek, ti_int, ti_isb, ti_eq2, binA, binI, intOp, funOf_v, cloOf_v, calIds, appEff, frE, foldB, foldS, castL_self, K.enc, K.dec, K.zero, K.es, K.bytes, AV.part, AV.setPart, AV.cells, AV.agg, AV.nth, Bool.false_eq_true, callEff, pubs, pub, nilAV, MM.upd, MM.set, argS, gdst, opIds, lids, AV.ids, List.getD_cons_succ, List.getD_cons_zero, List.map, List.tail, List.headD, List.nil_append, List.append_nil, List.cons_append, List.length_nil, List.length_cons, List.zip_cons_cons, List.zip_nil_right, List.set_cons_zero, List.set_cons_succ, List.replicate, Option.isSome_some, Option.map_some, Bool.not_true, Bool.not_false, forall_const, false_implies, Nat.reduceAdd, Nat.reduceEqDiff, Nat.reduceLT, Nat.reduceSub, Nat.reduceMul, Nat.reduceLeDiff, ↓reduceIte, and_true, true_and, and_self, false_and, and_false, reduceCtorEq, env3, ctTrim, ctMul, ctSmall, ctCmpW, ctSubW]) | (with_reducible refine run_cond (by with_unfolding_all exact rfl) ?_ ?_ <;> intro hc <;> (try simp only [vb, decide_eq_true_eq, decide_eq_false_iff_not, beq_iff_eq, beq_eq_false_iff_ne, bne_iff_ne, bne_eq_false_iff_eq, Bool.not_eq_true', Bool.not_eq_false', reduceCtorEq] at hc) <;> (try (first | simp (disch := omega) only [wrap64, wrapu64, wrapu32, sh32, fdiv32, Int.tdiv_eq_ediv_of_nonneg, Int.tmod_eq_emod_of_nonneg, tn_add, tn_add1, Int.toNat_natCast, Int.toNat_zero, List.drop_zero] at hc | simp only [wrapu64m, wrapu32m] at hc))) | ((with_reducible refine compat_ok ?_); kernel_rfl) | with_reducible apply And.intro | (first | simp (disch := omega) only [wrap64, wrapu64, wrapu32, sh32, fdiv32, Int.tdiv_eq_ediv_of_nonneg, Int.tmod_eq_emod_of_nonneg, tn_add, tn_add1, Int.toNat_natCast, Int.toNat_zero, List.drop_zero] | simp only [wrapu64m, wrapu32m]) | (with_reducible intro hg; (try simp only [vb, decide_eq_true_eq, decide_eq_false_iff_not, beq_iff_eq, beq_eq_false_iff_ne, bne_iff_ne, bne_eq_false_iff_eq, Bool.not_eq_true', Bool.not_eq_false', reduceCtorEq] at hg); (try (first | simp (disch := omega) only [wrap64, wrapu64, wrapu32, sh32, fdiv32, Int.tdiv_eq_ediv_of_nonneg, Int.tmod_eq_emod_of_nonneg, tn_add, tn_add1, Int.toNat_natCast, Int.toNat_zero, List.drop_zero] at hg | simp only [wrapu64m, wrapu32m] at hg))))
  all_goals try omega
  have hx1 : wv b * 4294967296 ≥ 4294967296 * wv r + 4294967296 := by omega
  · have hlt := wv_lt_of_length hok2 ok1 hcb (by omega)
    have e : ((a.length : Int) - 1 - k).toNat = a.length - 1 - k := by omega
    generalize hr1 : trimL (a.getD ((a.length : Int) - 1 - k).toNat 0 :: r) = r1 at *
    refine run_loop (ι := Int × Int) (fun x => ⟨[(10, .v (.int .u64 x.1)), (11, .v (.int .u64 x.2)), (5, .lst .u32 r1), (9, vi ((a.length : Int) - 1 - k)), (35, vi k), (34, vi a.length), (4, .row 7), (0, .lst .u32 a), (1, .lst .u32 b)], [(7, some (.row 59 .u32 q false))], 8⟩)
      (fun x => 0 ≤ x.1 ∧ x.1 < x.2 ∧ x.2 ≤ 4294967296 ∧ wv b * x.1 ≤ wv r1 ∧ wv r1 < wv b * x.2) (fun x => (x.2 - x.1).toNat) (0, 1) ⟨by simp, by simp, by simp, by simp only; omega, by simp only; omega⟩ ?_ ?_
    · (refine AS.le_of ?_ ?_ <;> simp only [slLe, memLe, entLe, lkS, lkM, Nat.reduceEqDiff, Nat.reduceLT, or_true, true_or, reduceCtorEq, ↓reduceIte, and_true, true_and] <;> (repeat' with_reducible apply And.intro) <;> (try (first | ((with_reducible refine AV.le_refl ?_); rfl) | with_reducible exact AV.le_junk | with_reducible exact AV.le_nil | ((with_reducible refine AV.le_int ?_); omega) | (with_reducible refine AV.le_int ?_) | (with_reducible refine AV.le_bool ?_) | ((with_reducible refine AV.le_lst ?_); try rfl) | (with_reducible refine AV.le_q ?_ ?_ ?_) | exact fun _ _ h => h | (with_reducible refine RC_qle ?_ ?_ ?_))))
    rintro ⟨lo, hi⟩ ⟨g1, g2, g3, g4, g5⟩
    simp only at g1 g2 g3 g4 g5
    have hone : ∀ m : Int, 0 ≤ m → m < 4294967296 → okW [m] ∧ wv [m] = m := fun m h0 h1 => ⟨by intro x hx; simp at hx; omega, wv_one m⟩
    have hdg : ∀ m : Int, 0 ≤ m → m < 4294967296 → wv (trimL (digs (b.length + 1) (wv b * m))) = wv b * m := by
      intro m h0 h1
      rw [wv_trimL, wv_digs (Int.mul_nonneg (by omega) h0)]
      have h2 := wv_lt ok1
      have : wv b * m ≤ wv b * 4294967296 := Int.mul_le_mul_of_nonneg_left (by omega) (by omega)
      rw [Int.pow_succ]; omega
    have hlen : ∀ v : Int, (trimL (digs (b.length + 1) v)).length ≤ b.length + 1 := fun v => by have := trimL_length (digs (b.length + 1) v); rw [digs_length] at this; exact this
    have hl1 := hlen (wv b * ((lo + hi) / 2))
    have hl2 := hlen (wv b * lo)
    have hd1 := hdg ((lo + hi) / 2) (by omega) (by omega)
    have hd2 := hdg lo g1 (by omega)
    repeat' (first | with_reducible refine run_seq ?_ | with_reducible refine run_block ?_ | with_reducible refine step_code ?_ | with_reducible refine step_blk ?_ | with_reducible refine run_skip ?_ | with_reducible refine run_exit ?_ | with_reducible refine exits_code ?_ | with_reducible refine exits_here ?_ | with_reducible refine exits_blk rfl ?_ | with_reducible refine exits_lp ?_ | with_reducible refine run_ret ?_ | ((first | with_reducible refine run_region ?_ | with_reducible refine run_draw (by kernel_rfl) ?_); simp only [↓guardP_tt, ↓guardP_tf, ↓guardP_ft, ↓guardP_ff, guardP_t, guardP_f, evalQ, evalR, effQ, effR, skipS, opEff, evO, plainV, lkS, lkM, updL, putS, tie_sz, tie_zero, tie_zeroB, tie_fld, tie_ek, tie_int, tie_isb, tie_eq2, tie_f1, tie_ms,  ti_f1, ti_ms, ti_sz, ti_zero, ti_zeroB, ti_fld, ti_ek, ti_int, ti_isb, ti_eq2, binA, binI, intOp, funOf_v, cloOf_v, calIds, appEff, frE, foldB, foldS, castL_self, K.enc, K.dec, K.zero, K.es, K.bytes, AV.part, AV.setPart, AV.cells, AV.agg, AV.nth, Bool.false_eq_true, callEff, pubs, pub, nilAV, MM.upd, MM.set, argS, gdst, opIds, lids, AV.ids, List.getD_cons_succ, List.getD_cons_zero, List.map, List.tail, List.headD, List.nil_append, List.append_nil, List.cons_append, List.length_nil, List.length_cons, List.zip_cons_cons, List.zip_nil_right, List.set_cons_zero, List.set_cons_succ, List.replicate, Option.isSome_some, Option.map_some, Bool.not_true, Bool.not_false, forall_const, false_implies, Nat.reduceAdd, Nat.reduceEqDiff, Nat.reduceLT, Nat.reduceSub, Nat.reduceMul, Nat.reduceLeDiff, ↓reduceIte, and_true, true_and, and_self, false_and, and_false, reduceCtorEq, env3, ctTrim, ctMul, ctSmall, ctCmpW, ctSubW, wv_one, digs_length]) | (with_reducible refine run_cond (by with_unfolding_all exact rfl) ?_ ?_ <;> intro hc <;> (try simp only [vb, decide_eq_true_eq, decide_eq_false_iff_not, beq_iff_eq, beq_eq_false_iff_ne, bne_iff_ne, bne_eq_false_iff_eq, Bool.not_eq_true', Bool.not_eq_false', reduceCtorEq] at hc) <;> (try (first | simp (disch := omega) only [wrap64, wrapu64, wrapu32, sh32, fdiv32, Int.tdiv_eq_ediv_of_nonneg, Int.tmod_eq_emod_of_nonneg, tn_add, tn_add1, Int.toNat_natCast, Int.toNat_zero, List.drop_zero] at hc | simp only [wrapu64m, wrapu32m] at hc))) | ((with_reducible refine compat_ok ?_); kernel_rfl) | with_reducible apply And.intro | (first | simp (disch := omega) only [wrap64, wrapu64, wrapu32, sh32, fdiv32, Int.tdiv_eq_ediv_of_nonneg, Int.tmod_eq_emod_of_nonneg, tn_add, tn_add1, Int.toNat_natCast, Int.toNat_zero, List.drop_zero] | simp only [wrapu64m, wrapu32m]) | (with_reducible intro hg; (try simp only [vb, decide_eq_true_eq, decide_eq_false_iff_not, beq_iff_eq, beq_eq_false_iff_ne, bne_iff_ne, bne_eq_false_iff_eq, Bool.not_eq_true', Bool.not_eq_false', reduceCtorEq] at hg); (try (first | simp (disch := omega) only [wrap64, wrapu64, wrapu32, sh32, fdiv32, Int.tdiv_eq_ediv_of_nonneg, Int.tmod_eq_emod_of_nonneg, tn_add, tn_add1, Int.toNat_natCast, Int.toNat_zero, List.drop_zero] at hg | simp only [wrapu64m, wrapu32m] at hg))))
    all_goals try omega
    · have hcm := (cmpW_le (okW_trimL (okW_digs _ _)) hok2 (trimL_canon _) hcan).1 hc
      rw [hd1] at hcm
      refine step_lp ⟨((lo + hi) / 2, hi), ⟨by simp only; omega, by simp only; omega, g3, hcm, g5⟩, by simp only; omega, ?_⟩
      (refine AS.le_of ?_ ?_ <;> simp only [slLe, memLe, entLe, lkS, lkM, Nat.reduceEqDiff, Nat.reduceLT, or_true, true_or, reduceCtorEq, ↓reduceIte, and_true, true_and] <;> (repeat' with_reducible apply And.intro) <;> (try (first | ((with_reducible refine AV.le_refl ?_); rfl) | with_reducible exact AV.le_junk | with_reducible exact AV.le_nil | ((with_reducible refine AV.le_int ?_); omega) | (with_reducible refine AV.le_int ?_) | (with_reducible refine AV.le_bool ?_) | ((with_reducible refine AV.le_lst ?_); try rfl) | (with_reducible refine AV.le_q ?_ ?_ ?_) | exact fun _ _ h => h | (with_reducible refine RC_qle ?_ ?_ ?_))))
    · have hcm : ¬ (wv b * ((lo + hi) / 2) ≤ wv r1) := by rw [← hd1]; exact fun h => hc ((cmpW_le (okW_trimL (okW_digs _ _)) hok2 (trimL_canon _) hcan).2 h)
      refine step_lp ⟨(lo, (lo + hi) / 2), ⟨g1, by simp only; omega, by simp only; omega, g4, by simp only; omega⟩, by simp only; omega, ?_⟩
      (refine AS.le_of ?_ ?_ <;> simp only [slLe, memLe, entLe, lkS, lkM, Nat.reduceEqDiff, Nat.reduceLT, or_true, true_or, reduceCtorEq, ↓reduceIte, and_true, true_and] <;> (repeat' with_reducible apply And.intro) <;> (try (first | ((with_reducible refine AV.le_refl ?_); rfl) | with_reducible exact AV.le_junk | with_reducible exact AV.le_nil | ((with_reducible refine AV.le_int ?_); omega) | (with_reducible refine AV.le_int ?_) | (with_reducible refine AV.le_bool ?_) | ((with_reducible refine AV.le_lst ?_); try rfl) | (with_reducible refine AV.le_q ?_ ?_ ?_) | exact fun _ _ h => h | (with_reducible refine RC_qle ?_ ?_ ?_))))
    · have hlo : hi = lo + 1 := by omega
      subst hlo
      rw [hd2, e]
      have h8 : wv b * (lo + 1) = wv b * lo + wv b := by grind
      have hok3 : okW (digs (max r1.length (trimL (digs (b.length + 1) (wv b * lo))).length) (wv r1 - wv b * lo)) := okW_digs _ _
      have hv3 : wv (digs (max r1.length (trimL (digs (b.length + 1) (wv b * lo))).length) (wv r1 - wv b * lo)) = wv r1 - wv b * lo := by
        refine wv_digs (by omega) ?_
        have := wv_lt hok2
        have := pow_mono (show r1.length ≤ max r1.length (trimL (digs (b.length + 1) (wv b * lo))).length by omega)
        have := Int.mul_nonneg (show 0 ≤ wv b by omega) g1
        omega
      refine step_lp ⟨(k + 1, q.set (a.length - 1 - k) lo, trimL (digs (max r1.length (trimL (digs (b.length + 1) (wv b * lo))).length) (wv r1 - wv b * lo))), ⟨by simp only; omega, by simp [h1], okW_set h2 _ g1 (by omega), okW_trimL hok3, trimL_canon _, ?_, by simp only; rw [wv_trimL, hv3]; omega⟩, by simp only; omega, ?_⟩
      · simp only
        rw [wv_trimL, hv3, show a.length - (k + 1) = a.length - 1 - k by omega, wv_drop (l := a) (by omega), wv_drop (l := q.set _ _) (by simp; omega), getD_set (by omega), if_pos rfl, drop_set_of_lt _ (by omega), show a.length - 1 - k + 1 = a.length - k by omega, h5]
        rw [e] at hv1
        grind
      · (refine AS.le_of ?_ ?_ <;> simp only [slLe, memLe, entLe, lkS, lkM, Nat.reduceEqDiff, Nat.reduceLT, or_true, true_or, reduceCtorEq, ↓reduceIte, and_true, true_and] <;> (repeat' with_reducible apply And.intro) <;> (try (first | ((with_reducible refine AV.le_refl ?_); rfl) | with_reducible exact AV.le_junk | with_reducible exact AV.le_nil | ((with_reducible refine AV.le_int ?_); omega) | (with_reducible refine AV.le_int ?_) | (with_reducible refine AV.le_bool ?_) | ((with_reducible refine AV.le_lst ?_); try rfl) | (with_reducible refine AV.le_q ?_ ?_ ?_) | exact fun _ _ h => h | (with_reducible refine RC_qle ?_ ?_ ?_))))
  · skip
    have e : ((a.length : Int) - 1 - k).toNat = a.length - 1 - k := by omega
    generalize hr1 : trimL (a.getD ((a.length : Int) - 1 - k).toNat 0 :: r) = r1 at *
    refine run_loop (ι := Int × Int) (fun x => ⟨[(10, .v (.int .u64 x.1)), (11, .v (.int .u64 x.2)), (5, .lst .u32 r1), (9, vi ((a.length : Int) - 1 - k)), (35, vi k), (34, vi a.length), (4, .row 7), (0, .lst .u32 a), (1, .lst .u32 b)], [(7, some (.row 59 .u32 q false))], 8⟩)
      (fun x => 0 ≤ x.1 ∧ x.1 < x.2 ∧ x.2 ≤ 4294967296 ∧ wv b * x.1 ≤ wv r1 ∧ wv r1 < wv b * x.2) (fun x => (x.2 - x.1).toNat) (0, 4294967296) ⟨by simp, by simp, by simp, by simp only; omega, by simp only; omega⟩ ?_ ?_
    · (refine AS.le_of ?_ ?_ <;> simp only [slLe, memLe, entLe, lkS, lkM, Nat.reduceEqDiff, Nat.reduceLT, or_true, true_or, reduceCtorEq, ↓reduceIte, and_true, true_and] <;> (repeat' with_reducible apply And.intro) <;> (try (first | ((with_reducible refine AV.le_refl ?_); rfl) | with_reducible exact AV.le_junk | with_reducible exact AV.le_nil | ((with_reducible refine AV.le_int ?_); omega) | (with_reducible refine AV.le_int ?_) | (with_reducible refine AV.le_bool ?_) | ((with_reducible refine AV.le_lst ?_); try rfl) | (with_reducible refine AV.le_q ?_ ?_ ?_) | exact fun _ _ h => h | (with_reducible refine RC_qle ?_ ?_ ?_))))
    rintro ⟨lo, hi⟩ ⟨g1, g2, g3, g4, g5⟩
    simp only at g1 g2 g3 g4 g5
    have hone : ∀ m : Int, 0 ≤ m → m < 4294967296 → okW [m] ∧ wv [m] = m := fun m h0 h1 => ⟨by intro x hx; simp at hx; omega, wv_one m⟩
    have hdg : ∀ m : Int, 0 ≤ m → m < 4294967296 → wv (trimL (digs (b.length + 1) (wv b * m))) = wv b * m := by
      intro m h0 h1
      rw [wv_trimL, wv_digs (Int.mul_nonneg (by omega) h0)]
      have h2 := wv_lt ok1
      have : wv b * m ≤ wv b * 4294967296 := Int.mul_le_mul_of_nonneg_left (by omega) (by omega)
      rw [Int.pow_succ]; omega
    have hlen : ∀ v : Int, (trimL (digs (b.length + 1) v)).length ≤ b.length + 1 := fun v => by have := trimL_length (digs (b.length + 1) v); rw [digs_length] at this; exact this
    have hl1 := hlen (wv b * ((lo + hi) / 2))
    have hl2 := hlen (wv b * lo)
    have hd1 := hdg ((lo + hi) / 2) (by omega) (by omega)
    have hd2 := hdg lo g1 (by omega)
    repeat' (first | with_reducible refine run_seq ?_ | with_reducible refine run_block ?_ | with_reducible refine step_code ?_ | with_reducible refine step_blk ?_ | with_reducible refine run_skip ?_ | with_reducible refine run_exit ?_ | with_reducible refine exits_code ?_ | with_reducible refine exits_here ?_ | with_reducible refine exits_blk rfl ?_ | with_reducible refine exits_lp ?_ | with_reducible refine run_ret ?_ | ((first | with_reducible refine run_region ?_ | with_reducible refine run_draw (by kernel_rfl) ?_); simp only [↓guardP_tt, ↓guardP_tf, ↓guardP_ft, ↓guardP_ff, guardP_t, guardP_f, evalQ, evalR, effQ, effR, skipS, opEff, evO, plainV, lkS, lkM, updL, putS, tie_sz, tie_zero, tie_zeroB, tie_fld, tie_ek, tie_int, tie_isb, tie_eq2, tie_f1, tie_ms,  ti_f1, ti_ms, ti_sz, ti_zero, ti_zeroB, ti_fld, ti_ek, ti_int, ti_isb, ti_eq2, binA, binI, intOp, funOf_v, cloOf_v, calIds, appEff, frE, foldB, foldS, castL_self, K.enc, K.dec, K.zero, K.es, K.bytes, AV.part, AV.setPart, AV.cells, AV.agg, AV.nth, Bool.false_eq_true, callEff, pubs, pub, nilAV, MM.upd, MM.set, argS, gdst, opIds, lids, AV.ids, List.getD_cons_succ, List.getD_cons_zero, List.map, List.tail, List.headD, List.nil_append, List.append_nil, List.cons_append, List.length_nil, List.length_cons, List.zip_cons_cons, List.zip_nil_right, List.set_cons_zero, List.set_cons_succ, List.replicate, Option.isSome_some, Option.map_some, Bool.not_true, Bool.not_false, forall_const, false_implies, Nat.reduceAdd, Nat.reduceEqDiff, Nat.reduceLT, Nat.reduceSub, Nat.reduceMul, Nat.reduceLeDiff, ↓reduceIte, and_true, true_and, and_self, false_and, and_false, reduceCtorEq, env3, ctTrim, ctMul, ctSmall, ctCmpW, ctSubW, wv_one, digs_length]) | (with_reducible refine run_cond (by with_unfolding_all exact rfl) ?_ ?_ <;> intro hc <;> (try simp only [vb, decide_eq_true_eq, decide_eq_false_iff_not, beq_iff_eq, beq_eq_false_iff_ne, bne_iff_ne, bne_eq_false_iff_eq, Bool.not_eq_true', Bool.not_eq_false', reduceCtorEq] at hc) <;> (try (first | simp (disch := omega) only [wrap64, wrapu64, wrapu32, sh32, fdiv32, Int.tdiv_eq_ediv_of_nonneg, Int.tmod_eq_emod_of_nonneg, tn_add, tn_add1, Int.toNat_natCast, Int.toNat_zero, List.drop_zero] at hc | simp only [wrapu64m, wrapu32m] at hc))) | ((with_reducible refine compat_ok ?_); kernel_rfl) | with_reducible apply And.intro | (first | simp (disch := omega) only [wrap64, wrapu64, wrapu32, sh32, fdiv32, Int.tdiv_eq_ediv_of_nonneg, Int.tmod_eq_emod_of_nonneg, tn_add, tn_add1, Int.toNat_natCast, Int.toNat_zero, List.drop_zero] | simp only [wrapu64m, wrapu32m]) | (with_reducible intro hg; (try simp only [vb, decide_eq_true_eq, decide_eq_false_iff_not, beq_iff_eq, beq_eq_false_iff_ne, bne_iff_ne, bne_eq_false_iff_eq, Bool.not_eq_true', Bool.not_eq_false', reduceCtorEq] at hg); (try (first | simp (disch := omega) only [wrap64, wrapu64, wrapu32, sh32, fdiv32, Int.tdiv_eq_ediv_of_nonneg, Int.tmod_eq_emod_of_nonneg, tn_add, tn_add1, Int.toNat_natCast, Int.toNat_zero, List.drop_zero] at hg | simp only [wrapu64m, wrapu32m] at hg))))
    all_goals try omega
    · have hcm := (cmpW_le (okW_trimL (okW_digs _ _)) hok2 (trimL_canon _) hcan).1 hc
      rw [hd1] at hcm
      refine step_lp ⟨((lo + hi) / 2, hi), ⟨by simp only; omega, by simp only; omega, g3, hcm, g5⟩, by simp only; omega, ?_⟩
      (refine AS.le_of ?_ ?_ <;> simp only [slLe, memLe, entLe, lkS, lkM, Nat.reduceEqDiff, Nat.reduceLT, or_true, true_or, reduceCtorEq, ↓reduceIte, and_true, true_and] <;> (repeat' with_reducible apply And.intro) <;> (try (first | ((with_reducible refine AV.le_refl ?_); rfl) | with_reducible exact AV.le_junk | with_reducible exact AV.le_nil | ((with_reducible refine AV.le_int ?_); omega) | (with_reducible refine AV.le_int ?_) | (with_reducible refine AV.le_bool ?_) | ((with_reducible refine AV.le_lst ?_); try rfl) | (with_reducible refine AV.le_q ?_ ?_ ?_) | exact fun _ _ h => h | (with_reducible refine RC_qle ?_ ?_ ?_))))
    · have hcm : ¬ (wv b * ((lo + hi) / 2) ≤ wv r1) := by rw [← hd1]; exact fun h => hc ((cmpW_le (okW_trimL (okW_digs _ _)) hok2 (trimL_canon _) hcan).2 h)
      refine step_lp ⟨(lo, (lo + hi) / 2), ⟨g1, by simp only; omega, by simp only; omega, g4, by simp only; omega⟩, by simp only; omega, ?_⟩
      (refine AS.le_of ?_ ?_ <;> simp only [slLe, memLe, entLe, lkS, lkM, Nat.reduceEqDiff, Nat.reduceLT, or_true, true_or, reduceCtorEq, ↓reduceIte, and_true, true_and] <;> (repeat' with_reducible apply And.intro) <;> (try (first | ((with_reducible refine AV.le_refl ?_); rfl) | with_reducible exact AV.le_junk | with_reducible exact AV.le_nil | ((with_reducible refine AV.le_int ?_); omega) | (with_reducible refine AV.le_int ?_) | (with_reducible refine AV.le_bool ?_) | ((with_reducible refine AV.le_lst ?_); try rfl) | (with_reducible refine AV.le_q ?_ ?_ ?_) | exact fun _ _ h => h | (with_reducible refine RC_qle ?_ ?_ ?_))))
    · have hlo : hi = lo + 1 := by omega
      subst hlo
      rw [hd2, e]
      have h8 : wv b * (lo + 1) = wv b * lo + wv b := by grind
      have hok3 : okW (digs (max r1.length (trimL (digs (b.length + 1) (wv b * lo))).length) (wv r1 - wv b * lo)) := okW_digs _ _
      have hv3 : wv (digs (max r1.length (trimL (digs (b.length + 1) (wv b * lo))).length) (wv r1 - wv b * lo)) = wv r1 - wv b * lo := by
        refine wv_digs (by omega) ?_
        have := wv_lt hok2
        have := pow_mono (show r1.length ≤ max r1.length (trimL (digs (b.length + 1) (wv b * lo))).length by omega)
        have := Int.mul_nonneg (show 0 ≤ wv b by omega) g1
        omega
      refine step_lp ⟨(k + 1, q.set (a.length - 1 - k) lo, trimL (digs (max r1.length (trimL (digs (b.length + 1) (wv b * lo))).length) (wv r1 - wv b * lo))), ⟨by simp only; omega, by simp [h1], okW_set h2 _ g1 (by omega), okW_trimL hok3, trimL_canon _, ?_, by simp only; rw [wv_trimL, hv3]; omega⟩, by simp only; omega, ?_⟩
      · simp only
        rw [wv_trimL, hv3, show a.length - (k + 1) = a.length - 1 - k by omega, wv_drop (l := a) (by omega), wv_drop (l := q.set _ _) (by simp; omega), getD_set (by omega), if_pos rfl, drop_set_of_lt _ (by omega), show a.length - 1 - k + 1 = a.length - k by omega, h5]
        rw [e] at hv1
        grind
      · (refine AS.le_of ?_ ?_ <;> simp only [slLe, memLe, entLe, lkS, lkM, Nat.reduceEqDiff, Nat.reduceLT, or_true, true_or, reduceCtorEq, ↓reduceIte, and_true, true_and] <;> (repeat' with_reducible apply And.intro) <;> (try (first | ((with_reducible refine AV.le_refl ?_); rfl) | with_reducible exact AV.le_junk | with_reducible exact AV.le_nil | ((with_reducible refine AV.le_int ?_); omega) | (with_reducible refine AV.le_int ?_) | (with_reducible refine AV.le_bool ?_) | ((with_reducible refine AV.le_lst ?_); try rfl) | (with_reducible refine AV.le_q ?_ ?_ ?_) | exact fun _ _ h => h | (with_reducible refine RC_qle ?_ ?_ ?_))))
  · simp only [finR, resAs, resA, resLe, lsLe, lkS, lkM, pubs, pub, tie_sz, ti_sz, tie_ek, ti_ek,  nilAV, MM.upd, MM.set, AV.part, AV.cells, AV.agg, List.tail, List.headD, Nat.reduceAdd, Nat.reduceEqDiff, Nat.reduceLT, ↓reduceIte, and_true, true_and, and_self, reduceCtorEq]
    rw [show a.length - k = 0 by omega] at h5
    simp only [List.drop_zero] at h5
    have e1 : wv q = wv a / wv b := by rw [h5, Int.add_comm, Int.add_mul_ediv_right _ _ (by omega), Int.ediv_eq_zero_of_lt hr0 h6]; omega
    have e2 : wv r = wv a % wv b := by rw [h5, Int.add_comm, Int.add_mul_emod_self_right, Int.emod_eq_of_lt hr0 h6]
    refine ⟨AVle_lst (by rw [← eq_digs_of h2 h1 e1]), AVle_lst ?_⟩
    rw [← trim_digs (n := b.length) h3 e2 (by have := wv_lt ok1; omega), trimL_of_canon h4]
end Go.AE

/- Contracts: package whole, the functions of numbers. -/
namespace Go.AE
open Go.Proofs Go.RowKit
set_option linter.unusedVariables false
set_option linter.unusedSimpArgs false
set_option maxRecDepth 20000

def zOf : AV → Option (Int × Nat)
  | .z x c s => some (x, s)
  | .pair (.v (.bool n)) (.lst .u32 ws) => some (zval n ws, ws.length)
  | _ => none
theorem open_zOf {F : Fz} {a : AV} {x : Int} {s : Nat} (h : zOf a = some (x, s)) {v : Value} (hv : RVp F a v) : ∃ neg ws, RVp F (.pair (vb neg) (.lst .u32 ws)) v ∧ okW ws ∧ ws.length ≤ s ∧ x = zval neg ws := by
  unfold zOf at h
  split at h <;> cases h
  · obtain ⟨n, w, h1, h2, h3, h4, _⟩ := open_z hv
    exact ⟨n, w, h1, h2, h3, h4⟩
  · exact ⟨_, _, hv, okW_pair hv, Nat.le_refl _, rfl⟩
def ctZ2 (f : Int → Int → Int) (g : Nat → Nat → Nat) : Ct := fun l => match l with
  | [a, b] => match zOf a, zOf b with
    | some (x, s), some (y, t) => some (s ≤ 68719476736 ∧ t ≤ 68719476736, .z (f x y) true (g s t))
    | _, _ => none
  | _ => none
theorem dadd {a b : List Int} (ha : okW a) (hb : okW b) : wv (digs (max a.length b.length + 1) (wv a + wv b)) = wv a + wv b := by
  refine wv_digs (by have := wv_nonneg ha; have := wv_nonneg hb; omega) ?_
  have := wv_lt ha
  have := wv_lt hb
  have := pow_mono (show a.length ≤ max a.length b.length by omega)
  have := pow_mono (show b.length ≤ max a.length b.length by omega)
  have := pow_pos (max a.length b.length)
  rw [Int.pow_succ]; omega
theorem dsub {a b : List Int} (ha : okW a) (hb : okW b) (h : wv b ≤ wv a) : wv (digs (max a.length b.length) (wv a - wv b)) = wv a - wv b := by
  refine wv_digs (by omega) ?_
  have := wv_lt ha
  have := wv_nonneg hb
  have := pow_mono (show a.length ≤ max a.length b.length by omega)
  omega
theorem dmul {a b : List Int} (ha : okW a) (hb : okW b) : wv (digs (a.length + b.length) (wv a * wv b)) = wv a * wv b := by
  refine wv_digs (Int.mul_nonneg (wv_nonneg ha) (wv_nonneg hb)) ?_
  rw [Int.pow_add]
  have h1 := wv_lt ha
  have h2 := wv_lt hb
  have h3 := wv_nonneg ha
  have h4 := wv_nonneg hb
  have h5 := pow_pos a.length
  have h6 : wv a * wv b ≤ wv a * 4294967296 ^ b.length := Int.mul_le_mul_of_nonneg_left (by omega) h3
  have h7 : wv a * 4294967296 ^ b.length < 4294967296 ^ a.length * 4294967296 ^ b.length := Int.mul_lt_mul_of_pos_right h1 (pow_pos _)
  omega

def env4 : Env := fun g => match g with | 130 => some ctTrim | 133 => some ctMade | 134 => some ctMul | 151 => some ctAddW | 152 => some ctCmpW | 153 => some ctSubW | 148 => some ctClone32 | _ => none
theorem env4_ok : EnvOk Tryz.prog env4 := by
  intro g ct h
  simp only [env4] at h
  split at h <;> first | (cases h; exact ok130) | (cases h; exact ok133) | (cases h; exact ok134) | (cases h; exact ok151) | (cases h; exact ok152) | (cases h; exact ok153) | (cases h; exact ok148) | cases h
def ctAdd : Ct := ctZ2 (· + ·) (fun s t => max s t + 1)
theorem ok137 : Sound Tryz.prog 137 ctAdd := by
  refine sound_of (fn := Tryz.f137) rfl rfl rfl tiOk env4_ok mix ?_ (by intro l p r h; unfold ctAdd ctZ2 at h; split at h <;> first | cases h | (split at h <;> cases h; exact Nat.le_of_ble_eq_true rfl))
  intro l p r h hp F vs hv
  unfold ctAdd ctZ2 at h
  split at h
  rotate_left
  · cases h
  split at h <;> cases h
  rename_i az bz _ _ x s y t ha hb
  obtain ⟨v0, r0, rfl, a0, v1, r1, rfl, a1, hv⟩ := hv
  obtain ⟨n0, w0, a0, ok0, len0, val0⟩ := open_zOf ha a0
  obtain ⟨n1, w1, a1, ok1, len1, val1⟩ := open_zOf hb a1
  refine ⟨[_, _], ⟨_, _, rfl, a0, _, _, rfl, a1, hv⟩, ?_⟩
  have t0 := trimL_length w0
  have t1 := trimL_length w1
  show Run Tryz.prog ti env4 42 (finR ti [.cell 4 25] _) _ _ _
  repeat' (first | with_reducible refine run_seq ?_ | with_reducible refine run_block ?_ | with_reducible refine step_code ?_ | with_reducible refine step_blk ?_ | with_reducible refine run_skip ?_ | with_reducible refine run_exit ?_ | with_reducible refine exits_code ?_ | with_reducible refine exits_here ?_ | with_reducible refine exits_blk rfl ?_ | with_reducible refine exits_lp ?_ | with_reducible refine run_ret ?_ | ((first | with_reducible refine run_region ?_ | with_reducible refine run_draw (by kernel_rfl) ?_); simp only [↓guardP_tt, ↓guardP_tf, ↓guardP_ft, ↓guardP_ff, guardP_t, guardP_f, evalQ, evalR, effQ, effR, skipS, opEff, evO, plainV, lkS, lkM, updL, putS, tie_sz, tie_zero, tie_zeroB, tie_fld, tie_ek, tie_int, tie_isb, tie_eq2, tie_f1, tie_ms,  ti_f1, ti_ms, ti_sz, ti_zero, ti_zeroB, ti_fld, ti_ek, ti_int, ti_isb, ti_eq2, binA, binI, intOp, funOf_v, cloOf_v, calIds, appEff, frE, foldB, foldS, castL_self, K.enc, K.dec, K.zero, K.es, K.bytes, AV.part, AV.setPart, AV.cells, AV.agg, AV.nth, Bool.false_eq_true, callEff, pubs, pub, nilAV, MM.upd, MM.set, argS, gdst, opIds, lids, AV.ids, List.getD_cons_succ, List.getD_cons_zero, List.map, List.tail, List.headD, List.nil_append, List.append_nil, List.cons_append, List.length_nil, List.length_cons, List.zip_cons_cons, List.zip_nil_right, List.set_cons_zero, List.set_cons_succ, List.replicate, Option.isSome_some, Option.map_some, Bool.not_true, Bool.not_false, forall_const, false_implies, Nat.reduceAdd, Nat.reduceEqDiff, Nat.reduceLT, Nat.reduceSub, Nat.reduceMul, Nat.reduceLeDiff, ↓reduceIte, and_true, true_and, and_self, false_and, and_false, reduceCtorEq, env4, ctTrim, ctMade, ctMul, ctAddW, ctCmpW, ctSubW, ctClone32, digs_length]) | (with_reducible refine run_cond (by with_unfolding_all exact rfl) ?_ ?_ <;> intro hc <;> (try simp only [vb, decide_eq_true_eq, decide_eq_false_iff_not, beq_iff_eq, beq_eq_false_iff_ne, bne_iff_ne, bne_eq_false_iff_eq, Bool.not_eq_true', Bool.not_eq_false', reduceCtorEq] at hc) <;> (try (first | simp (disch := omega) only [wrap64, wrapu64, wrapu32, sh32, fdiv32, Int.tdiv_eq_ediv_of_nonneg, Int.tmod_eq_emod_of_nonneg, tn_add, tn_add1, Int.toNat_natCast, Int.toNat_zero, List.drop_zero] at hc | simp only [wrapu64m, wrapu32m] at hc))) | ((with_reducible refine compat_ok ?_); kernel_rfl) | with_reducible apply And.intro | (first | simp (disch := omega) only [wrap64, wrapu64, wrapu32, sh32, fdiv32, Int.tdiv_eq_ediv_of_nonneg, Int.tmod_eq_emod_of_nonneg, tn_add, tn_add1, Int.toNat_natCast, Int.toNat_zero, List.drop_zero] | simp only [wrapu64m, wrapu32m]) | (with_reducible intro hg; (try simp only [vb, decide_eq_true_eq, decide_eq_false_iff_not, beq_iff_eq, beq_eq_false_iff_ne, bne_iff_ne, bne_eq_false_iff_eq, Bool.not_eq_true', Bool.not_eq_false', reduceCtorEq] at hg); (try (first | simp (disch := omega) only [wrap64, wrapu64, wrapu32, sh32, fdiv32, Int.tdiv_eq_ediv_of_nonneg, Int.tmod_eq_emod_of_nonneg, tn_add, tn_add1, Int.toNat_natCast, Int.toNat_zero, List.drop_zero] at hg | simp only [wrapu64m, wrapu32m] at hg))))
  all_goals try omega
  · simp only [finR, resAs, resA, resLe, lsLe, lkS, lkM, pubs, pub, tie_sz, ti_sz, tie_ek, ti_ek,  nilAV, MM.upd, MM.set, AV.part, AV.cells, AV.agg, List.tail, List.headD, Nat.reduceAdd, Nat.reduceEqDiff, Nat.reduceLT, ↓reduceIte, and_true, true_and, and_self, reduceCtorEq]
    refine AVle_zz ?_ (by omega) (fun _ => rfl)
    have := dadd (okW_trimL ok0) (okW_trimL ok1)
    rw [val0, val1, hc]
    simp only [wv_trimL] at this
    cases n1 <;> simp [zval, this, wv_trimL] <;> omega
  · exact (cmpW_ge (okW_trimL ok0) (okW_trimL ok1) (trimL_canon _) (trimL_canon _)).1 hc
  · simp only [finR, resAs, resA, resLe, lsLe, lkS, lkM, pubs, pub, tie_sz, ti_sz, tie_ek, ti_ek,  nilAV, MM.upd, MM.set, AV.part, AV.cells, AV.agg, List.tail, List.headD, Nat.reduceAdd, Nat.reduceEqDiff, Nat.reduceLT, ↓reduceIte, and_true, true_and, and_self, reduceCtorEq]
    refine AVle_zz ?_ (by omega) (fun _ => rfl)
    have := dsub (okW_trimL ok0) (okW_trimL ok1) ((cmpW_ge (okW_trimL ok0) (okW_trimL ok1) (trimL_canon _) (trimL_canon _)).1 hc)
    rw [val0, val1]
    simp only [wv_trimL] at this
    cases n0 <;> cases n1 <;> first | exact absurd rfl hc | (simp [zval, this, wv_trimL]; try omega)
  · have : ¬ (wv (trimL w1) ≤ wv (trimL w0)) := fun h => hc ((cmpW_ge (okW_trimL ok0) (okW_trimL ok1) (trimL_canon _) (trimL_canon _)).2 h)
    omega
  · have h2 : ¬ (wv (trimL w1) ≤ wv (trimL w0)) := fun h => hc ((cmpW_ge (okW_trimL ok0) (okW_trimL ok1) (trimL_canon _) (trimL_canon _)).2 h)
    simp only [finR, resAs, resA, resLe, lsLe, lkS, lkM, pubs, pub, tie_sz, ti_sz, tie_ek, ti_ek,  nilAV, MM.upd, MM.set, AV.part, AV.cells, AV.agg, List.tail, List.headD, Nat.reduceAdd, Nat.reduceEqDiff, Nat.reduceLT, ↓reduceIte, and_true, true_and, and_self, reduceCtorEq]
    refine AVle_zz ?_ (by omega) (fun _ => rfl)
    have := dsub (okW_trimL ok1) (okW_trimL ok0) (by omega)
    rw [val0, val1]
    simp only [wv_trimL] at this
    cases n0 <;> cases n1 <;> first | exact absurd rfl hc | (simp [zval, this, wv_trimL]; try omega)

def env5 : Env := fun g => match g with | 137 => some ctAdd | _ => none
theorem env5_ok : EnvOk Tryz.prog env5 := by
  intro g ct h
  simp only [env5] at h
  split at h <;> first | (cases h; exact ok137) | cases h
def ctSub : Ct := fun l => match l with
  | [.z x c s, .z y d t] => some (s ≤ 68719476736 ∧ t ≤ 68719476736, .z (x - y) true (max s t + 1))
  | _ => none
theorem ok132 : Sound Tryz.prog 132 ctSub := by
  refine sound_of (fn := Tryz.f132) rfl rfl rfl tiOk env5_ok mix ?_ (by intro l p r h; unfold ctSub at h; split at h <;> cases h <;> exact Nat.le_of_ble_eq_true rfl)
  intro l p r h hp F vs hv
  unfold ctSub at h
  split at h <;> cases h
  rename_i x c s y d t
  obtain ⟨v0, rest0, rfl, a0, hv⟩ := hv
  obtain ⟨n0, w0, a0, ok0, len0, val0, can0⟩ := open_z a0
  obtain ⟨v1, rest1, rfl, a1, hv⟩ := hv
  obtain ⟨n1, w1, a1, ok1, len1, val1, can1⟩ := open_z a1
  refine ⟨[_, _], ⟨_, _, rfl, a0, _, _, rfl, a1, hv⟩, ?_⟩
  show Run Tryz.prog ti env5 13 (finR ti [.cell 4 25] _) _ _ _
  repeat' (first | with_reducible refine run_seq ?_ | with_reducible refine run_block ?_ | with_reducible refine step_code ?_ | with_reducible refine step_blk ?_ | with_reducible refine run_skip ?_ | with_reducible refine run_exit ?_ | with_reducible refine exits_code ?_ | with_reducible refine exits_here ?_ | with_reducible refine exits_blk rfl ?_ | with_reducible refine exits_lp ?_ | with_reducible refine run_ret ?_ | ((first | with_reducible refine run_region ?_ | with_reducible refine run_draw (by kernel_rfl) ?_); simp only [↓guardP_tt, ↓guardP_tf, ↓guardP_ft, ↓guardP_ff, guardP_t, guardP_f, evalQ, evalR, effQ, effR, skipS, opEff, evO, plainV, lkS, lkM, updL, putS, tie_sz, tie_zero, tie_zeroB, tie_fld, tie_ek, tie_int, tie_isb, tie_eq2, tie_f1, tie_ms,  ti_f1, ti_ms, ti_sz, ti_zero, ti_zeroB, ti_fld, ti_ek, ti_int, ti_isb, ti_eq2, binA, binI, intOp, funOf_v, cloOf_v, calIds, appEff, frE, foldB, foldS, castL_self, K.enc, K.dec, K.zero, K.es, K.bytes, AV.part, AV.setPart, AV.cells, AV.agg, AV.nth, Bool.false_eq_true, callEff, pubs, pub, nilAV, MM.upd, MM.set, argS, gdst, opIds, lids, AV.ids, List.getD_cons_succ, List.getD_cons_zero, List.map, List.tail, List.headD, List.nil_append, List.append_nil, List.cons_append, List.length_nil, List.length_cons, List.zip_cons_cons, List.zip_nil_right, List.set_cons_zero, List.set_cons_succ, List.replicate, Option.isSome_some, Option.map_some, Bool.not_true, Bool.not_false, forall_const, false_implies, Nat.reduceAdd, Nat.reduceEqDiff, Nat.reduceLT, Nat.reduceSub, Nat.reduceMul, Nat.reduceLeDiff, ↓reduceIte, and_true, true_and, and_self, false_and, and_false, reduceCtorEq, env5, ctAdd, ctZ2, zOf]) | (with_reducible refine run_cond (by with_unfolding_all exact rfl) ?_ ?_ <;> intro hc <;> (try simp only [vb, decide_eq_true_eq, decide_eq_false_iff_not, beq_iff_eq, beq_eq_false_iff_ne, bne_iff_ne, bne_eq_false_iff_eq, Bool.not_eq_true', Bool.not_eq_false', reduceCtorEq] at hc) <;> (try (first | simp (disch := omega) only [wrap64, wrapu64, wrapu32, sh32, fdiv32, Int.tdiv_eq_ediv_of_nonneg, Int.tmod_eq_emod_of_nonneg, tn_add, tn_add1, Int.toNat_natCast, Int.toNat_zero, List.drop_zero] at hc | simp only [wrapu64m, wrapu32m] at hc))) | ((with_reducible refine compat_ok ?_); kernel_rfl) | with_reducible apply And.intro | (first | simp (disch := omega) only [wrap64, wrapu64, wrapu32, sh32, fdiv32, Int.tdiv_eq_ediv_of_nonneg, Int.tmod_eq_emod_of_nonneg, tn_add, tn_add1, Int.toNat_natCast, Int.toNat_zero, List.drop_zero] | simp only [wrapu64m, wrapu32m]) | (with_reducible intro hg; (try simp only [vb, decide_eq_true_eq, decide_eq_false_iff_not, beq_iff_eq, beq_eq_false_iff_ne, bne_iff_ne, bne_eq_false_iff_eq, Bool.not_eq_true', Bool.not_eq_false', reduceCtorEq] at hg); (try (first | simp (disch := omega) only [wrap64, wrapu64, wrapu32, sh32, fdiv32, Int.tdiv_eq_ediv_of_nonneg, Int.tmod_eq_emod_of_nonneg, tn_add, tn_add1, Int.toNat_natCast, Int.toNat_zero, List.drop_zero] at hg | simp only [wrapu64m, wrapu32m] at hg))))
  all_goals try omega
  simp only [finR, resAs, resA, resLe, lsLe, lkS, lkM, pubs, pub, tie_sz, ti_sz, tie_ek, ti_ek,  nilAV, MM.upd, MM.set, AV.part, AV.cells, AV.agg, List.tail, List.headD, Nat.reduceAdd, Nat.reduceEqDiff, Nat.reduceLT, ↓reduceIte, and_true, true_and, and_self, reduceCtorEq]
  refine AVle_zz ?_ (by omega) (fun _ => rfl)
  rw [val0, val1]
  cases n1 <;> simp [zval] <;> omega
def ctMulZ : Ct := fun l => match l with
  | [.z x c s, .z y d t] => some (s ≤ 68719476736 ∧ t ≤ 68719476736, .z (x * y) true (s + t))
  | _ => none
theorem ok99 : Sound Tryz.prog 99 ctMulZ := by
  refine sound_of (fn := Tryz.f99) rfl rfl rfl tiOk env4_ok mix ?_ (by intro l p r h; unfold ctMulZ at h; split at h <;> cases h <;> exact Nat.le_of_ble_eq_true rfl)
  intro l p r h hp F vs hv
  unfold ctMulZ at h
  split at h <;> cases h
  rename_i x c s y d t
  obtain ⟨v0, rest0, rfl, a0, hv⟩ := hv
  obtain ⟨n0, w0, a0, ok0, len0, val0, can0⟩ := open_z a0
  obtain ⟨v1, rest1, rfl, a1, hv⟩ := hv
  obtain ⟨n1, w1, a1, ok1, len1, val1, can1⟩ := open_z a1
  refine ⟨[_, _], ⟨_, _, rfl, a0, _, _, rfl, a1, hv⟩, ?_⟩
  have t0 := trimL_length w0
  have t1 := trimL_length w1
  show Run Tryz.prog ti env4 18 (finR ti [.cell 4 25] _) _ _ _
  repeat' (first | with_reducible refine run_seq ?_ | with_reducible refine run_block ?_ | with_reducible refine step_code ?_ | with_reducible refine step_blk ?_ | with_reducible refine run_skip ?_ | with_reducible refine run_exit ?_ | with_reducible refine exits_code ?_ | with_reducible refine exits_here ?_ | with_reducible refine exits_blk rfl ?_ | with_reducible refine exits_lp ?_ | with_reducible refine run_ret ?_ | ((first | with_reducible refine run_region ?_ | with_reducible refine run_draw (by kernel_rfl) ?_); simp only [↓guardP_tt, ↓guardP_tf, ↓guardP_ft, ↓guardP_ff, guardP_t, guardP_f, evalQ, evalR, effQ, effR, skipS, opEff, evO, plainV, lkS, lkM, updL, putS, tie_sz, tie_zero, tie_zeroB, tie_fld, tie_ek, tie_int, tie_isb, tie_eq2, tie_f1, tie_ms,  ti_f1, ti_ms, ti_sz, ti_zero, ti_zeroB, ti_fld, ti_ek, ti_int, ti_isb, ti_eq2, binA, binI, intOp, funOf_v, cloOf_v, calIds, appEff, frE, foldB, foldS, castL_self, K.enc, K.dec, K.zero, K.es, K.bytes, AV.part, AV.setPart, AV.cells, AV.agg, AV.nth, Bool.false_eq_true, callEff, pubs, pub, nilAV, MM.upd, MM.set, argS, gdst, opIds, lids, AV.ids, List.getD_cons_succ, List.getD_cons_zero, List.map, List.tail, List.headD, List.nil_append, List.append_nil, List.cons_append, List.length_nil, List.length_cons, List.zip_cons_cons, List.zip_nil_right, List.set_cons_zero, List.set_cons_succ, List.replicate, Option.isSome_some, Option.map_some, Bool.not_true, Bool.not_false, forall_const, false_implies, Nat.reduceAdd, Nat.reduceEqDiff, Nat.reduceLT, Nat.reduceSub, Nat.reduceMul, Nat.reduceLeDiff, ↓reduceIte, and_true, true_and, and_self, false_and, and_false, reduceCtorEq, env4, ctTrim, ctMade, ctMul, ctAddW, ctCmpW, ctSubW, ctClone32, digs_length]) | (with_reducible refine run_cond (by with_unfolding_all exact rfl) ?_ ?_ <;> intro hc <;> (try simp only [vb, decide_eq_true_eq, decide_eq_false_iff_not, beq_iff_eq, beq_eq_false_iff_ne, bne_iff_ne, bne_eq_false_iff_eq, Bool.not_eq_true', Bool.not_eq_false', reduceCtorEq] at hc) <;> (try (first | simp (disch := omega) only [wrap64, wrapu64, wrapu32, sh32, fdiv32, Int.tdiv_eq_ediv_of_nonneg, Int.tmod_eq_emod_of_nonneg, tn_add, tn_add1, Int.toNat_natCast, Int.toNat_zero, List.drop_zero] at hc | simp only [wrapu64m, wrapu32m] at hc))) | ((with_reducible refine compat_ok ?_); kernel_rfl) | with_reducible apply And.intro | (first | simp (disch := omega) only [wrap64, wrapu64, wrapu32, sh32, fdiv32, Int.tdiv_eq_ediv_of_nonneg, Int.tmod_eq_emod_of_nonneg, tn_add, tn_add1, Int.toNat_natCast, Int.toNat_zero, List.drop_zero] | simp only [wrapu64m, wrapu32m]) | (with_reducible intro hg; (try simp only [vb, decide_eq_true_eq, decide_eq_false_iff_not, beq_iff_eq, beq_eq_false_iff_ne, bne_iff_ne, bne_eq_false_iff_eq, Bool.not_eq_true', Bool.not_eq_false', reduceCtorEq] at hg); (try (first | simp (disch := omega) only [wrap64, wrapu64, wrapu32, sh32, fdiv32, Int.tdiv_eq_ediv_of_nonneg, Int.tmod_eq_emod_of_nonneg, tn_add, tn_add1, Int.toNat_natCast, Int.toNat_zero, List.drop_zero] at hg | simp only [wrapu64m, wrapu32m] at hg))))
  all_goals try omega
  simp only [finR, resAs, resA, resLe, lsLe, lkS, lkM, pubs, pub, tie_sz, ti_sz, tie_ek, ti_ek,  nilAV, MM.upd, MM.set, AV.part, AV.cells, AV.agg, List.tail, List.headD, Nat.reduceAdd, Nat.reduceEqDiff, Nat.reduceLT, ↓reduceIte, and_true, true_and, and_self, reduceCtorEq]
  refine AVle_zz ?_ (by omega) (fun _ => rfl)
  have := dmul (okW_trimL ok0) (okW_trimL ok1)
  simp only [wv_trimL] at this
  rw [val0, val1]
  cases n0 <;> cases n1 <;> simp [zval, this, wv_trimL, Int.mul_neg, Int.neg_mul]
def ctNegZ : Ct := fun l => match l with
  | [.z x c s] => some (s ≤ 68719476736, .z (- x) true s)
  | _ => none
theorem ok131 : Sound Tryz.prog 131 ctNegZ := by
  refine sound_of (fn := Tryz.f131) rfl rfl rfl tiOk env4_ok mix ?_ (by intro l p r h; unfold ctNegZ at h; split at h <;> cases h <;> exact Nat.le_of_ble_eq_true rfl)
  intro l p r h hp F vs hv
  unfold ctNegZ at h
  split at h <;> cases h
  rename_i x c s
  obtain ⟨v0, rest0, rfl, a0, hv⟩ := hv
  obtain ⟨n0, w0, a0, ok0, len0, val0, can0⟩ := open_z a0
  refine ⟨[_], ⟨_, _, rfl, a0, hv⟩, ?_⟩
  show Run Tryz.prog ti env4 10 (finR ti [.cell 2 25] _) _ _ _
  repeat' (first | with_reducible refine run_seq ?_ | with_reducible refine run_block ?_ | with_reducible refine step_code ?_ | with_reducible refine step_blk ?_ | with_reducible refine run_skip ?_ | with_reducible refine run_exit ?_ | with_reducible refine exits_code ?_ | with_reducible refine exits_here ?_ | with_reducible refine exits_blk rfl ?_ | with_reducible refine exits_lp ?_ | with_reducible refine run_ret ?_ | ((first | with_reducible refine run_region ?_ | with_reducible refine run_draw (by kernel_rfl) ?_); simp only [↓guardP_tt, ↓guardP_tf, ↓guardP_ft, ↓guardP_ff, guardP_t, guardP_f, evalQ, evalR, effQ, effR, skipS, opEff, evO, plainV, lkS, lkM, updL, putS, tie_sz, tie_zero, tie_zeroB, tie_fld, tie_ek, tie_int, tie_isb, tie_eq2, tie_f1, tie_ms,  ti_f1, ti_ms, ti_sz, ti_zero, ti_zeroB, ti_fld, ti_ek, ti_int, ti_isb, ti_eq2, binA, binI, intOp, funOf_v, cloOf_v, calIds, appEff, frE, foldB, foldS, castL_self, K.enc, K.dec, K.zero, K.es, K.bytes, AV.part, AV.setPart, AV.cells, AV.agg, AV.nth, Bool.false_eq_true, callEff, pubs, pub, nilAV, MM.upd, MM.set, argS, gdst, opIds, lids, AV.ids, List.getD_cons_succ, List.getD_cons_zero, List.map, List.tail, List.headD, List.nil_append, List.append_nil, List.cons_append, List.length_nil, List.length_cons, List.zip_cons_cons, List.zip_nil_right, List.set_cons_zero, List.set_cons_succ, List.replicate, Option.isSome_some, Option.map_some, Bool.not_true, Bool.not_false, forall_const, false_implies, Nat.reduceAdd, Nat.reduceEqDiff, Nat.reduceLT, Nat.reduceSub, Nat.reduceMul, Nat.reduceLeDiff, ↓reduceIte, and_true, true_and, and_self, false_and, and_false, reduceCtorEq, env4, ctTrim, ctMade, ctMul, ctAddW, ctCmpW, ctSubW, ctClone32, digs_length]) | (with_reducible refine run_cond (by with_unfolding_all exact rfl) ?_ ?_ <;> intro hc <;> (try simp only [vb, decide_eq_true_eq, decide_eq_false_iff_not, beq_iff_eq, beq_eq_false_iff_ne, bne_iff_ne, bne_eq_false_iff_eq, Bool.not_eq_true', Bool.not_eq_false', reduceCtorEq] at hc) <;> (try (first | simp (disch := omega) only [wrap64, wrapu64, wrapu32, sh32, fdiv32, Int.tdiv_eq_ediv_of_nonneg, Int.tmod_eq_emod_of_nonneg, tn_add, tn_add1, Int.toNat_natCast, Int.toNat_zero, List.drop_zero] at hc | simp only [wrapu64m, wrapu32m] at hc))) | ((with_reducible refine compat_ok ?_); kernel_rfl) | with_reducible apply And.intro | (first | simp (disch := omega) only [wrap64, wrapu64, wrapu32, sh32, fdiv32, Int.tdiv_eq_ediv_of_nonneg, Int.tmod_eq_emod_of_nonneg, tn_add, tn_add1, Int.toNat_natCast, Int.toNat_zero, List.drop_zero] | simp only [wrapu64m, wrapu32m]) | (with_reducible intro hg; (try simp only [vb, decide_eq_true_eq, decide_eq_false_iff_not, beq_iff_eq, beq_eq_false_iff_ne, bne_iff_ne, bne_eq_false_iff_eq, Bool.not_eq_true', Bool.not_eq_false', reduceCtorEq] at hg); (try (first | simp (disch := omega) only [wrap64, wrapu64, wrapu32, sh32, fdiv32, Int.tdiv_eq_ediv_of_nonneg, Int.tmod_eq_emod_of_nonneg, tn_add, tn_add1, Int.toNat_natCast, Int.toNat_zero, List.drop_zero] at hg | simp only [wrapu64m, wrapu32m] at hg))))
  all_goals try omega
  simp only [finR, resAs, resA, resLe, lsLe, lkS, lkM, pubs, pub, tie_sz, ti_sz, tie_ek, ti_ek,  nilAV, MM.upd, MM.set, AV.part, AV.cells, AV.agg, List.tail, List.headD, Nat.reduceAdd, Nat.reduceEqDiff, Nat.reduceLT, ↓reduceIte, and_true, true_and, and_self, reduceCtorEq]
  refine AVle_zz ?_ (by omega) (fun _ => rfl)
  rw [val0]
  cases n0 <;> simp [zval]
def env6 : Env := fun g => match g with | 132 => some ctSub | 96 => some ctSign | _ => none
theorem env6_ok : EnvOk Tryz.prog env6 := by
  intro g ct h
  simp only [env6] at h
  split at h <;> first | (cases h; exact ok132) | (cases h; exact ok96) | cases h
def ctCmpZ : Ct := fun l => match l with
  | [.z x c s, .z y d t] => some (s ≤ 68719476736 ∧ t ≤ 68719476736, vi (sgn (x - y)))
  | _ => none
theorem ok98 : Sound Tryz.prog 98 ctCmpZ := by
  refine sound_of (fn := Tryz.f98) rfl rfl rfl tiOk env6_ok mix ?_ (by intro l p r h; unfold ctCmpZ at h; split at h <;> cases h <;> exact Nat.le_of_ble_eq_true rfl)
  intro l p r h hp F vs hv
  unfold ctCmpZ at h
  split at h <;> cases h
  rename_i x c s y d t
  obtain ⟨v0, rest0, rfl, a0, hv⟩ := hv
  obtain ⟨v1, rest1, rfl, a1, hv⟩ := hv
  refine ⟨[_, _], ⟨_, _, rfl, a0, _, _, rfl, a1, hv⟩, ?_⟩
  show Run Tryz.prog ti env6 9 (finR ti [.tmp 4] _) _ _ _
  repeat' (first | with_reducible refine run_seq ?_ | with_reducible refine run_block ?_ | with_reducible refine step_code ?_ | with_reducible refine step_blk ?_ | with_reducible refine run_skip ?_ | with_reducible refine run_exit ?_ | with_reducible refine exits_code ?_ | with_reducible refine exits_here ?_ | with_reducible refine exits_blk rfl ?_ | with_reducible refine exits_lp ?_ | with_reducible refine run_ret ?_ | ((first | with_reducible refine run_region ?_ | with_reducible refine run_draw (by kernel_rfl) ?_); simp only [↓guardP_tt, ↓guardP_tf, ↓guardP_ft, ↓guardP_ff, guardP_t, guardP_f, evalQ, evalR, effQ, effR, skipS, opEff, evO, plainV, lkS, lkM, updL, putS, tie_sz, tie_zero, tie_zeroB, tie_fld, tie_ek, tie_int, tie_isb, tie_eq2, tie_f1, tie_ms,  ti_f1, ti_ms, ti_sz, ti_zero, ti_zeroB, ti_fld, ti_ek, ti_int, ti_isb, ti_eq2, binA, binI, intOp, funOf_v, cloOf_v, calIds, appEff, frE, foldB, foldS, castL_self, K.enc, K.dec, K.zero, K.es, K.bytes, AV.part, AV.setPart, AV.cells, AV.agg, AV.nth, Bool.false_eq_true, callEff, pubs, pub, nilAV, MM.upd, MM.set, argS, gdst, opIds, lids, AV.ids, List.getD_cons_succ, List.getD_cons_zero, List.map, List.tail, List.headD, List.nil_append, List.append_nil, List.cons_append, List.length_nil, List.length_cons, List.zip_cons_cons, List.zip_nil_right, List.set_cons_zero, List.set_cons_succ, List.replicate, Option.isSome_some, Option.map_some, Bool.not_true, Bool.not_false, forall_const, false_implies, Nat.reduceAdd, Nat.reduceEqDiff, Nat.reduceLT, Nat.reduceSub, Nat.reduceMul, Nat.reduceLeDiff, ↓reduceIte, and_true, true_and, and_self, false_and, and_false, reduceCtorEq, env6, ctSub, ctSign]) | (with_reducible refine run_cond (by with_unfolding_all exact rfl) ?_ ?_ <;> intro hc <;> (try simp only [vb, decide_eq_true_eq, decide_eq_false_iff_not, beq_iff_eq, beq_eq_false_iff_ne, bne_iff_ne, bne_eq_false_iff_eq, Bool.not_eq_true', Bool.not_eq_false', reduceCtorEq] at hc) <;> (try (first | simp (disch := omega) only [wrap64, wrapu64, wrapu32, sh32, fdiv32, Int.tdiv_eq_ediv_of_nonneg, Int.tmod_eq_emod_of_nonneg, tn_add, tn_add1, Int.toNat_natCast, Int.toNat_zero, List.drop_zero] at hc | simp only [wrapu64m, wrapu32m] at hc))) | ((with_reducible refine compat_ok ?_); kernel_rfl) | with_reducible apply And.intro | (first | simp (disch := omega) only [wrap64, wrapu64, wrapu32, sh32, fdiv32, Int.tdiv_eq_ediv_of_nonneg, Int.tmod_eq_emod_of_nonneg, tn_add, tn_add1, Int.toNat_natCast, Int.toNat_zero, List.drop_zero] | simp only [wrapu64m, wrapu32m]) | (with_reducible intro hg; (try simp only [vb, decide_eq_true_eq, decide_eq_false_iff_not, beq_iff_eq, beq_eq_false_iff_ne, bne_iff_ne, bne_eq_false_iff_eq, Bool.not_eq_true', Bool.not_eq_false', reduceCtorEq] at hg); (try (first | simp (disch := omega) only [wrap64, wrapu64, wrapu32, sh32, fdiv32, Int.tdiv_eq_ediv_of_nonneg, Int.tmod_eq_emod_of_nonneg, tn_add, tn_add1, Int.toNat_natCast, Int.toNat_zero, List.drop_zero] at hg | simp only [wrapu64m, wrapu32m] at hg))))
  all_goals try omega
  simp only [finR, resAs, resA, resLe, lsLe, lkS, lkM, pubs, pub, tie_sz, ti_sz, tie_ek, ti_ek,  nilAV, MM.upd, MM.set, AV.part, AV.cells, AV.agg, List.tail, List.headD, Nat.reduceAdd, Nat.reduceEqDiff, Nat.reduceLT, ↓reduceIte, and_true, true_and, and_self, reduceCtorEq]
  exact AVle.rfl

def env7 : Env := fun g => match g with | 130 => some ctTrim | 133 => some ctMade | 154 => some ctDiv | 148 => some ctClone32 | 151 => some ctAddW | 153 => some ctSubW | _ => none
theorem env7_ok : EnvOk Tryz.prog env7 := by
  intro g ct h
  simp only [env7] at h
  split at h <;> first | (cases h; exact ok130) | (cases h; exact ok133) | (cases h; exact ok154) | (cases h; exact ok148) | (cases h; exact ok151) | (cases h; exact ok153) | cases h
def ctGcd : Ct := fun l => match l with
  | [.z x c s, .z y d t] => some (s ≤ 68719476736 ∧ t ≤ 68719476736, .z (Int.gcd x y) true (max s t))
  | _ => none
theorem gcd_step {a b : Int} (ha : 0 ≤ a) (hb : 0 ≤ b) : Int.gcd b (a % b) = Int.gcd a b := by
  obtain ⟨m, rfl⟩ := Int.eq_ofNat_of_zero_le ha
  obtain ⟨n, rfl⟩ := Int.eq_ofNat_of_zero_le hb
  rw [← Int.natCast_emod]
  simp only [Int.gcd, Int.natAbs_natCast]
  rw [Nat.gcd_comm n, ← Nat.gcd_rec, Nat.gcd_comm]
theorem gcd_zval {n m : Bool} {a b : List Int} : Int.gcd (zval n a) (zval m b) = Int.gcd (wv a) (wv b) := by
  cases n <;> cases m <;> simp [zval]
theorem ok149 : Sound Tryz.prog 149 ctGcd := by
  refine sound_of (fn := Tryz.f149) rfl rfl rfl tiOk env7_ok mix ?_ (by intro l p r h; unfold ctGcd at h; split at h <;> cases h <;> exact Nat.le_of_ble_eq_true rfl)
  intro l p r h hp F vs hv
  unfold ctGcd at h
  split at h <;> cases h
  rename_i x c s y d t
  obtain ⟨v0, rest0, rfl, a0, hv⟩ := hv
  obtain ⟨n0, w0, a0, ok0, len0, val0, can0⟩ := open_z a0
  obtain ⟨v1, rest1, rfl, a1, hv⟩ := hv
  obtain ⟨n1, w1, a1, ok1, len1, val1, can1⟩ := open_z a1
  refine ⟨[_, _], ⟨_, _, rfl, a0, _, _, rfl, a1, hv⟩, ?_⟩
  have t0 := trimL_length w0
  have t1 := trimL_length w1
  show Run Tryz.prog ti env7 29 (finR ti [.cell 4 25] _) _ _ _
  repeat' (first | with_reducible refine run_seq ?_ | with_reducible refine run_block ?_ | with_reducible refine step_code ?_ | with_reducible refine step_blk ?_ | with_reducible refine run_skip ?_ | with_reducible refine run_exit ?_ | with_reducible refine exits_code ?_ | with_reducible refine exits_here ?_ | with_reducible refine exits_blk rfl ?_ | with_reducible refine exits_lp ?_ | with_reducible refine run_ret ?_ | ((first | with_reducible refine run_region ?_ | with_reducible refine run_draw (by kernel_rfl) ?_); simp only [↓guardP_tt, ↓guardP_tf, ↓guardP_ft, ↓guardP_ff, guardP_t, guardP_f, evalQ, evalR, effQ, effR, skipS, opEff, evO, plainV, lkS, lkM, updL, putS, tie_sz, tie_zero, tie_zeroB, tie_fld, tie_ek, tie_int, tie_isb, tie_eq2, tie_f1, tie_ms,  ti_f1, ti_ms, ti_sz, ti_zero, ti_zeroB, ti_fld, ti_ek, ti_int, ti_isb, ti_eq2, binA, binI, intOp, funOf_v, cloOf_v, calIds, appEff, frE, foldB, foldS, castL_self, K.enc, K.dec, K.zero, K.es, K.bytes, AV.part, AV.setPart, AV.cells, AV.agg, AV.nth, Bool.false_eq_true, callEff, pubs, pub, nilAV, MM.upd, MM.set, argS, gdst, opIds, lids, AV.ids, List.getD_cons_succ, List.getD_cons_zero, List.map, List.tail, List.headD, List.nil_append, List.append_nil, List.cons_append, List.length_nil, List.length_cons, List.zip_cons_cons, List.zip_nil_right, List.set_cons_zero, List.set_cons_succ, List.replicate, Option.isSome_some, Option.map_some, Bool.not_true, Bool.not_false, forall_const, false_implies, Nat.reduceAdd, Nat.reduceEqDiff, Nat.reduceLT, Nat.reduceSub, Nat.reduceMul, Nat.reduceLeDiff, ↓reduceIte, and_true, true_and, and_self, false_and, and_false, reduceCtorEq, env7, ctTrim, ctMade, ctDiv, ctClone32, digs_length]) | (with_reducible refine run_cond (by with_unfolding_all exact rfl) ?_ ?_ <;> intro hc <;> (try simp only [vb, decide_eq_true_eq, decide_eq_false_iff_not, beq_iff_eq, beq_eq_false_iff_ne, bne_iff_ne, bne_eq_false_iff_eq, Bool.not_eq_true', Bool.not_eq_false', reduceCtorEq] at hc) <;> (try (first | simp (disch := omega) only [wrap64, wrapu64, wrapu32, sh32, fdiv32, Int.tdiv_eq_ediv_of_nonneg, Int.tmod_eq_emod_of_nonneg, tn_add, tn_add1, Int.toNat_natCast, Int.toNat_zero, List.drop_zero] at hc | simp only [wrapu64m, wrapu32m] at hc))) | ((with_reducible refine compat_ok ?_); kernel_rfl) | with_reducible apply And.intro | (first | simp (disch := omega) only [wrap64, wrapu64, wrapu32, sh32, fdiv32, Int.tdiv_eq_ediv_of_nonneg, Int.tmod_eq_emod_of_nonneg, tn_add, tn_add1, Int.toNat_natCast, Int.toNat_zero, List.drop_zero] | simp only [wrapu64m, wrapu32m]) | (with_reducible intro hg; (try simp only [vb, decide_eq_true_eq, decide_eq_false_iff_not, beq_iff_eq, beq_eq_false_iff_ne, bne_iff_ne, bne_eq_false_iff_eq, Bool.not_eq_true', Bool.not_eq_false', reduceCtorEq] at hg); (try (first | simp (disch := omega) only [wrap64, wrapu64, wrapu32, sh32, fdiv32, Int.tdiv_eq_ediv_of_nonneg, Int.tmod_eq_emod_of_nonneg, tn_add, tn_add1, Int.toNat_natCast, Int.toNat_zero, List.drop_zero] at hg | simp only [wrapu64m, wrapu32m] at hg))))
  all_goals try omega
  refine run_loop (ι := List Int × List Int) (fun x => ⟨[(5, .lst .u32 x.1), (6, .lst .u32 x.2), (4, .ptr 2 0)], [(2, some (.box 25 (.pair (vb false) (.lst .u32 []))))], 3⟩)
    (fun q => okW q.1 ∧ okW q.2 ∧ q.1.getLast? ≠ some 0 ∧ q.2.getLast? ≠ some 0 ∧ q.1.length ≤ max s t ∧ q.2.length ≤ max s t ∧ Int.gcd (wv q.1) (wv q.2) = Int.gcd x y) (fun q => (wv q.2).toNat) (trimL w0, trimL w1)
    ⟨okW_trimL ok0, okW_trimL ok1, trimL_canon _, trimL_canon _, by simp only; omega, by simp only; omega, by simp only [wv_trimL, val0, val1, gcd_zval]⟩ ?_ ?_
  · (refine AS.le_of ?_ ?_ <;> simp only [slLe, memLe, entLe, lkS, lkM, Nat.reduceEqDiff, Nat.reduceLT, or_true, true_or, reduceCtorEq, ↓reduceIte, and_true, true_and] <;> (repeat' with_reducible apply And.intro) <;> (try (first | ((with_reducible refine AV.le_refl ?_); rfl) | with_reducible exact AV.le_junk | with_reducible exact AV.le_nil | ((with_reducible refine AV.le_int ?_); omega) | (with_reducible refine AV.le_int ?_) | (with_reducible refine AV.le_bool ?_) | ((with_reducible refine AV.le_lst ?_); try rfl) | (with_reducible refine AV.le_q ?_ ?_ ?_) | exact fun _ _ h => h | (with_reducible refine RC_qle ?_ ?_ ?_))))
  rintro ⟨a, b⟩ ⟨h1, h2, h3, h4, h5, h6, h7⟩
  simp only at h1 h2 h3 h4 h5 h6 h7
  have hq1 := trimL_length (digs b.length (wv a % wv b))
  rw [digs_length] at hq1
  repeat' (first | with_reducible refine run_seq ?_ | with_reducible refine run_block ?_ | with_reducible refine step_code ?_ | with_reducible refine step_blk ?_ | with_reducible refine run_skip ?_ | with_reducible refine run_exit ?_ | with_reducible refine exits_code ?_ | with_reducible refine exits_here ?_ | with_reducible refine exits_blk rfl ?_ | with_reducible refine exits_lp ?_ | with_reducible refine run_ret ?_ | ((first | with_reducible refine run_region ?_ | with_reducible refine run_draw (by kernel_rfl) ?_); simp only [↓guardP_tt, ↓guardP_tf, ↓guardP_ft, ↓guardP_ff, guardP_t, guardP_f, evalQ, evalR, effQ, effR, skipS, opEff, evO, plainV, lkS, lkM, updL, putS, tie_sz, tie_zero, tie_zeroB, tie_fld, tie_ek, tie_int, tie_isb, tie_eq2, tie_f1, tie_ms,  ti_f1, ti_ms, ti_sz, ti_zero, ti_zeroB, ti_fld, ti_ek, ti_int, ti_isb, ti_eq2, binA, binI, intOp, funOf_v, cloOf_v, calIds, appEff, frE, foldB, foldS, castL_self, K.enc, K.dec, K.zero, K.es, K.bytes, AV.part, AV.setPart, AV.cells, AV.agg, AV.nth, Bool.false_eq_true, callEff, pubs, pub, nilAV, MM.upd, MM.set, argS, gdst, opIds, lids, AV.ids, List.getD_cons_succ, List.getD_cons_zero, List.map, List.tail, List.headD, List.nil_append, List.append_nil, List.cons_append, List.length_nil, List.length_cons, List.zip_cons_cons, List.zip_nil_right, List.set_cons_zero, List.set_cons_succ, List.replicate, Option.isSome_some, Option.map_some, Bool.not_true, Bool.not_false, forall_const, false_implies, Nat.reduceAdd, Nat.reduceEqDiff, Nat.reduceLT, Nat.reduceSub, Nat.reduceMul, Nat.reduceLeDiff, ↓reduceIte, and_true, true_and, and_self, false_and, and_false, reduceCtorEq, env7, ctTrim, ctMade, ctDiv, ctClone32, digs_length]) | (with_reducible refine run_cond (by with_unfolding_all exact rfl) ?_ ?_ <;> intro hc <;> (try simp only [vb, decide_eq_true_eq, decide_eq_false_iff_not, beq_iff_eq, beq_eq_false_iff_ne, bne_iff_ne, bne_eq_false_iff_eq, Bool.not_eq_true', Bool.not_eq_false', reduceCtorEq] at hc) <;> (try (first | simp (disch := omega) only [wrap64, wrapu64, wrapu32, sh32, fdiv32, Int.tdiv_eq_ediv_of_nonneg, Int.tmod_eq_emod_of_nonneg, tn_add, tn_add1, Int.toNat_natCast, Int.toNat_zero, List.drop_zero] at hc | simp only [wrapu64m, wrapu32m] at hc))) | ((with_reducible refine compat_ok ?_); kernel_rfl) | with_reducible apply And.intro | (first | simp (disch := omega) only [wrap64, wrapu64, wrapu32, sh32, fdiv32, Int.tdiv_eq_ediv_of_nonneg, Int.tmod_eq_emod_of_nonneg, tn_add, tn_add1, Int.toNat_natCast, Int.toNat_zero, List.drop_zero] | simp only [wrapu64m, wrapu32m]) | (with_reducible intro hg; (try simp only [vb, decide_eq_true_eq, decide_eq_false_iff_not, beq_iff_eq, beq_eq_false_iff_ne, bne_iff_ne, bne_eq_false_iff_eq, Bool.not_eq_true', Bool.not_eq_false', reduceCtorEq] at hg); (try (first | simp (disch := omega) only [wrap64, wrapu64, wrapu32, sh32, fdiv32, Int.tdiv_eq_ediv_of_nonneg, Int.tmod_eq_emod_of_nonneg, tn_add, tn_add1, Int.toNat_natCast, Int.toNat_zero, List.drop_zero] at hg | simp only [wrapu64m, wrapu32m] at hg))))
  all_goals try omega
  · rintro rfl; simp at hc
  · have hbne : b ≠ [] := by rintro rfl; simp at hc
    have hB := wv_pos h2 h4 hbne
    have hm := Int.emod_nonneg (wv a) (show wv b ≠ 0 by omega)
    have hm2 := Int.emod_lt_of_pos (wv a) hB
    have hv : wv (trimL (digs b.length (wv a % wv b))) = wv a % wv b := by rw [wv_trimL, wv_digs hm (by have := wv_lt h2; omega)]
    refine step_lp ⟨(b, trimL (digs b.length (wv a % wv b))), ⟨h2, okW_trimL (okW_digs _ _), h4, trimL_canon _, h6, by simp only; omega, ?_⟩, by simp only [hv]; omega, ?_⟩
    · simp only [hv]; rw [gcd_step (wv_nonneg h1) (by omega), h7]
    · (refine AS.le_of ?_ ?_ <;> simp only [slLe, memLe, entLe, lkS, lkM, Nat.reduceEqDiff, Nat.reduceLT, or_true, true_or, reduceCtorEq, ↓reduceIte, and_true, true_and] <;> (repeat' with_reducible apply And.intro) <;> (try (first | ((with_reducible refine AV.le_refl ?_); rfl) | with_reducible exact AV.le_junk | with_reducible exact AV.le_nil | ((with_reducible refine AV.le_int ?_); omega) | (with_reducible refine AV.le_int ?_) | (with_reducible refine AV.le_bool ?_) | ((with_reducible refine AV.le_lst ?_); try rfl) | (with_reducible refine AV.le_q ?_ ?_ ?_) | exact fun _ _ h => h | (with_reducible refine RC_qle ?_ ?_ ?_))))
  · simp only [finR, resAs, resA, resLe, lsLe, lkS, lkM, pubs, pub, tie_sz, ti_sz, tie_ek, ti_ek,  nilAV, MM.upd, MM.set, AV.part, AV.cells, AV.agg, List.tail, List.headD, Nat.reduceAdd, Nat.reduceEqDiff, Nat.reduceLT, ↓reduceIte, and_true, true_and, and_self, reduceCtorEq]
    refine AVle_zz ?_ (by omega) (fun _ => rfl)
    have : b = [] := List.eq_nil_of_length_eq_zero (by omega)
    subst this
    rw [← h7]
    have := wv_nonneg h1
    simp [zval, wv]; omega
theorem neg_div {A B : Int} (hB : 0 < B) (h : A % B ≠ 0) : (-A) / B = -(A / B) - 1 ∧ (-A) % B = B - A % B := by
  have h1 := Int.emod_nonneg A (show B ≠ 0 by omega)
  have h2 := Int.emod_lt_of_pos A hB
  refine (Int.ediv_emod_unique hB).2 ⟨?_, by omega, by omega⟩
  have := Int.mul_ediv_add_emod A B
  grind
theorem neg_div0 {A B : Int} (hB : 0 < B) (h : A % B = 0) : (-A) / B = -(A / B) ∧ (-A) % B = 0 := by
  refine (Int.ediv_emod_unique hB).2 ⟨?_, by omega, by omega⟩
  have := Int.mul_ediv_add_emod A B
  grind
def ctDivMod : Ct := fun l => match l with
  | [.z x c s, .z y d t] => some (s ≤ 68719476736 ∧ t ≤ 68719476736 ∧ y ≠ 0, .tup (.tc (.z (x / y) true (s + 2)) (.tc (.z (x % y) true t) (.tc (vi 0) .tn))))
  | _ => none
theorem ok150 : Sound Tryz.prog 150 ctDivMod := by
  refine sound_of (fn := Tryz.f150) rfl rfl rfl tiOk env7_ok mix ?_ (by intro l p r h; unfold ctDivMod at h; split at h <;> cases h <;> exact Nat.le_of_ble_eq_true rfl)
  intro l p r h hp F vs hv
  unfold ctDivMod at h
  split at h <;> cases h
  rename_i x c s y d t
  obtain ⟨v0, rest0, rfl, a0, hv⟩ := hv
  obtain ⟨n0, w0, a0, ok0, len0, val0, can0⟩ := open_z a0
  obtain ⟨v1, rest1, rfl, a1, hv⟩ := hv
  obtain ⟨n1, w1, a1, ok1, len1, val1, can1⟩ := open_z a1
  refine ⟨[_, _], ⟨_, _, rfl, a0, _, _, rfl, a1, hv⟩, ?_⟩
  have t0 := trimL_length w0
  have t1 := trimL_length w1
  have hB0 : wv w1 ≠ 0 := by intro h; apply hp.2.2; rw [val1]; cases n1 <;> simp [zval, h]
  have hB : 0 < wv w1 := by have := wv_nonneg ok1; omega
  have hbn : trimL w1 ≠ [] := fun h => hB0 ((wv_trimL_zero ok1).1 h)
  have hcan := trimL_canon w1
  have hq1 := trimL_length (digs (trimL w0).length (wv (trimL w0) / wv (trimL w1)))
  have hr1 := trimL_length (digs (trimL w1).length (wv (trimL w0) % wv (trimL w1)))
  rw [digs_length] at hq1 hr1
  have hv1 : wv (trimL (digs (trimL w0).length (wv (trimL w0) / wv (trimL w1)))) = wv w0 / wv w1 := by
    rw [wv_trimL, wv_trimL, wv_trimL, wv_digs (Int.ediv_nonneg (wv_nonneg ok0) (wv_nonneg ok1))]
    have h1 := wv_lt (okW_trimL ok0)
    rw [wv_trimL] at h1
    have := Int.ediv_le_self (wv w1) (wv_nonneg ok0)
    omega
  have hm := Int.emod_nonneg (wv w0) hB0
  have hm2 := Int.emod_lt_of_pos (wv w0) hB
  have hv2 : wv (trimL (digs (trimL w1).length (wv (trimL w0) % wv (trimL w1)))) = wv w0 % wv w1 := by
    rw [wv_trimL, wv_trimL, wv_trimL, wv_digs hm]
    have h1 := wv_lt (okW_trimL ok1)
    rw [wv_trimL] at h1
    omega
  have hv3 := wv_trimL w1
  have okq := okW_trimL (okW_digs (trimL w0).length (wv (trimL w0) / wv (trimL w1)))
  have okr := okW_trimL (okW_digs (trimL w1).length (wv (trimL w0) % wv (trimL w1)))
  have hone : okW [1] := by intro z hz; simp at hz; omega
  have hw1 : wv [1] = 1 := rfl
  show Run Tryz.prog ti env7 50 (finR ti [.cell 4 25, .cell 5 25, .tmp 6] _) _ _ _
  repeat' (first | with_reducible refine run_seq ?_ | with_reducible refine run_block ?_ | with_reducible refine step_code ?_ | with_reducible refine step_blk ?_ | with_reducible refine run_skip ?_ | with_reducible refine run_exit ?_ | with_reducible refine exits_code ?_ | with_reducible refine exits_here ?_ | with_reducible refine exits_blk rfl ?_ | with_reducible refine exits_lp ?_ | with_reducible refine run_ret ?_ | ((first | with_reducible refine run_region ?_ | with_reducible refine run_draw (by kernel_rfl) ?_); simp only [↓guardP_tt, ↓guardP_tf, ↓guardP_ft, ↓guardP_ff, guardP_t, guardP_f, evalQ, evalR, effQ, effR, skipS, opEff, evO, plainV, lkS, lkM, updL, putS, tie_sz, tie_zero, tie_zeroB, tie_fld, tie_ek, tie_int, tie_isb, tie_eq2, tie_f1, tie_ms,  ti_f1, ti_ms, ti_sz, ti_zero, ti_zeroB, ti_fld, ti_ek, ti_int, ti_isb, ti_eq2, binA, binI, intOp, funOf_v, cloOf_v, calIds, appEff, frE, foldB, foldS, castL_self, K.enc, K.dec, K.zero, K.es, K.bytes, AV.part, AV.setPart, AV.cells, AV.agg, AV.nth, Bool.false_eq_true, callEff, pubs, pub, nilAV, MM.upd, MM.set, argS, gdst, opIds, lids, AV.ids, List.getD_cons_succ, List.getD_cons_zero, List.map, List.tail, List.headD, List.nil_append, List.append_nil, List.cons_append, List.length_nil, List.length_cons, List.zip_cons_cons, List.zip_nil_right, List.set_cons_zero, List.set_cons_succ, List.replicate, Option.isSome_some, Option.map_some, Bool.not_true, Bool.not_false, forall_const, false_implies, Nat.reduceAdd, Nat.reduceEqDiff, Nat.reduceLT, Nat.reduceSub, Nat.reduceMul, Nat.reduceLeDiff, ↓reduceIte, and_true, true_and, and_self, false_and, and_false, reduceCtorEq, env7, ctTrim, ctMade, ctDiv, ctClone32, ctAddW, ctSubW, digs_length]) | (with_reducible refine run_cond (by with_unfolding_all exact rfl) ?_ ?_ <;> intro hc <;> (try simp only [vb, decide_eq_true_eq, decide_eq_false_iff_not, beq_iff_eq, beq_eq_false_iff_ne, bne_iff_ne, bne_eq_false_iff_eq, Bool.not_eq_true', Bool.not_eq_false', reduceCtorEq] at hc) <;> (try (first | simp (disch := omega) only [wrap64, wrapu64, wrapu32, sh32, fdiv32, Int.tdiv_eq_ediv_of_nonneg, Int.tmod_eq_emod_of_nonneg, tn_add, tn_add1, Int.toNat_natCast, Int.toNat_zero, List.drop_zero] at hc | simp only [wrapu64m, wrapu32m] at hc))) | ((with_reducible refine compat_ok ?_); kernel_rfl) | with_reducible apply And.intro | (first | simp (disch := omega) only [wrap64, wrapu64, wrapu32, sh32, fdiv32, Int.tdiv_eq_ediv_of_nonneg, Int.tmod_eq_emod_of_nonneg, tn_add, tn_add1, Int.toNat_natCast, Int.toNat_zero, List.drop_zero] | simp only [wrapu64m, wrapu32m]) | (with_reducible intro hg; (try simp only [vb, decide_eq_true_eq, decide_eq_false_iff_not, beq_iff_eq, beq_eq_false_iff_ne, bne_iff_ne, bne_eq_false_iff_eq, Bool.not_eq_true', Bool.not_eq_false', reduceCtorEq] at hg); (try (first | simp (disch := omega) only [wrap64, wrapu64, wrapu32, sh32, fdiv32, Int.tdiv_eq_ediv_of_nonneg, Int.tmod_eq_emod_of_nonneg, tn_add, tn_add1, Int.toNat_natCast, Int.toNat_zero, List.drop_zero] at hg | simp only [wrapu64m, wrapu32m] at hg))))
  all_goals try omega
  all_goals try assumption
  · exact absurd (List.eq_nil_of_length_eq_zero (by omega)) hbn
  · have hne : wv w0 % wv w1 ≠ 0 := by
      intro h
      have := (wv_trimL_zero (okW_digs (trimL w1).length (wv (trimL w0) % wv (trimL w1)))).2 (by rw [← wv_trimL, hv2, h])
      rw [this] at hc; simp at hc
    simp only [finR, resAs, resA, resLe, lsLe, lkS, lkM, pubs, pub, tie_sz, ti_sz, tie_ek, ti_ek,  nilAV, MM.upd, MM.set, AV.part, AV.cells, AV.agg, List.tail, List.headD, Nat.reduceAdd, Nat.reduceEqDiff, Nat.reduceLT, ↓reduceIte, and_true, true_and, and_self, reduceCtorEq]
    generalize trimL (digs (trimL w0).length (wv (trimL w0) / wv (trimL w1))) = Q at *
    generalize trimL (digs (trimL w1).length (wv (trimL w0) % wv (trimL w1))) = Rm at *
    have e1 := dadd okq hone
    have e2 := dsub (okW_trimL ok1) okr (by rw [hv2, hv3]; omega)
    simp only [List.length_cons, List.length_nil, Nat.zero_add, hw1, hv1] at e1
    simp only [hv2, hv3] at e2
    obtain ⟨k1, k2⟩ := neg_div hB hne
    refine ⟨AVle_zz ?_ (by omega) (fun _ => rfl), AVle_zz ?_ (by omega) (fun _ => rfl), AVle.rfl⟩
    · rw [val0, val1, hg]
      cases n1 <;> simp only [zval, e1, hw1, hv1, k1, Int.ediv_neg] <;> simp [k1] <;> omega
    · rw [val0, val1, hg]
      cases n1 <;> simp only [zval, e2, hv2, hv3, k2, Int.emod_neg] <;> simp [k2]
  · have hz : wv w0 % wv w1 = 0 := by
      have : trimL (digs (trimL w1).length (wv (trimL w0) % wv (trimL w1))) = [] := List.eq_nil_of_length_eq_zero (by omega)
      rw [← hv2, this]; rfl
    obtain ⟨k1, k2⟩ := neg_div0 hB hz
    simp only [finR, resAs, resA, resLe, lsLe, lkS, lkM, pubs, pub, tie_sz, ti_sz, tie_ek, ti_ek,  nilAV, MM.upd, MM.set, AV.part, AV.cells, AV.agg, List.tail, List.headD, Nat.reduceAdd, Nat.reduceEqDiff, Nat.reduceLT, ↓reduceIte, and_true, true_and, and_self, reduceCtorEq]
    refine ⟨AVle_zz ?_ (by omega) (fun _ => rfl), AVle_zz ?_ (by omega) (fun _ => rfl), AVle.rfl⟩
    · rw [val0, val1, hg]
      cases n1 <;> simp [zval, hv1, k1, Int.ediv_neg]
    · rw [val0, val1, hg]
      cases n1 <;> simp [zval, hv2, k2, hz, Int.emod_neg]
  · simp only [finR, resAs, resA, resLe, lsLe, lkS, lkM, pubs, pub, tie_sz, ti_sz, tie_ek, ti_ek,  nilAV, MM.upd, MM.set, AV.part, AV.cells, AV.agg, List.tail, List.headD, Nat.reduceAdd, Nat.reduceEqDiff, Nat.reduceLT, ↓reduceIte, and_true, true_and, and_self, reduceCtorEq]
    refine ⟨AVle_zz ?_ (by omega) (fun _ => rfl), AVle_zz ?_ (by omega) (fun _ => rfl), AVle.rfl⟩
    · rw [val0, val1, hg]
      cases n1 <;> simp [zval, hv1, Int.ediv_neg]
    · rw [val0, val1, hg]
      cases n1 <;> simp [zval, hv2, Int.emod_neg]
end Go.AE

/- Contracts: package frac, its parts. -/
namespace Go.AE
open Go.Proofs Go.RowKit
set_option linter.unusedVariables false
set_option linter.unusedSimpArgs false
set_option maxRecDepth 20000

def env8 : Env := fun g => match g with | 96 => some ctSign | 100 => some ctFromI | 131 => some ctNegZ | 99 => some ctMulZ | 137 => some ctAdd | 132 => some ctSub | 149 => some ctGcd | 150 => some ctDivMod | 98 => some ctCmpZ | _ => none
theorem env8_ok : EnvOk Tryz.prog env8 := by
  intro g ct h
  simp only [env8] at h
  split at h <;> first | (cases h; exact ok96) | (cases h; exact ok100) | (cases h; exact ok131) | (cases h; exact ok99) | (cases h; exact ok137) | (cases h; exact ok132) | (cases h; exact ok149) | (cases h; exact ok150) | (cases h; exact ok98) | cases h
def ofN (n d : Int) : Int := if d < 0 then -n else n
def ofD (d : Int) : Int := if d = 0 then 1 else if d < 0 then -d else d
/-- What is known of a rational's two numbers. -/
def qOf : AV → Option (Int × Int × Nat × Nat)
  | .pair a b => match zOf a, zOf b with
    | some (n, s), some (d, t) => some (n, d, s, t)
    | _, _ => none
  | _ => none
theorem ofD_pos (d : Int) : 0 < ofD d := ofD_pos' d
theorem of_val (n d : Int) : (ofN n d : Rat) / (ofD d : Rat) = qval n d := by
  unfold ofN ofD qval
  by_cases h : d = 0
  · subst h; simp
    grind
  · rw [if_neg h, if_neg h]
    by_cases h2 : d < 0
    · rw [if_pos h2, if_pos h2]
      have := rat_ne h
      rw [Rat.intCast_neg, Rat.intCast_neg]
      grind
    · rw [if_neg h2, if_neg h2]
theorem AVle_pzz {x y x' y' : Int} {c d c' d' : Bool} {s t s' t' : Nat} (hx : x = x') (hy : y = y') (hs : s ≤ s') (ht : t ≤ t') (hc : c' = true → c = true) (hd : d' = true → d = true) : AVle (.pair (.z x c s) (.z y d t)) (.pair (.z x' c' s') (.z y' d' t')) := by
  subst hx hy
  intro F v h
  obtain ⟨cs, ⟨c1, c2, rfl, h5, h6⟩, rfl⟩ := (show ∃ cs, RC F _ cs ∧ v = Value.agg cs.toArray from h)
  exact (show ∃ cs, RC F _ cs ∧ _ = Value.agg cs.toArray from ⟨_, ⟨c1, c2, rfl, RZ_le hs hc h5, RZ_le ht hd h6⟩, rfl⟩)
theorem sgn_zero {x : Int} : sgn x = 0 ↔ x = 0 := by unfold sgn; split <;> (try split) <;> omega
theorem sgn_neg {x : Int} : sgn x = -1 ↔ x < 0 := by unfold sgn; split <;> (try split) <;> omega
def ctOf : Ct := fun l => match l with
  | [.pair (.z n cn s) (.z d cd t)] => some (s ≤ 34359738368 ∧ t ≤ 34359738368, .pair (.z (ofN n d) false s) (.z (ofD d) false (t + 2)))
  | _ => none
theorem ok97 : Sound Tryz.prog 97 ctOf := by
  refine sound_of (fn := Tryz.f97) rfl rfl rfl tiOk env8_ok mix ?_ (by intro l p r h; unfold ctOf at h; split at h <;> cases h <;> exact Nat.le_of_ble_eq_true rfl)
  intro l p r h hp F vs hv
  unfold ctOf at h
  split at h <;> cases h
  rename_i n cn s d cd t
  obtain ⟨v0, rest0, rfl, a0, hv⟩ := hv
  refine ⟨[_], ⟨_, _, rfl, a0, hv⟩, ?_⟩
  show Run Tryz.prog ti env8 26 (finR ti [.cell 2 105] _) _ _ _
  repeat' (first | with_reducible refine run_seq ?_ | with_reducible refine run_block ?_ | with_reducible refine step_code ?_ | with_reducible refine step_blk ?_ | with_reducible refine run_skip ?_ | with_reducible refine run_exit ?_ | with_reducible refine exits_code ?_ | with_reducible refine exits_here ?_ | with_reducible refine exits_blk rfl ?_ | with_reducible refine exits_lp ?_ | with_reducible refine run_ret ?_ | ((first | with_reducible refine run_region ?_ | with_reducible refine run_draw (by kernel_rfl) ?_); simp only [↓guardP_tt, ↓guardP_tf, ↓guardP_ft, ↓guardP_ff, guardP_t, guardP_f, evalQ, evalR, effQ, effR, skipS, opEff, evO, plainV, lkS, lkM, updL, putS, tie_sz, tie_zero, tie_zeroB, tie_fld, tie_ek, tie_int, tie_isb, tie_eq2, tie_f1, tie_ms,  ti_f1, ti_ms, ti_sz, ti_zero, ti_zeroB, ti_fld, ti_ek, ti_int, ti_isb, ti_eq2, binA, binI, intOp, funOf_v, cloOf_v, calIds, appEff, frE, foldB, foldS, castL_self, K.enc, K.dec, K.zero, K.es, K.bytes, AV.part, AV.setPart, AV.cells, AV.agg, AV.nth, Bool.false_eq_true, callEff, pubs, pub, nilAV, MM.upd, MM.set, argS, gdst, opIds, lids, AV.ids, List.getD_cons_succ, List.getD_cons_zero, List.map, List.tail, List.headD, List.nil_append, List.append_nil, List.cons_append, List.length_nil, List.length_cons, List.zip_cons_cons, List.zip_nil_right, List.set_cons_zero, List.set_cons_succ, List.replicate, Option.isSome_some, Option.map_some, Bool.not_true, Bool.not_false, forall_const, false_implies, Nat.reduceAdd, Nat.reduceEqDiff, Nat.reduceLT, Nat.reduceSub, Nat.reduceMul, Nat.reduceLeDiff, ↓reduceIte, and_true, true_and, and_self, false_and, and_false, reduceCtorEq, env8, ctSign, ctFromI, ctNegZ, ctMulZ, ctAdd, ctZ2, zOf, ctSub, ctGcd, ctDivMod, ctCmpZ, ctIsCan]) | (with_reducible refine run_cond (by with_unfolding_all exact rfl) ?_ ?_ <;> intro hc <;> (try simp only [vb, decide_eq_true_eq, decide_eq_false_iff_not, beq_iff_eq, beq_eq_false_iff_ne, bne_iff_ne, bne_eq_false_iff_eq, Bool.not_eq_true', Bool.not_eq_false', reduceCtorEq] at hc) <;> (try (first | simp (disch := omega) only [wrap64, wrapu64, wrapu32, sh32, fdiv32, Int.tdiv_eq_ediv_of_nonneg, Int.tmod_eq_emod_of_nonneg, tn_add, tn_add1, Int.toNat_natCast, Int.toNat_zero, List.drop_zero] at hc | simp only [wrapu64m, wrapu32m] at hc))) | ((with_reducible refine compat_ok ?_); kernel_rfl) | with_reducible apply And.intro | (first | simp (disch := omega) only [wrap64, wrapu64, wrapu32, sh32, fdiv32, Int.tdiv_eq_ediv_of_nonneg, Int.tmod_eq_emod_of_nonneg, tn_add, tn_add1, Int.toNat_natCast, Int.toNat_zero, List.drop_zero] | simp only [wrapu64m, wrapu32m]) | (with_reducible intro hg; (try simp only [vb, decide_eq_true_eq, decide_eq_false_iff_not, beq_iff_eq, beq_eq_false_iff_ne, bne_iff_ne, bne_eq_false_iff_eq, Bool.not_eq_true', Bool.not_eq_false', reduceCtorEq] at hg); (try (first | simp (disch := omega) only [wrap64, wrapu64, wrapu32, sh32, fdiv32, Int.tdiv_eq_ediv_of_nonneg, Int.tmod_eq_emod_of_nonneg, tn_add, tn_add1, Int.toNat_natCast, Int.toNat_zero, List.drop_zero] at hg | simp only [wrapu64m, wrapu32m] at hg))))
  all_goals try omega
  · have hd := sgn_zero.1 hc
    simp only [finR, resAs, resA, resLe, lsLe, lkS, lkM, pubs, pub, tie_sz, ti_sz, tie_ek, ti_ek,  nilAV, MM.upd, MM.set, AV.part, AV.cells, AV.agg, List.tail, List.headD, Nat.reduceAdd, Nat.reduceEqDiff, Nat.reduceLT, ↓reduceIte, and_true, true_and, and_self, reduceCtorEq]
    refine AVle_pzz ?_ ?_ (by omega) (by omega) (fun h => by cases h) (fun h => by cases h) <;> simp [ofN, ofD, hd]
  · have hd := sgn_neg.1 hc
    simp only [finR, resAs, resA, resLe, lsLe, lkS, lkM, pubs, pub, tie_sz, ti_sz, tie_ek, ti_ek,  nilAV, MM.upd, MM.set, AV.part, AV.cells, AV.agg, List.tail, List.headD, Nat.reduceAdd, Nat.reduceEqDiff, Nat.reduceLT, ↓reduceIte, and_true, true_and, and_self, reduceCtorEq]
    refine AVle_pzz ?_ ?_ (by omega) (by omega) (fun h => by cases h) (fun h => by cases h)
    · simp [ofN, hd]
    · simp [ofD, hd, show d ≠ 0 by omega]
  · have hd : ¬ d = 0 := by intro e; have := sgn_zero.2 e; contradiction
    have hd2 : ¬ d < 0 := fun e => hc (sgn_neg.2 e)
    simp only [finR, resAs, resA, resLe, lsLe, lkS, lkM, pubs, pub, tie_sz, ti_sz, tie_ek, ti_ek,  nilAV, MM.upd, MM.set, AV.part, AV.cells, AV.agg, List.tail, List.headD, Nat.reduceAdd, Nat.reduceEqDiff, Nat.reduceLT, ↓reduceIte, and_true, true_and, and_self, reduceCtorEq]
    refine AVle_pzz ?_ ?_ (by omega) (by omega) (fun h => by cases h) (fun h => by cases h) <;> simp [ofN, ofD, hd, hd2]
def ctLeast : Ct := fun l => match l with
  | [.pair (.z n cn s) (.z d cd t)] => some (s ≤ 34359738368 ∧ t ≤ 34359738368 ∧ 0 < d, .q ((n : Rat) / (d : Rat)) true (max s t + 2))
  | _ => none
theorem ok135 : Sound Tryz.prog 135 ctLeast := by
  refine sound_of (fn := Tryz.f135) rfl rfl rfl tiOk env8_ok mix ?_ (by intro l p r h; unfold ctLeast at h; split at h <;> cases h <;> exact Nat.le_of_ble_eq_true rfl)
  intro l p r h hp F vs hv
  unfold ctLeast at h
  split at h <;> cases h
  rename_i n cn s d cd t
  obtain ⟨v0, rest0, rfl, a0, hv⟩ := hv
  refine ⟨[_], ⟨_, _, rfl, a0, hv⟩, ?_⟩
  obtain ⟨k1, k2, k3, k4, k5⟩ := least_split (n := n) hp.2.2
  show Run Tryz.prog ti env8 40 (finR ti [.cell 2 27] _) _ _ _
  repeat' (first | with_reducible refine run_seq ?_ | with_reducible refine run_block ?_ | with_reducible refine step_code ?_ | with_reducible refine step_blk ?_ | with_reducible refine run_skip ?_ | with_reducible refine run_exit ?_ | with_reducible refine exits_code ?_ | with_reducible refine exits_here ?_ | with_reducible refine exits_blk rfl ?_ | with_reducible refine exits_lp ?_ | with_reducible refine run_ret ?_ | ((first | with_reducible refine run_region ?_ | with_reducible refine run_draw (by kernel_rfl) ?_); simp only [↓guardP_tt, ↓guardP_tf, ↓guardP_ft, ↓guardP_ff, guardP_t, guardP_f, evalQ, evalR, effQ, effR, skipS, opEff, evO, plainV, lkS, lkM, updL, putS, tie_sz, tie_zero, tie_zeroB, tie_fld, tie_ek, tie_int, tie_isb, tie_eq2, tie_f1, tie_ms,  ti_f1, ti_ms, ti_sz, ti_zero, ti_zeroB, ti_fld, ti_ek, ti_int, ti_isb, ti_eq2, binA, binI, intOp, funOf_v, cloOf_v, calIds, appEff, frE, foldB, foldS, castL_self, K.enc, K.dec, K.zero, K.es, K.bytes, AV.part, AV.setPart, AV.cells, AV.agg, AV.nth, Bool.false_eq_true, callEff, pubs, pub, nilAV, MM.upd, MM.set, argS, gdst, opIds, lids, AV.ids, List.getD_cons_succ, List.getD_cons_zero, List.map, List.tail, List.headD, List.nil_append, List.append_nil, List.cons_append, List.length_nil, List.length_cons, List.zip_cons_cons, List.zip_nil_right, List.set_cons_zero, List.set_cons_succ, List.replicate, Option.isSome_some, Option.map_some, Bool.not_true, Bool.not_false, forall_const, false_implies, Nat.reduceAdd, Nat.reduceEqDiff, Nat.reduceLT, Nat.reduceSub, Nat.reduceMul, Nat.reduceLeDiff, ↓reduceIte, and_true, true_and, and_self, false_and, and_false, reduceCtorEq, env8, ctSign, ctFromI, ctNegZ, ctMulZ, ctAdd, ctZ2, zOf, ctSub, ctGcd, ctDivMod, ctCmpZ, ctIsCan]) | (with_reducible refine run_cond (by with_unfolding_all exact rfl) ?_ ?_ <;> intro hc <;> (try simp only [vb, decide_eq_true_eq, decide_eq_false_iff_not, beq_iff_eq, beq_eq_false_iff_ne, bne_iff_ne, bne_eq_false_iff_eq, Bool.not_eq_true', Bool.not_eq_false', reduceCtorEq] at hc) <;> (try (first | simp (disch := omega) only [wrap64, wrapu64, wrapu32, sh32, fdiv32, Int.tdiv_eq_ediv_of_nonneg, Int.tmod_eq_emod_of_nonneg, tn_add, tn_add1, Int.toNat_natCast, Int.toNat_zero, List.drop_zero] at hc | simp only [wrapu64m, wrapu32m] at hc))) | ((with_reducible refine compat_ok ?_); kernel_rfl) | with_reducible apply And.intro | (first | simp (disch := omega) only [wrap64, wrapu64, wrapu32, sh32, fdiv32, Int.tdiv_eq_ediv_of_nonneg, Int.tmod_eq_emod_of_nonneg, tn_add, tn_add1, Int.toNat_natCast, Int.toNat_zero, List.drop_zero] | simp only [wrapu64m, wrapu32m]) | (with_reducible intro hg; (try simp only [vb, decide_eq_true_eq, decide_eq_false_iff_not, beq_iff_eq, beq_eq_false_iff_ne, bne_iff_ne, bne_eq_false_iff_eq, Bool.not_eq_true', Bool.not_eq_false', reduceCtorEq] at hg); (try (first | simp (disch := omega) only [wrap64, wrapu64, wrapu32, sh32, fdiv32, Int.tdiv_eq_ediv_of_nonneg, Int.tmod_eq_emod_of_nonneg, tn_add, tn_add1, Int.toNat_natCast, Int.toNat_zero, List.drop_zero] at hg | simp only [wrapu64m, wrapu32m] at hg))))
  all_goals try omega
  · have h1 := sgn_zero.1 hc
    simp only [finR, resAs, resA, resLe, lsLe, lkS, lkM, pubs, pub, tie_sz, ti_sz, tie_ek, ti_ek,  nilAV, MM.upd, MM.set, AV.part, AV.cells, AV.agg, List.tail, List.headD, Nat.reduceAdd, Nat.reduceEqDiff, Nat.reduceLT, ↓reduceIte, and_true, true_and, and_self, reduceCtorEq]
    refine AVle_q (by omega) (by omega) ?_ (fun _ => ⟨rfl, rfl, .inl rfl⟩)
    have h2 : d / (Int.gcd n d : Int) = 1 := by omega
    rw [← rat_div_of (show (Int.gcd n d : Int) ≠ 0 by omega) (show d ≠ 0 by omega) k2 k3, h2]
    simp [qval]
    grind
  · have h1 : ¬ (d / (Int.gcd n d : Int) - 1 = 0) := fun h => hc (sgn_zero.2 h)
    simp only [finR, resAs, resA, resLe, lsLe, lkS, lkM, pubs, pub, tie_sz, ti_sz, tie_ek, ti_ek,  nilAV, MM.upd, MM.set, AV.part, AV.cells, AV.agg, List.tail, List.headD, Nat.reduceAdd, Nat.reduceEqDiff, Nat.reduceLT, ↓reduceIte, and_true, true_and, and_self, reduceCtorEq]
    refine AVle_q (by omega) (by omega) ?_ (fun _ => ⟨rfl, rfl, .inr ⟨by omega, k5⟩⟩)
    rw [← rat_div_of (show (Int.gcd n d : Int) ≠ 0 by omega) (show d ≠ 0 by omega) k2 k3, qval, if_neg (by omega)]
def ctKAdd : Ct := fun l => match l with
  | [.pair (.z a ca s) (.z b cb t), .pair (.z c cc u) (.z d cd v)] => some (s ≤ 8589934592 ∧ t ≤ 8589934592 ∧ u ≤ 8589934592 ∧ v ≤ 8589934592, .pair (.z (a * d + c * b) true (max (s + v) (u + t) + 1)) (.z (b * d) true (t + v)))
  | _ => none
theorem ok136 : Sound Tryz.prog 136 ctKAdd := by
  refine sound_of (fn := Tryz.f136) rfl rfl rfl tiOk env8_ok mix ?_ (by intro l p r h; unfold ctKAdd at h; split at h <;> cases h <;> exact Nat.le_of_ble_eq_true rfl)
  intro l p r h hp F vs hv
  unfold ctKAdd at h
  split at h <;> cases h
  obtain ⟨v0, rest0, rfl, a0, hv⟩ := hv
  obtain ⟨v1, rest1, rfl, a1, hv⟩ := hv
  refine ⟨[_, _], ⟨_, _, rfl, a0, _, _, rfl, a1, hv⟩, ?_⟩
  show Run Tryz.prog ti env8 22 (finR ti [.cell 4 105] _) _ _ _
  repeat' (first | with_reducible refine run_seq ?_ | with_reducible refine run_block ?_ | with_reducible refine step_code ?_ | with_reducible refine step_blk ?_ | with_reducible refine run_skip ?_ | with_reducible refine run_exit ?_ | with_reducible refine exits_code ?_ | with_reducible refine exits_here ?_ | with_reducible refine exits_blk rfl ?_ | with_reducible refine exits_lp ?_ | with_reducible refine run_ret ?_ | ((first | with_reducible refine run_region ?_ | with_reducible refine run_draw (by kernel_rfl) ?_); simp only [↓guardP_tt, ↓guardP_tf, ↓guardP_ft, ↓guardP_ff, guardP_t, guardP_f, evalQ, evalR, effQ, effR, skipS, opEff, evO, plainV, lkS, lkM, updL, putS, tie_sz, tie_zero, tie_zeroB, tie_fld, tie_ek, tie_int, tie_isb, tie_eq2, tie_f1, tie_ms,  ti_f1, ti_ms, ti_sz, ti_zero, ti_zeroB, ti_fld, ti_ek, ti_int, ti_isb, ti_eq2, binA, binI, intOp, funOf_v, cloOf_v, calIds, appEff, frE, foldB, foldS, castL_self, K.enc, K.dec, K.zero, K.es, K.bytes, AV.part, AV.setPart, AV.cells, AV.agg, AV.nth, Bool.false_eq_true, callEff, pubs, pub, nilAV, MM.upd, MM.set, argS, gdst, opIds, lids, AV.ids, List.getD_cons_succ, List.getD_cons_zero, List.map, List.tail, List.headD, List.nil_append, List.append_nil, List.cons_append, List.length_nil, List.length_cons, List.zip_cons_cons, List.zip_nil_right, List.set_cons_zero, List.set_cons_succ, List.replicate, Option.isSome_some, Option.map_some, Bool.not_true, Bool.not_false, forall_const, false_implies, Nat.reduceAdd, Nat.reduceEqDiff, Nat.reduceLT, Nat.reduceSub, Nat.reduceMul, Nat.reduceLeDiff, ↓reduceIte, and_true, true_and, and_self, false_and, and_false, reduceCtorEq, env8, ctSign, ctFromI, ctNegZ, ctMulZ, ctAdd, ctZ2, zOf, ctSub, ctGcd, ctDivMod, ctCmpZ, ctIsCan]) | (with_reducible refine run_cond (by with_unfolding_all exact rfl) ?_ ?_ <;> intro hc <;> (try simp only [vb, decide_eq_true_eq, decide_eq_false_iff_not, beq_iff_eq, beq_eq_false_iff_ne, bne_iff_ne, bne_eq_false_iff_eq, Bool.not_eq_true', Bool.not_eq_false', reduceCtorEq] at hc) <;> (try (first | simp (disch := omega) only [wrap64, wrapu64, wrapu32, sh32, fdiv32, Int.tdiv_eq_ediv_of_nonneg, Int.tmod_eq_emod_of_nonneg, tn_add, tn_add1, Int.toNat_natCast, Int.toNat_zero, List.drop_zero] at hc | simp only [wrapu64m, wrapu32m] at hc))) | ((with_reducible refine compat_ok ?_); kernel_rfl) | with_reducible apply And.intro | (first | simp (disch := omega) only [wrap64, wrapu64, wrapu32, sh32, fdiv32, Int.tdiv_eq_ediv_of_nonneg, Int.tmod_eq_emod_of_nonneg, tn_add, tn_add1, Int.toNat_natCast, Int.toNat_zero, List.drop_zero] | simp only [wrapu64m, wrapu32m]) | (with_reducible intro hg; (try simp only [vb, decide_eq_true_eq, decide_eq_false_iff_not, beq_iff_eq, beq_eq_false_iff_ne, bne_iff_ne, bne_eq_false_iff_eq, Bool.not_eq_true', Bool.not_eq_false', reduceCtorEq] at hg); (try (first | simp (disch := omega) only [wrap64, wrapu64, wrapu32, sh32, fdiv32, Int.tdiv_eq_ediv_of_nonneg, Int.tmod_eq_emod_of_nonneg, tn_add, tn_add1, Int.toNat_natCast, Int.toNat_zero, List.drop_zero] at hg | simp only [wrapu64m, wrapu32m] at hg))))
  all_goals try omega
  simp only [finR, resAs, resA, resLe, lsLe, lkS, lkM, pubs, pub, tie_sz, ti_sz, tie_ek, ti_ek,  nilAV, MM.upd, MM.set, AV.part, AV.cells, AV.agg, List.tail, List.headD, Nat.reduceAdd, Nat.reduceEqDiff, Nat.reduceLT, ↓reduceIte, and_true, true_and, and_self, reduceCtorEq]
  exact AVle.rfl
def ctKSub : Ct := fun l => match l with
  | [.pair (.z a ca s) (.z b cb t), .pair (.z c cc u) (.z d cd v)] => some (s ≤ 8589934592 ∧ t ≤ 8589934592 ∧ u ≤ 8589934592 ∧ v ≤ 8589934592, .pair (.z (a * d - c * b) true (max (s + v) (u + t) + 1)) (.z (b * d) true (t + v)))
  | _ => none
theorem ok138 : Sound Tryz.prog 138 ctKSub := by
  refine sound_of (fn := Tryz.f138) rfl rfl rfl tiOk env8_ok mix ?_ (by intro l p r h; unfold ctKSub at h; split at h <;> cases h <;> exact Nat.le_of_ble_eq_true rfl)
  intro l p r h hp F vs hv
  unfold ctKSub at h
  split at h <;> cases h
  obtain ⟨v0, rest0, rfl, a0, hv⟩ := hv
  obtain ⟨v1, rest1, rfl, a1, hv⟩ := hv
  refine ⟨[_, _], ⟨_, _, rfl, a0, _, _, rfl, a1, hv⟩, ?_⟩
  show Run Tryz.prog ti env8 22 (finR ti [.cell 4 105] _) _ _ _
  repeat' (first | with_reducible refine run_seq ?_ | with_reducible refine run_block ?_ | with_reducible refine step_code ?_ | with_reducible refine step_blk ?_ | with_reducible refine run_skip ?_ | with_reducible refine run_exit ?_ | with_reducible refine exits_code ?_ | with_reducible refine exits_here ?_ | with_reducible refine exits_blk rfl ?_ | with_reducible refine exits_lp ?_ | with_reducible refine run_ret ?_ | ((first | with_reducible refine run_region ?_ | with_reducible refine run_draw (by kernel_rfl) ?_); simp only [↓guardP_tt, ↓guardP_tf, ↓guardP_ft, ↓guardP_ff, guardP_t, guardP_f, evalQ, evalR, effQ, effR, skipS, opEff, evO, plainV, lkS, lkM, updL, putS, tie_sz, tie_zero, tie_zeroB, tie_fld, tie_ek, tie_int, tie_isb, tie_eq2, tie_f1, tie_ms,  ti_f1, ti_ms, ti_sz, ti_zero, ti_zeroB, ti_fld, ti_ek, ti_int, ti_isb, ti_eq2, binA, binI, intOp, funOf_v, cloOf_v, calIds, appEff, frE, foldB, foldS, castL_self, K.enc, K.dec, K.zero, K.es, K.bytes, AV.part, AV.setPart, AV.cells, AV.agg, AV.nth, Bool.false_eq_true, callEff, pubs, pub, nilAV, MM.upd, MM.set, argS, gdst, opIds, lids, AV.ids, List.getD_cons_succ, List.getD_cons_zero, List.map, List.tail, List.headD, List.nil_append, List.append_nil, List.cons_append, List.length_nil, List.length_cons, List.zip_cons_cons, List.zip_nil_right, List.set_cons_zero, List.set_cons_succ, List.replicate, Option.isSome_some, Option.map_some, Bool.not_true, Bool.not_false, forall_const, false_implies, Nat.reduceAdd, Nat.reduceEqDiff, Nat.reduceLT, Nat.reduceSub, Nat.reduceMul, Nat.reduceLeDiff, ↓reduceIte, and_true, true_and, and_self, false_and, and_false, reduceCtorEq, env8, ctSign, ctFromI, ctNegZ, ctMulZ, ctAdd, ctZ2, zOf, ctSub, ctGcd, ctDivMod, ctCmpZ, ctIsCan]) | (with_reducible refine run_cond (by with_unfolding_all exact rfl) ?_ ?_ <;> intro hc <;> (try simp only [vb, decide_eq_true_eq, decide_eq_false_iff_not, beq_iff_eq, beq_eq_false_iff_ne, bne_iff_ne, bne_eq_false_iff_eq, Bool.not_eq_true', Bool.not_eq_false', reduceCtorEq] at hc) <;> (try (first | simp (disch := omega) only [wrap64, wrapu64, wrapu32, sh32, fdiv32, Int.tdiv_eq_ediv_of_nonneg, Int.tmod_eq_emod_of_nonneg, tn_add, tn_add1, Int.toNat_natCast, Int.toNat_zero, List.drop_zero] at hc | simp only [wrapu64m, wrapu32m] at hc))) | ((with_reducible refine compat_ok ?_); kernel_rfl) | with_reducible apply And.intro | (first | simp (disch := omega) only [wrap64, wrapu64, wrapu32, sh32, fdiv32, Int.tdiv_eq_ediv_of_nonneg, Int.tmod_eq_emod_of_nonneg, tn_add, tn_add1, Int.toNat_natCast, Int.toNat_zero, List.drop_zero] | simp only [wrapu64m, wrapu32m]) | (with_reducible intro hg; (try simp only [vb, decide_eq_true_eq, decide_eq_false_iff_not, beq_iff_eq, beq_eq_false_iff_ne, bne_iff_ne, bne_eq_false_iff_eq, Bool.not_eq_true', Bool.not_eq_false', reduceCtorEq] at hg); (try (first | simp (disch := omega) only [wrap64, wrapu64, wrapu32, sh32, fdiv32, Int.tdiv_eq_ediv_of_nonneg, Int.tmod_eq_emod_of_nonneg, tn_add, tn_add1, Int.toNat_natCast, Int.toNat_zero, List.drop_zero] at hg | simp only [wrapu64m, wrapu32m] at hg))))
  all_goals try omega
  simp only [finR, resAs, resA, resLe, lsLe, lkS, lkM, pubs, pub, tie_sz, ti_sz, tie_ek, ti_ek,  nilAV, MM.upd, MM.set, AV.part, AV.cells, AV.agg, List.tail, List.headD, Nat.reduceAdd, Nat.reduceEqDiff, Nat.reduceLT, ↓reduceIte, and_true, true_and, and_self, reduceCtorEq]
  exact AVle.rfl
def ctKMul : Ct := fun l => match l with
  | [.pair (.z a ca s) (.z b cb t), .pair (.z c cc u) (.z d cd v)] => some (s ≤ 8589934592 ∧ t ≤ 8589934592 ∧ u ≤ 8589934592 ∧ v ≤ 8589934592, .pair (.z (a * c) true (s + u)) (.z (b * d) true (t + v)))
  | _ => none
theorem ok139 : Sound Tryz.prog 139 ctKMul := by
  refine sound_of (fn := Tryz.f139) rfl rfl rfl tiOk env8_ok mix ?_ (by intro l p r h; unfold ctKMul at h; split at h <;> cases h <;> exact Nat.le_of_ble_eq_true rfl)
  intro l p r h hp F vs hv
  unfold ctKMul at h
  split at h <;> cases h
  obtain ⟨v0, rest0, rfl, a0, hv⟩ := hv
  obtain ⟨v1, rest1, rfl, a1, hv⟩ := hv
  refine ⟨[_, _], ⟨_, _, rfl, a0, _, _, rfl, a1, hv⟩, ?_⟩
  show Run Tryz.prog ti env8 16 (finR ti [.cell 4 105] _) _ _ _
  repeat' (first | with_reducible refine run_seq ?_ | with_reducible refine run_block ?_ | with_reducible refine step_code ?_ | with_reducible refine step_blk ?_ | with_reducible refine run_skip ?_ | with_reducible refine run_exit ?_ | with_reducible refine exits_code ?_ | with_reducible refine exits_here ?_ | with_reducible refine exits_blk rfl ?_ | with_reducible refine exits_lp ?_ | with_reducible refine run_ret ?_ | ((first | with_reducible refine run_region ?_ | with_reducible refine run_draw (by kernel_rfl) ?_); simp only [↓guardP_tt, ↓guardP_tf, ↓guardP_ft, ↓guardP_ff, guardP_t, guardP_f, evalQ, evalR, effQ, effR, skipS, opEff, evO, plainV, lkS, lkM, updL, putS, tie_sz, tie_zero, tie_zeroB, tie_fld, tie_ek, tie_int, tie_isb, tie_eq2, tie_f1, tie_ms,  ti_f1, ti_ms, ti_sz, ti_zero, ti_zeroB, ti_fld, ti_ek, ti_int, ti_isb, ti_eq2, binA, binI, intOp, funOf_v, cloOf_v, calIds, appEff, frE, foldB, foldS, castL_self, K.enc, K.dec, K.zero, K.es, K.bytes, AV.part, AV.setPart, AV.cells, AV.agg, AV.nth, Bool.false_eq_true, callEff, pubs, pub, nilAV, MM.upd, MM.set, argS, gdst, opIds, lids, AV.ids, List.getD_cons_succ, List.getD_cons_zero, List.map, List.tail, List.headD, List.nil_append, List.append_nil, List.cons_append, List.length_nil, List.length_cons, List.zip_cons_cons, List.zip_nil_right, List.set_cons_zero, List.set_cons_succ, List.replicate, Option.isSome_some, Option.map_some, Bool.not_true, Bool.not_false, forall_const, false_implies, Nat.reduceAdd, Nat.reduceEqDiff, Nat.reduceLT, Nat.reduceSub, Nat.reduceMul, Nat.reduceLeDiff, ↓reduceIte, and_true, true_and, and_self, false_and, and_false, reduceCtorEq, env8, ctSign, ctFromI, ctNegZ, ctMulZ, ctAdd, ctZ2, zOf, ctSub, ctGcd, ctDivMod, ctCmpZ, ctIsCan]) | (with_reducible refine run_cond (by with_unfolding_all exact rfl) ?_ ?_ <;> intro hc <;> (try simp only [vb, decide_eq_true_eq, decide_eq_false_iff_not, beq_iff_eq, beq_eq_false_iff_ne, bne_iff_ne, bne_eq_false_iff_eq, Bool.not_eq_true', Bool.not_eq_false', reduceCtorEq] at hc) <;> (try (first | simp (disch := omega) only [wrap64, wrapu64, wrapu32, sh32, fdiv32, Int.tdiv_eq_ediv_of_nonneg, Int.tmod_eq_emod_of_nonneg, tn_add, tn_add1, Int.toNat_natCast, Int.toNat_zero, List.drop_zero] at hc | simp only [wrapu64m, wrapu32m] at hc))) | ((with_reducible refine compat_ok ?_); kernel_rfl) | with_reducible apply And.intro | (first | simp (disch := omega) only [wrap64, wrapu64, wrapu32, sh32, fdiv32, Int.tdiv_eq_ediv_of_nonneg, Int.tmod_eq_emod_of_nonneg, tn_add, tn_add1, Int.toNat_natCast, Int.toNat_zero, List.drop_zero] | simp only [wrapu64m, wrapu32m]) | (with_reducible intro hg; (try simp only [vb, decide_eq_true_eq, decide_eq_false_iff_not, beq_iff_eq, beq_eq_false_iff_ne, bne_iff_ne, bne_eq_false_iff_eq, Bool.not_eq_true', Bool.not_eq_false', reduceCtorEq] at hg); (try (first | simp (disch := omega) only [wrap64, wrapu64, wrapu32, sh32, fdiv32, Int.tdiv_eq_ediv_of_nonneg, Int.tmod_eq_emod_of_nonneg, tn_add, tn_add1, Int.toNat_natCast, Int.toNat_zero, List.drop_zero] at hg | simp only [wrapu64m, wrapu32m] at hg))))
  all_goals try omega
  simp only [finR, resAs, resA, resLe, lsLe, lkS, lkM, pubs, pub, tie_sz, ti_sz, tie_ek, ti_ek,  nilAV, MM.upd, MM.set, AV.part, AV.cells, AV.agg, List.tail, List.headD, Nat.reduceAdd, Nat.reduceEqDiff, Nat.reduceLT, ↓reduceIte, and_true, true_and, and_self, reduceCtorEq]
  exact AVle.rfl
def env9 : Env := fun g => match g with | 99 => some ctMulZ | 97 => some ctOf | _ => none
theorem env9_ok : EnvOk Tryz.prog env9 := by
  intro g ct h
  simp only [env9] at h
  split at h <;> first | (cases h; exact ok99) | (cases h; exact ok97) | cases h
def ctKDiv : Ct := fun l => match l with
  | [.pair (.z a ca s) (.z b cb t), .pair (.z c cc u) (.z d cd v)] => some (s ≤ 8589934592 ∧ t ≤ 8589934592 ∧ u ≤ 8589934592 ∧ v ≤ 8589934592, .pair (.z (ofN (a * d) (b * c)) false (s + v)) (.z (ofD (b * c)) false (t + u + 2)))
  | _ => none
theorem ok140 : Sound Tryz.prog 140 ctKDiv := by
  refine sound_of (fn := Tryz.f140) rfl rfl rfl tiOk env9_ok mix ?_ (by intro l p r h; unfold ctKDiv at h; split at h <;> cases h <;> exact Nat.le_of_ble_eq_true rfl)
  intro l p r h hp F vs hv
  unfold ctKDiv at h
  split at h <;> cases h
  obtain ⟨v0, rest0, rfl, a0, hv⟩ := hv
  obtain ⟨v1, rest1, rfl, a1, hv⟩ := hv
  refine ⟨[_, _], ⟨_, _, rfl, a0, _, _, rfl, a1, hv⟩, ?_⟩
  show Run Tryz.prog ti env9 17 (finR ti [.cell 4 105] _) _ _ _
  repeat' (first | with_reducible refine run_seq ?_ | with_reducible refine run_block ?_ | with_reducible refine step_code ?_ | with_reducible refine step_blk ?_ | with_reducible refine run_skip ?_ | with_reducible refine run_exit ?_ | with_reducible refine exits_code ?_ | with_reducible refine exits_here ?_ | with_reducible refine exits_blk rfl ?_ | with_reducible refine exits_lp ?_ | with_reducible refine run_ret ?_ | ((first | with_reducible refine run_region ?_ | with_reducible refine run_draw (by kernel_rfl) ?_); simp only [↓guardP_tt, ↓guardP_tf, ↓guardP_ft, ↓guardP_ff, guardP_t, guardP_f, evalQ, evalR, effQ, effR, skipS, opEff, evO, plainV, lkS, lkM, updL, putS, tie_sz, tie_zero, tie_zeroB, tie_fld, tie_ek, tie_int, tie_isb, tie_eq2, tie_f1, tie_ms,  ti_f1, ti_ms, ti_sz, ti_zero, ti_zeroB, ti_fld, ti_ek, ti_int, ti_isb, ti_eq2, binA, binI, intOp, funOf_v, cloOf_v, calIds, appEff, frE, foldB, foldS, castL_self, K.enc, K.dec, K.zero, K.es, K.bytes, AV.part, AV.setPart, AV.cells, AV.agg, AV.nth, Bool.false_eq_true, callEff, pubs, pub, nilAV, MM.upd, MM.set, argS, gdst, opIds, lids, AV.ids, List.getD_cons_succ, List.getD_cons_zero, List.map, List.tail, List.headD, List.nil_append, List.append_nil, List.cons_append, List.length_nil, List.length_cons, List.zip_cons_cons, List.zip_nil_right, List.set_cons_zero, List.set_cons_succ, List.replicate, Option.isSome_some, Option.map_some, Bool.not_true, Bool.not_false, forall_const, false_implies, Nat.reduceAdd, Nat.reduceEqDiff, Nat.reduceLT, Nat.reduceSub, Nat.reduceMul, Nat.reduceLeDiff, ↓reduceIte, and_true, true_and, and_self, false_and, and_false, reduceCtorEq, env9, ctMulZ, ctOf]) | (with_reducible refine run_cond (by with_unfolding_all exact rfl) ?_ ?_ <;> intro hc <;> (try simp only [vb, decide_eq_true_eq, decide_eq_false_iff_not, beq_iff_eq, beq_eq_false_iff_ne, bne_iff_ne, bne_eq_false_iff_eq, Bool.not_eq_true', Bool.not_eq_false', reduceCtorEq] at hc) <;> (try (first | simp (disch := omega) only [wrap64, wrapu64, wrapu32, sh32, fdiv32, Int.tdiv_eq_ediv_of_nonneg, Int.tmod_eq_emod_of_nonneg, tn_add, tn_add1, Int.toNat_natCast, Int.toNat_zero, List.drop_zero] at hc | simp only [wrapu64m, wrapu32m] at hc))) | ((with_reducible refine compat_ok ?_); kernel_rfl) | with_reducible apply And.intro | (first | simp (disch := omega) only [wrap64, wrapu64, wrapu32, sh32, fdiv32, Int.tdiv_eq_ediv_of_nonneg, Int.tmod_eq_emod_of_nonneg, tn_add, tn_add1, Int.toNat_natCast, Int.toNat_zero, List.drop_zero] | simp only [wrapu64m, wrapu32m]) | (with_reducible intro hg; (try simp only [vb, decide_eq_true_eq, decide_eq_false_iff_not, beq_iff_eq, beq_eq_false_iff_ne, bne_iff_ne, bne_eq_false_iff_eq, Bool.not_eq_true', Bool.not_eq_false', reduceCtorEq] at hg); (try (first | simp (disch := omega) only [wrap64, wrapu64, wrapu32, sh32, fdiv32, Int.tdiv_eq_ediv_of_nonneg, Int.tmod_eq_emod_of_nonneg, tn_add, tn_add1, Int.toNat_natCast, Int.toNat_zero, List.drop_zero] at hg | simp only [wrapu64m, wrapu32m] at hg))))
  all_goals try omega
  simp only [finR, resAs, resA, resLe, lsLe, lkS, lkM, pubs, pub, tie_sz, ti_sz, tie_ek, ti_ek,  nilAV, MM.upd, MM.set, AV.part, AV.cells, AV.agg, List.tail, List.headD, Nat.reduceAdd, Nat.reduceEqDiff, Nat.reduceLT, ↓reduceIte, and_true, true_and, and_self, reduceCtorEq]
  exact AVle.rfl
end Go.AE

/- Contracts: frac.does. The table of its kinds, walked by hand; then on states. -/
namespace Go.AE
open Go.Proofs Go.RowKit
set_option linter.unusedVariables false
set_option linter.unusedSimpArgs false
set_option maxRecDepth 20000

def fnv (f : Nat) : Value := .agg #[.func (.func f) #[] #[]]
def sAdd : ByteArray := ⟨#[97, 100, 100]⟩
def sSub : ByteArray := ⟨#[115, 117, 98]⟩
def sMul : ByteArray := ⟨#[109, 117, 108]⟩
def sDiv : ByteArray := ⟨#[100, 105, 118]⟩
def kindsEs : List MapEntry := [⟨.string sAdd, fnv 136, 0⟩, ⟨.string sSub, fnv 138, 1⟩, ⟨.string sMul, fnv 139, 2⟩, ⟨.string sDiv, fnv 140, 3⟩]
def kindsObj : Obj := .map kindsEs.toArray 4
section
variable {ops : Array Oper} {rest : List Nat} {Q : Exit → Act → World → Prop} {i : Nat} {o : Oper} {a : Act} {w w' : World} {v : Value}
theorem ops_val {a' : Act} (ha : a' = a.put o.dst v) (hi : ops[i]? = some o) (hg : o.guard = none) (h : (execOp a.eval o).run Tryz.prog w = .ok (.value v) w') (hn : wpOps Tryz.prog ops Q rest a' w') : wpOps Tryz.prog ops Q (i :: rest) a w := by
  subst ha
  simp only [wpOps, hi]
  rw [if_pos (by simp [Region.wanted, hg])]
  exact .inl (OpGoal.of_run (Ψ := fun v' w'' => v' = v ∧ w'' = w') h ⟨rfl, rfl⟩ _ _ (by rintro _ _ ⟨rfl, rfl⟩; exact hn))
theorem ops_skip (hi : ops[i]? = some o) (hg : o.guard = none) (hd : o.dst = none) (h : (execOp a.eval o).run Tryz.prog w = .ok .skip w') (hn : wpOps Tryz.prog ops Q rest a w') : wpOps Tryz.prog ops Q (i :: rest) a w := by
  simp only [wpOps, hi]
  rw [if_pos (by simp [Region.wanted, hg])]
  exact .inl (OpGoal.of_skip (Ψ := fun v' w'' => w'' = w') h rfl _ _ (by rintro _ _ rfl; rw [hd]; exact hn))
end
/-- The table's block, among the rest as it was. -/
structure MW (w w' : World) (es : List MapEntry) (c : Nat) : Prop where
  b : Below w.heap.size w w'
  h : w'.heap[w.heap.size]? = some (.map es.toArray c)
theorem MW.ins {w w' : World} {es : List MapEntry} {c : Nat} (h : MW w w' es c) (s : ByteArray) (v : Value) (hf : Instr.findNow .string (.string s) es 0 = some none) :
    ∃ w2, (Instr.mapUpdate 136 (.map (some w.heap.size)) (.string s) v).run Tryz.prog w' = .ok () w2 ∧ MW w w2 (es ++ [⟨.string s, v, c⟩]) (c + 1) := by
  obtain ⟨kt, e, h1, h2⟩ := tiOk.ms 136 rfl
  have hc : (Instr.checkKey false 10000 kt (.string s)).run Tryz.prog w' = .ok () w' := MapKept.run_checkKey (k := .string s) h2 (by simp [MapKept.IsKey]) false 9999
  refine ⟨{ w' with heap := w'.heap.setIfInBounds w.heap.size (.map (es ++ [({ key := .string s, val := v, born := c } : MapEntry)]).toArray (c + 1)) }, ?_, ⟨⟨h.b.os, h.b.tape, h.b.output, by simpa using h.b.size, fun k hk => ?_⟩, ?_⟩⟩
  · simp [Instr.mapUpdate, run_underlying h1, MapKept.run_getObj_map h.h, hc, MapKept.run_findKey h2 (l := es) hf, MapKept.run_setObj_map _ h.h, Result.andThen]
  · simp only [Array.getElem?_setIfInBounds]
    rw [if_neg (by omega)]; exact h.b.block k hk
  · simp only [Array.getElem?_setIfInBounds]
    rw [if_pos trivial, if_pos (Array.getElem?_eq_some_iff.1 h.h).1]

theorem run_kinds {cx cy c : Code} (hcode : Tryz.f102.body = some (.seq cx (.seq c cy))) {env : Env} {fin : AS → Prop} {k : Kst} {σ : AS} (hk : Step Tryz.prog ti env 24 fin k ⟨[(7, .mp kindsObj), (0, lkS σ.sl 0), (4, lkS σ.sl 4), (5, lkS σ.sl 5), (6, lkS σ.sl 6)], σ.mem, σ.nx⟩) : Run Tryz.prog ti env 24 fin c k σ := by
  cases hcode
  intro ok henv hmix w0 F0 a w hg
  obtain ⟨F, G, hm, hs, hsz, hdf⟩ := hg
  refine wp_region ?_
  simp only [List.size_toArray, List.length_cons, List.length_nil, Nat.reduceAdd]
  rw [show List.range 11 = [0, 1, 2, 3, 4, 5, 6, 7, 8, 9, 10] from rfl]
  have m0 : MW w (w.alloc (.map #[] 0)) [] 0 := ⟨(Below.refl _ w).alloc (Nat.le_refl _) _, World.alloc_heap_new w _⟩
  have psz : ∀ (a : Act) d v, (a.put (some d) v).tmps.size = a.tmps.size := fun a d v => by simp [Act.put]
  have get : ∀ (a : Act) (d : Tmp) (v : Value), a.tmps.size = 24 → d < 24 → ∀ t, (a.put (some d) v).eval (.tmp t) = if t = d then v else a.eval (.tmp t) := fun a d v h1 h2 t => put_getD a d v (by rw [h1]; exact h2) t
  have hbuild : ∀ (f : Nat) (a : Act) (w : World) (o : Oper), o.op = .build 135 #[(0, .func f)] → (execOp a.eval o).run Tryz.prog w = .ok (.value (fnv f)) w := by
    intro f a w o ho
    have hb : Tryz.prog.built 135 [(0, .func (.func f) #[] #[])] = some #[.func (.func f) #[] #[]] := rfl
    have hr : (Instr.build 135 #[(0, a.eval (.func f))]).run Tryz.prog w = .ok (.agg #[.func (.func f) #[] #[]]) w := run_build w 135 #[(0, a.eval (.func f))] #[.func (.func f) #[] #[]] hb
    simp [execOp, ho, hr, fnv]
  have hins : ∀ (a : Act) (w1 w2 : World) (o : Oper) (x : Tmp) (key : ByteArray) (v : Value), o.op = .insert 136 (.tmp 8) (.const (.string key)) (.tmp x) → a.eval (.tmp 8) = .map (some w.heap.size) → a.eval (.tmp x) = v →
      (Instr.mapUpdate 136 (.map (some w.heap.size)) (.string key) v).run Tryz.prog w1 = .ok () w2 → (execOp a.eval o).run Tryz.prog w1 = .ok .skip w2 := by
    intro a w1 w2 o x key v ho h1 h2 h3
    simp [execOp, ho, h1, h2, h3, show a.eval (.const (.string key)) = .string key from rfl]
  obtain ⟨a1, ha1⟩ : ∃ a1, a1 = a.put (some 8) (.map (some w.heap.size)) := ⟨_, rfl⟩
  have s1 : a1.tmps.size = 24 := by rw [ha1, psz, hsz]
  have d1 : a1.defers = [] := by rw [ha1]; exact hdf
  have g1 : ∀ t : Nat, t < 8 → a1.eval (.tmp t) = a.eval (.tmp t) := fun t ht => by rw [ha1, get _ _ _ hsz (by decide), if_neg (show ¬ t = 8 by omega)]
  have e1 : a1.eval (.tmp 8) = .map (some w.heap.size) := by rw [ha1, get _ _ _ hsz (by decide), if_pos rfl]
  refine ops_val (v := .map (some w.heap.size)) (w' := w.alloc (.map #[] 0)) ha1 rfl rfl (by simp [execOp, run_makeMap_plain]) ?_
  clear ha1
  obtain ⟨w1, r1, m1⟩ := m0.ins sAdd (fnv 136) rfl
  obtain ⟨w2, r2, m2⟩ := m1.ins sSub (fnv 138) rfl
  obtain ⟨w3, r3, m3⟩ := m2.ins sMul (fnv 139) rfl
  obtain ⟨w4, r4, m4⟩ := m3.ins sDiv (fnv 140) rfl
  obtain ⟨a2, ha2⟩ : ∃ b, b = a1.put (some 9) (fnv 136) := ⟨_, rfl⟩
  have s2 : a2.tmps.size = 24 := by rw [ha2, psz, s1]
  have d2 : a2.defers = [] := by rw [ha2]; exact d1
  have g2 : ∀ t : Nat, t < 8 → a2.eval (.tmp t) = a.eval (.tmp t) := fun t ht => by rw [ha2, get _ _ _ s1 (by decide), if_neg (fun h => by subst h; revert ht; decide), g1 t (by omega)]
  have e2 : a2.eval (.tmp 8) = .map (some w.heap.size) := by rw [ha2, get _ _ _ s1 (by decide), if_neg (by decide), e1]
  have f2 : a2.eval (.tmp 9) = fnv 136 := by rw [ha2, get _ _ _ s1 (by decide), if_pos rfl]
  refine ops_val ha2 rfl rfl (hbuild _ _ _ _ rfl) ?_
  clear ha2
  refine ops_skip (w' := w1) rfl rfl rfl (hins _ _ _ _ 9 _ _ rfl e2 f2 r1) ?_
  obtain ⟨a3, ha3⟩ : ∃ b, b = a2.put (some 10) (fnv 138) := ⟨_, rfl⟩
  have s3 : a3.tmps.size = 24 := by rw [ha3, psz, s2]
  have d3 : a3.defers = [] := by rw [ha3]; exact d2
  have g3 : ∀ t : Nat, t < 8 → a3.eval (.tmp t) = a.eval (.tmp t) := fun t ht => by rw [ha3, get _ _ _ s2 (by decide), if_neg (fun h => by subst h; revert ht; decide), g2 t (by omega)]
  have e3 : a3.eval (.tmp 8) = .map (some w.heap.size) := by rw [ha3, get _ _ _ s2 (by decide), if_neg (by decide), e2]
  have f3 : a3.eval (.tmp 10) = fnv 138 := by rw [ha3, get _ _ _ s2 (by decide), if_pos rfl]
  refine ops_val ha3 rfl rfl (hbuild _ _ _ _ rfl) ?_
  clear ha3
  refine ops_skip (w' := w2) rfl rfl rfl (hins _ _ _ _ 10 _ _ rfl e3 f3 r2) ?_
  obtain ⟨a4, ha4⟩ : ∃ b, b = a3.put (some 11) (fnv 139) := ⟨_, rfl⟩
  have s4 : a4.tmps.size = 24 := by rw [ha4, psz, s3]
  have d4 : a4.defers = [] := by rw [ha4]; exact d3
  have g4 : ∀ t : Nat, t < 8 → a4.eval (.tmp t) = a.eval (.tmp t) := fun t ht => by rw [ha4, get _ _ _ s3 (by decide), if_neg (fun h => by subst h; revert ht; decide), g3 t (by omega)]
  have e4 : a4.eval (.tmp 8) = .map (some w.heap.size) := by rw [ha4, get _ _ _ s3 (by decide), if_neg (by decide), e3]
  have f4 : a4.eval (.tmp 11) = fnv 139 := by rw [ha4, get _ _ _ s3 (by decide), if_pos rfl]
  refine ops_val ha4 rfl rfl (hbuild _ _ _ _ rfl) ?_
  clear ha4
  refine ops_skip (w' := w3) rfl rfl rfl (hins _ _ _ _ 11 _ _ rfl e4 f4 r3) ?_
  obtain ⟨a5, ha5⟩ : ∃ b, b = a4.put (some 12) (fnv 140) := ⟨_, rfl⟩
  have s5 : a5.tmps.size = 24 := by rw [ha5, psz, s4]
  have d5 : a5.defers = [] := by rw [ha5]; exact d4
  have g5 : ∀ t : Nat, t < 8 → a5.eval (.tmp t) = a.eval (.tmp t) := fun t ht => by rw [ha5, get _ _ _ s4 (by decide), if_neg (fun h => by subst h; revert ht; decide), g4 t (by omega)]
  have e5 : a5.eval (.tmp 8) = .map (some w.heap.size) := by rw [ha5, get _ _ _ s4 (by decide), if_neg (by decide), e4]
  have f5 : a5.eval (.tmp 12) = fnv 140 := by rw [ha5, get _ _ _ s4 (by decide), if_pos rfl]
  refine ops_val ha5 rfl rfl (hbuild _ _ _ _ rfl) ?_
  clear ha5
  refine ops_skip (w' := w4) rfl rfl rfl (hins _ _ _ _ 12 _ _ rfl e5 f5 r4) ?_
  obtain ⟨a6, ha6⟩ : ∃ b, b = a5.put (some 13) (.map (some w.heap.size)) := ⟨_, rfl⟩
  refine ops_val (w' := w4) (v := .map (some w.heap.size)) ha6 rfl rfl (by simp [execOp, e5]) ?_
  have s6 : a6.tmps.size = 24 := by rw [ha6, psz, s5]
  have d6 : a6.defers = [] := by rw [ha6]; exact d5
  have g6 : ∀ t : Nat, t < 8 → a6.eval (.tmp t) = a.eval (.tmp t) := fun t ht => by rw [ha6, get _ _ _ s5 (by decide), if_neg (fun h => by subst h; revert ht; decide), g5 t (by omega)]
  have f6 : a6.eval (.tmp 13) = .map (some w.heap.size) := by rw [ha6, get _ _ _ s5 (by decide), if_pos rfl]
  obtain ⟨a7, ha7⟩ : ∃ b, b = a6.put (some 7) (.map (some w.heap.size)) := ⟨_, rfl⟩
  refine ops_val (w' := w4) (v := .map (some w.heap.size)) ha7 rfl rfl (by simp [execOp, f6]) ?_
  have s7 : a7.tmps.size = 24 := by rw [ha7, psz, s6]
  have d7 : a7.defers = [] := by rw [ha7]; exact d6
  have g7 : ∀ t : Nat, t < 7 → a7.eval (.tmp t) = a.eval (.tmp t) := fun t ht => by rw [ha7, get _ _ _ s6 (by decide), if_neg (fun h => by subst h; revert ht; decide), g6 t (by omega)]
  have f7 : a7.eval (.tmp 7) = .map (some w.heap.size) := by rw [ha7, get _ _ _ s6 (by decide), if_pos rfl]
  clear ha6 ha7
  refine ⟨_, ?_, hk⟩
  obtain ⟨F', hF'⟩ : ∃ F' : Fz, F' = fun b => if b = w.heap.size then some kindsObj else F b := ⟨_, rfl⟩
  have hle : F.le F' := by
    intro b o e
    have := hm.lt e
    rw [hF']; simp only; rw [if_neg (by omega)]; exact e
  refine ⟨F', G, hm.called hle (fun b hb => by rw [hF']; simp only; rw [if_neg (by omega)]) ?_ m4.b, ?_, s7, d7⟩
  · intro b o e
    rw [hF'] at e
    simp only at e
    split at e
    · rename_i h; cases e; rw [h]; exact m4.h
    · rw [m4.b.block b (hm.lt e)]; exact hm.fit b o e
  · intro t
    have key : ∀ t : Nat, t < 7 → RV F' G (lkS σ.sl t) (a7.tmps.getD t undef) := fun t ht => by
      have := (hs t).mono hle (Gm.le.refl G)
      rw [show a7.tmps.getD t undef = a.tmps.getD t undef from g7 t ht]; exact this
    simp only [lkS]
    by_cases h7 : t = 7
    · subst h7
      rw [if_pos rfl, show a7.tmps.getD 7 undef = .map (some w.heap.size) from f7]
      exact (show ∃ b, [_] = [_] ∧ F' b = some kindsObj from ⟨w.heap.size, rfl, by rw [hF']; simp⟩)
    · rw [if_neg (Ne.symm h7)]
      split
      · rename_i e; subst e; exact key 0 (by decide)
      · split
        · rename_i e; subst e; exact key 4 (by decide)
        · split
          · rename_i e; subst e; exact key 5 (by decide)
          · split
            · rename_i e; subst e; exact key 6 (by decide)
            · trivial

def env10 : Env := fun g => match g with | 97 => some ctOf | 136 => some ctKAdd | 138 => some ctKSub | 139 => some ctKMul | 140 => some ctKDiv | 135 => some ctLeast | _ => none
theorem env10_ok : EnvOk Tryz.prog env10 := by
  intro g ct h
  simp only [env10] at h
  split at h <;> first | (cases h; exact ok97) | (cases h; exact ok136) | (cases h; exact ok138) | (cases h; exact ok139) | (cases h; exact ok140) | (cases h; exact ok135) | cases h
def kOf (w : ByteArray) : Nat := if w = sAdd then 0 else if w = sSub then 1 else if w = sMul then 2 else if w = sDiv then 3 else 4
theorem kOf_add : kOf ⟨#[97, 100, 100]⟩ = 0 := by decide
theorem kOf_sub : kOf ⟨#[115, 117, 98]⟩ = 1 := by decide
theorem kOf_mul : kOf ⟨#[109, 117, 108]⟩ = 2 := by decide
theorem kOf_div : kOf ⟨#[100, 105, 118]⟩ = 3 := by decide
theorem find_add : findS ⟨#[97, 100, 100]⟩ kindsEs = some (fnv 136) := by rfl
theorem find_sub : findS ⟨#[115, 117, 98]⟩ kindsEs = some (fnv 138) := by rfl
theorem find_mul : findS ⟨#[109, 117, 108]⟩ kindsEs = some (fnv 139) := by rfl
theorem find_div : findS ⟨#[100, 105, 118]⟩ kindsEs = some (fnv 140) := by rfl
def ctDoes : Ct := fun l => match l with
  | [.v (.string w), .q x c s, .q y d t] => match kOf w with
    | 0 => some (s ≤ 4294967296 ∧ t ≤ 4294967296, .q (x + y) true (s + t + 8))
    | 1 => some (s ≤ 4294967296 ∧ t ≤ 4294967296, .q (x - y) true (s + t + 8))
    | 2 => some (s ≤ 4294967296 ∧ t ≤ 4294967296, .q (x * y) true (s + t + 8))
    | 3 => some (s ≤ 4294967296 ∧ t ≤ 4294967296 ∧ y ≠ 0, .q (x / y) true (s + t + 8))
    | _ => none
  | _ => none
theorem rat_add' {a b c d : Int} (hb : 0 < b) (hd : 0 < d) : ((a * d + c * b : Int) : Rat) / ((b * d : Int) : Rat) = (a : Rat) / b + (c : Rat) / d := by
  have := rat_ne (show b ≠ 0 by omega)
  have := rat_ne (show d ≠ 0 by omega)
  rw [Rat.intCast_add, Rat.intCast_mul, Rat.intCast_mul, Rat.intCast_mul]
  grind
theorem rat_sub' {a b c d : Int} (hb : 0 < b) (hd : 0 < d) : ((a * d - c * b : Int) : Rat) / ((b * d : Int) : Rat) = (a : Rat) / b - (c : Rat) / d := by
  have := rat_ne (show b ≠ 0 by omega)
  have := rat_ne (show d ≠ 0 by omega)
  rw [Rat.intCast_sub, Rat.intCast_mul, Rat.intCast_mul, Rat.intCast_mul]
  grind
theorem rat_mul' {a b c d : Int} (hb : 0 < b) (hd : 0 < d) : ((a * c : Int) : Rat) / ((b * d : Int) : Rat) = (a : Rat) / b * ((c : Rat) / d) := by
  have := rat_ne (show b ≠ 0 by omega)
  have := rat_ne (show d ≠ 0 by omega)
  rw [Rat.intCast_mul, Rat.intCast_mul]
  grind
theorem rat_div' {a b c d : Int} (hb : 0 < b) (hd : 0 < d) (hc : c ≠ 0) : qval (a * d) (b * c) = (a : Rat) / b / ((c : Rat) / d) := by
  have h1 := rat_ne (show b ≠ 0 by omega)
  have h2 := rat_ne (show d ≠ 0 by omega)
  have h3 := rat_ne hc
  rw [qval, if_neg (by intro h; rcases Int.mul_eq_zero.1 h with h | h <;> omega), Rat.intCast_mul, Rat.intCast_mul]
  grind
theorem ok102 : Sound Tryz.prog 102 ctDoes := by
  refine sound_of (fn := Tryz.f102) rfl rfl rfl tiOk env10_ok mix ?_ (by intro l p r h; unfold ctDoes at h; split at h <;> first | cases h | (split at h <;> cases h <;> exact Nat.le_of_ble_eq_true rfl))
  intro l p r h hp F vs hv
  unfold ctDoes at h
  split at h
  rotate_left
  · cases h
  rename_i w x c s y d t
  have hw : (w = ⟨#[97, 100, 100]⟩ ∨ w = ⟨#[115, 117, 98]⟩) ∨ (w = ⟨#[109, 117, 108]⟩ ∨ w = ⟨#[100, 105, 118]⟩) := by
    by_cases h1 : w = sAdd
    · exact .inl (.inl h1)
    by_cases h2 : w = sSub
    · exact .inl (.inr h2)
    by_cases h3 : w = sMul
    · exact .inr (.inl h3)
    by_cases h4 : w = sDiv
    · exact .inr (.inr h4)
    simp [kOf, h1, h2, h3, h4] at h
  obtain ⟨v0, rest0, rfl, a0, hv⟩ := hv
  obtain ⟨v1, rest1, rfl, a1, hv⟩ := hv
  obtain ⟨n1, d1, cn1, cd1, a1, val1, can1⟩ := open_q a1
  obtain ⟨v2, rest2, rfl, a2, hv⟩ := hv
  obtain ⟨n2, d2, cn2, cd2, a2, val2, can2⟩ := open_q a2
  refine ⟨[_, _, _], ⟨_, _, rfl, a0, _, _, rfl, a1, _, _, rfl, a2, hv⟩, ?_⟩
  rcases hw with (rfl | rfl) | (rfl | rfl)
  · simp only [kOf_add, Option.some.injEq, Prod.mk.injEq] at h
    obtain ⟨rfl, rfl⟩ := h
    show Run Tryz.prog ti env10 24 (finR ti [.cell 6 27] _) _ _ _
    refine run_seq (run_region ?_)
    simp only [↓guardP_tt, ↓guardP_tf, ↓guardP_ft, ↓guardP_ff, guardP_t, guardP_f, evalQ, evalR, effQ, effR, skipS, opEff, evO, plainV, lkS, lkM, updL, putS, tie_sz, tie_zero, tie_zeroB, tie_fld, tie_ek, tie_int, tie_isb, tie_eq2, tie_f1, tie_ms,  ti_f1, ti_ms, ti_sz, ti_zero, ti_zeroB, ti_fld, ti_ek, ti_int, ti_isb, ti_eq2, binA, binI, intOp, funOf_v, cloOf_v, calIds, appEff, frE, foldB, foldS, castL_self, K.enc, K.dec, K.zero, K.es, K.bytes, AV.part, AV.setPart, AV.cells, AV.agg, AV.nth, Bool.false_eq_true, callEff, pubs, pub, nilAV, MM.upd, MM.set, argS, gdst, opIds, lids, AV.ids, List.getD_cons_succ, List.getD_cons_zero, List.map, List.tail, List.headD, List.nil_append, List.append_nil, List.cons_append, List.length_nil, List.length_cons, List.zip_cons_cons, List.zip_nil_right, List.set_cons_zero, List.set_cons_succ, List.replicate, Option.isSome_some, Option.map_some, Bool.not_true, Bool.not_false, forall_const, false_implies, Nat.reduceAdd, Nat.reduceEqDiff, Nat.reduceLT, Nat.reduceSub, Nat.reduceMul, Nat.reduceLeDiff, ↓reduceIte, and_true, true_and, and_self, false_and, and_false, reduceCtorEq, env10]
    refine step_code (run_seq (run_kinds rfl ?_))
    simp only [↓guardP_tt, ↓guardP_tf, ↓guardP_ft, ↓guardP_ff, guardP_t, guardP_f, evalQ, evalR, effQ, effR, skipS, opEff, evO, plainV, lkS, lkM, updL, putS, tie_sz, tie_zero, tie_zeroB, tie_fld, tie_ek, tie_int, tie_isb, tie_eq2, tie_f1, tie_ms,  ti_f1, ti_ms, ti_sz, ti_zero, ti_zeroB, ti_fld, ti_ek, ti_int, ti_isb, ti_eq2, binA, binI, intOp, funOf_v, cloOf_v, calIds, appEff, frE, foldB, foldS, castL_self, K.enc, K.dec, K.zero, K.es, K.bytes, AV.part, AV.setPart, AV.cells, AV.agg, AV.nth, Bool.false_eq_true, callEff, pubs, pub, nilAV, MM.upd, MM.set, argS, gdst, opIds, lids, AV.ids, List.getD_cons_succ, List.getD_cons_zero, List.map, List.tail, List.headD, List.nil_append, List.append_nil, List.cons_append, List.length_nil, List.length_cons, List.zip_cons_cons, List.zip_nil_right, List.set_cons_zero, List.set_cons_succ, List.replicate, Option.isSome_some, Option.map_some, Bool.not_true, Bool.not_false, forall_const, false_implies, Nat.reduceAdd, Nat.reduceEqDiff, Nat.reduceLT, Nat.reduceSub, Nat.reduceMul, Nat.reduceLeDiff, ↓reduceIte, and_true, true_and, and_self, false_and, and_false, reduceCtorEq, env10]
    repeat' (first | with_reducible refine run_seq ?_ | with_reducible refine run_block ?_ | with_reducible refine step_code ?_ | with_reducible refine step_blk ?_ | with_reducible refine run_skip ?_ | with_reducible refine run_exit ?_ | with_reducible refine exits_code ?_ | with_reducible refine exits_here ?_ | with_reducible refine exits_blk rfl ?_ | with_reducible refine exits_lp ?_ | with_reducible refine run_ret ?_ | ((first | with_reducible refine run_region ?_ | with_reducible refine run_draw (by kernel_rfl) ?_); simp only [↓guardP_tt, ↓guardP_tf, ↓guardP_ft, ↓guardP_ff, guardP_t, guardP_f, evalQ, evalR, effQ, effR, skipS, opEff, evO, plainV, lkS, lkM, updL, putS, tie_sz, tie_zero, tie_zeroB, tie_fld, tie_ek, tie_int, tie_isb, tie_eq2, tie_f1, tie_ms,  ti_f1, ti_ms, ti_sz, ti_zero, ti_zeroB, ti_fld, ti_ek, ti_int, ti_isb, ti_eq2, binA, binI, intOp, funOf_v, cloOf_v, calIds, appEff, frE, foldB, foldS, castL_self, K.enc, K.dec, K.zero, K.es, K.bytes, AV.part, AV.setPart, AV.cells, AV.agg, AV.nth, Bool.false_eq_true, callEff, pubs, pub, nilAV, MM.upd, MM.set, argS, gdst, opIds, lids, AV.ids, List.getD_cons_succ, List.getD_cons_zero, List.map, List.tail, List.headD, List.nil_append, List.append_nil, List.cons_append, List.length_nil, List.length_cons, List.zip_cons_cons, List.zip_nil_right, List.set_cons_zero, List.set_cons_succ, List.replicate, Option.isSome_some, Option.map_some, Bool.not_true, Bool.not_false, forall_const, false_implies, Nat.reduceAdd, Nat.reduceEqDiff, Nat.reduceLT, Nat.reduceSub, Nat.reduceMul, Nat.reduceLeDiff, ↓reduceIte, and_true, true_and, and_self, false_and, and_false, reduceCtorEq, env10, ctOf, ctKAdd, ctLeast, kindsObj, find_add, fnv]) | (with_reducible refine run_cond (by with_unfolding_all exact rfl) ?_ ?_ <;> intro hc <;> (try simp only [vb, decide_eq_true_eq, decide_eq_false_iff_not, beq_iff_eq, beq_eq_false_iff_ne, bne_iff_ne, bne_eq_false_iff_eq, Bool.not_eq_true', Bool.not_eq_false', reduceCtorEq] at hc) <;> (try (first | simp (disch := omega) only [wrap64, wrapu64, wrapu32, sh32, fdiv32, Int.tdiv_eq_ediv_of_nonneg, Int.tmod_eq_emod_of_nonneg, tn_add, tn_add1, Int.toNat_natCast, Int.toNat_zero, List.drop_zero] at hc | simp only [wrapu64m, wrapu32m] at hc))) | ((with_reducible refine compat_ok ?_); kernel_rfl) | with_reducible apply And.intro | (first | simp (disch := omega) only [wrap64, wrapu64, wrapu32, sh32, fdiv32, Int.tdiv_eq_ediv_of_nonneg, Int.tmod_eq_emod_of_nonneg, tn_add, tn_add1, Int.toNat_natCast, Int.toNat_zero, List.drop_zero] | simp only [wrapu64m, wrapu32m]) | (with_reducible intro hg; (try simp only [vb, decide_eq_true_eq, decide_eq_false_iff_not, beq_iff_eq, beq_eq_false_iff_ne, bne_iff_ne, bne_eq_false_iff_eq, Bool.not_eq_true', Bool.not_eq_false', reduceCtorEq] at hg); (try (first | simp (disch := omega) only [wrap64, wrapu64, wrapu32, sh32, fdiv32, Int.tdiv_eq_ediv_of_nonneg, Int.tmod_eq_emod_of_nonneg, tn_add, tn_add1, Int.toNat_natCast, Int.toNat_zero, List.drop_zero] at hg | simp only [wrapu64m, wrapu32m] at hg))))
    all_goals try omega
    · exact Int.mul_pos (ofD_pos _) (ofD_pos _)
    · simp only [finR, resAs, resA, resLe, lsLe, lkS, lkM, pubs, pub, tie_sz, ti_sz, tie_ek, ti_ek,  nilAV, MM.upd, MM.set, AV.part, AV.cells, AV.agg, List.tail, List.headD, Nat.reduceAdd, Nat.reduceEqDiff, Nat.reduceLT, ↓reduceIte, and_true, true_and, and_self, reduceCtorEq]
      refine AVle_qq ?_ (by omega) (fun _ => rfl)
      rw [val1, val2, ← of_val n1 d1, ← of_val n2 d2]
      exact rat_add' (ofD_pos d1) (ofD_pos d2)
  · simp only [kOf_sub, Option.some.injEq, Prod.mk.injEq] at h
    obtain ⟨rfl, rfl⟩ := h
    show Run Tryz.prog ti env10 24 (finR ti [.cell 6 27] _) _ _ _
    refine run_seq (run_region ?_)
    simp only [↓guardP_tt, ↓guardP_tf, ↓guardP_ft, ↓guardP_ff, guardP_t, guardP_f, evalQ, evalR, effQ, effR, skipS, opEff, evO, plainV, lkS, lkM, updL, putS, tie_sz, tie_zero, tie_zeroB, tie_fld, tie_ek, tie_int, tie_isb, tie_eq2, tie_f1, tie_ms,  ti_f1, ti_ms, ti_sz, ti_zero, ti_zeroB, ti_fld, ti_ek, ti_int, ti_isb, ti_eq2, binA, binI, intOp, funOf_v, cloOf_v, calIds, appEff, frE, foldB, foldS, castL_self, K.enc, K.dec, K.zero, K.es, K.bytes, AV.part, AV.setPart, AV.cells, AV.agg, AV.nth, Bool.false_eq_true, callEff, pubs, pub, nilAV, MM.upd, MM.set, argS, gdst, opIds, lids, AV.ids, List.getD_cons_succ, List.getD_cons_zero, List.map, List.tail, List.headD, List.nil_append, List.append_nil, List.cons_append, List.length_nil, List.length_cons, List.zip_cons_cons, List.zip_nil_right, List.set_cons_zero, List.set_cons_succ, List.replicate, Option.isSome_some, Option.map_some, Bool.not_true, Bool.not_false, forall_const, false_implies, Nat.reduceAdd, Nat.reduceEqDiff, Nat.reduceLT, Nat.reduceSub, Nat.reduceMul, Nat.reduceLeDiff, ↓reduceIte, and_true, true_and, and_self, false_and, and_false, reduceCtorEq, env10]
    refine step_code (run_seq (run_kinds rfl ?_))
    simp only [↓guardP_tt, ↓guardP_tf, ↓guardP_ft, ↓guardP_ff, guardP_t, guardP_f, evalQ, evalR, effQ, effR, skipS, opEff, evO, plainV, lkS, lkM, updL, putS, tie_sz, tie_zero, tie_zeroB, tie_fld, tie_ek, tie_int, tie_isb, tie_eq2, tie_f1, tie_ms,  ti_f1, ti_ms, ti_sz, ti_zero, ti_zeroB, ti_fld, ti_ek, ti_int, ti_isb, ti_eq2, binA, binI, intOp, funOf_v, cloOf_v, calIds, appEff, frE, foldB, foldS, castL_self, K.enc, K.dec, K.zero, K.es, K.bytes, AV.part, AV.setPart, AV.cells, AV.agg, AV.nth, Bool.false_eq_true, callEff, pubs, pub, nilAV, MM.upd, MM.set, argS, gdst, opIds, lids, AV.ids, List.getD_cons_succ, List.getD_cons_zero, List.map, List.tail, List.headD, List.nil_append, List.append_nil, List.cons_append, List.length_nil, List.length_cons, List.zip_cons_cons, List.zip_nil_right, List.set_cons_zero, List.set_cons_succ, List.replicate, Option.isSome_some, Option.map_some, Bool.not_true, Bool.not_false, forall_const, false_implies, Nat.reduceAdd, Nat.reduceEqDiff, Nat.reduceLT, Nat.reduceSub, Nat.reduceMul, Nat.reduceLeDiff, ↓reduceIte, and_true, true_and, and_self, false_and, and_false, reduceCtorEq, env10]
    repeat' (first | with_reducible refine run_seq ?_ | with_reducible refine run_block ?_ | with_reducible refine step_code ?_ | with_reducible refine step_blk ?_ | with_reducible refine run_skip ?_ | with_reducible refine run_exit ?_ | with_reducible refine exits_code ?_ | with_reducible refine exits_here ?_ | with_reducible refine exits_blk rfl ?_ | with_reducible refine exits_lp ?_ | with_reducible refine run_ret ?_ | ((first | with_reducible refine run_region ?_ | with_reducible refine run_draw (by kernel_rfl) ?_); simp only [↓guardP_tt, ↓guardP_tf, ↓guardP_ft, ↓guardP_ff, guardP_t, guardP_f, evalQ, evalR, effQ, effR, skipS, opEff, evO, plainV, lkS, lkM, updL, putS, tie_sz, tie_zero, tie_zeroB, tie_fld, tie_ek, tie_int, tie_isb, tie_eq2, tie_f1, tie_ms,  ti_f1, ti_ms, ti_sz, ti_zero, ti_zeroB, ti_fld, ti_ek, ti_int, ti_isb, ti_eq2, binA, binI, intOp, funOf_v, cloOf_v, calIds, appEff, frE, foldB, foldS, castL_self, K.enc, K.dec, K.zero, K.es, K.bytes, AV.part, AV.setPart, AV.cells, AV.agg, AV.nth, Bool.false_eq_true, callEff, pubs, pub, nilAV, MM.upd, MM.set, argS, gdst, opIds, lids, AV.ids, List.getD_cons_succ, List.getD_cons_zero, List.map, List.tail, List.headD, List.nil_append, List.append_nil, List.cons_append, List.length_nil, List.length_cons, List.zip_cons_cons, List.zip_nil_right, List.set_cons_zero, List.set_cons_succ, List.replicate, Option.isSome_some, Option.map_some, Bool.not_true, Bool.not_false, forall_const, false_implies, Nat.reduceAdd, Nat.reduceEqDiff, Nat.reduceLT, Nat.reduceSub, Nat.reduceMul, Nat.reduceLeDiff, ↓reduceIte, and_true, true_and, and_self, false_and, and_false, reduceCtorEq, env10, ctOf, ctKSub, ctLeast, kindsObj, find_sub, fnv]) | (with_reducible refine run_cond (by with_unfolding_all exact rfl) ?_ ?_ <;> intro hc <;> (try simp only [vb, decide_eq_true_eq, decide_eq_false_iff_not, beq_iff_eq, beq_eq_false_iff_ne, bne_iff_ne, bne_eq_false_iff_eq, Bool.not_eq_true', Bool.not_eq_false', reduceCtorEq] at hc) <;> (try (first | simp (disch := omega) only [wrap64, wrapu64, wrapu32, sh32, fdiv32, Int.tdiv_eq_ediv_of_nonneg, Int.tmod_eq_emod_of_nonneg, tn_add, tn_add1, Int.toNat_natCast, Int.toNat_zero, List.drop_zero] at hc | simp only [wrapu64m, wrapu32m] at hc))) | ((with_reducible refine compat_ok ?_); kernel_rfl) | with_reducible apply And.intro | (first | simp (disch := omega) only [wrap64, wrapu64, wrapu32, sh32, fdiv32, Int.tdiv_eq_ediv_of_nonneg, Int.tmod_eq_emod_of_nonneg, tn_add, tn_add1, Int.toNat_natCast, Int.toNat_zero, List.drop_zero] | simp only [wrapu64m, wrapu32m]) | (with_reducible intro hg; (try simp only [vb, decide_eq_true_eq, decide_eq_false_iff_not, beq_iff_eq, beq_eq_false_iff_ne, bne_iff_ne, bne_eq_false_iff_eq, Bool.not_eq_true', Bool.not_eq_false', reduceCtorEq] at hg); (try (first | simp (disch := omega) only [wrap64, wrapu64, wrapu32, sh32, fdiv32, Int.tdiv_eq_ediv_of_nonneg, Int.tmod_eq_emod_of_nonneg, tn_add, tn_add1, Int.toNat_natCast, Int.toNat_zero, List.drop_zero] at hg | simp only [wrapu64m, wrapu32m] at hg))))
    all_goals try omega
    · exact Int.mul_pos (ofD_pos _) (ofD_pos _)
    · simp only [finR, resAs, resA, resLe, lsLe, lkS, lkM, pubs, pub, tie_sz, ti_sz, tie_ek, ti_ek,  nilAV, MM.upd, MM.set, AV.part, AV.cells, AV.agg, List.tail, List.headD, Nat.reduceAdd, Nat.reduceEqDiff, Nat.reduceLT, ↓reduceIte, and_true, true_and, and_self, reduceCtorEq]
      refine AVle_qq ?_ (by omega) (fun _ => rfl)
      rw [val1, val2, ← of_val n1 d1, ← of_val n2 d2]
      exact rat_sub' (ofD_pos d1) (ofD_pos d2)
  · simp only [kOf_mul, Option.some.injEq, Prod.mk.injEq] at h
    obtain ⟨rfl, rfl⟩ := h
    show Run Tryz.prog ti env10 24 (finR ti [.cell 6 27] _) _ _ _
    refine run_seq (run_region ?_)
    simp only [↓guardP_tt, ↓guardP_tf, ↓guardP_ft, ↓guardP_ff, guardP_t, guardP_f, evalQ, evalR, effQ, effR, skipS, opEff, evO, plainV, lkS, lkM, updL, putS, tie_sz, tie_zero, tie_zeroB, tie_fld, tie_ek, tie_int, tie_isb, tie_eq2, tie_f1, tie_ms,  ti_f1, ti_ms, ti_sz, ti_zero, ti_zeroB, ti_fld, ti_ek, ti_int, ti_isb, ti_eq2, binA, binI, intOp, funOf_v, cloOf_v, calIds, appEff, frE, foldB, foldS, castL_self, K.enc, K.dec, K.zero, K.es, K.bytes, AV.part, AV.setPart, AV.cells, AV.agg, AV.nth, Bool.false_eq_true, callEff, pubs, pub, nilAV, MM.upd, MM.set, argS, gdst, opIds, lids, AV.ids, List.getD_cons_succ, List.getD_cons_zero, List.map, List.tail, List.headD, List.nil_append, List.append_nil, List.cons_append, List.length_nil, List.length_cons, List.zip_cons_cons, List.zip_nil_right, List.set_cons_zero, List.set_cons_succ, List.replicate, Option.isSome_some, Option.map_some, Bool.not_true, Bool.not_false, forall_const, false_implies, Nat.reduceAdd, Nat.reduceEqDiff, Nat.reduceLT, Nat.reduceSub, Nat.reduceMul, Nat.reduceLeDiff, ↓reduceIte, and_true, true_and, and_self, false_and, and_false, reduceCtorEq, env10]
    refine step_code (run_seq (run_kinds rfl ?_))
    simp only [↓guardP_tt, ↓guardP_tf, ↓guardP_ft, ↓guardP_ff, guardP_t, guardP_f, evalQ, evalR, effQ, effR, skipS, opEff, evO, plainV, lkS, lkM, updL, putS, tie_sz, tie_zero, tie_zeroB, tie_fld, tie_ek, tie_int, tie_isb, tie_eq2, tie_f1, tie_ms,  ti_f1, ti_ms, ti_sz, ti_zero, ti_zeroB, ti_fld, ti_ek, ti_int, ti_isb, ti_eq2, binA, binI, intOp, funOf_v, cloOf_v, calIds, appEff, frE, foldB, foldS, castL_self, K.enc, K.dec, K.zero, K.es, K.bytes, AV.part, AV.setPart, AV.cells, AV.agg, AV.nth, Bool.false_eq_true, callEff, pubs, pub, nilAV, MM.upd, MM.set, argS, gdst, opIds, lids, AV.ids, List.getD_cons_succ, List.getD_cons_zero, List.map, List.tail, List.headD, List.nil_append, List.append_nil, List.cons_append, List.length_nil, List.length_cons, List.zip_cons_cons, List.zip_nil_right, List.set_cons_zero, List.set_cons_succ, List.replicate, Option.isSome_some, Option.map_some, Bool.not_true, Bool.not_false, forall_const, false_implies, Nat.reduceAdd, Nat.reduceEqDiff, Nat.reduceLT, Nat.reduceSub, Nat.reduceMul, Nat.reduceLeDiff, ↓reduceIte, and_true, true_and, and_self, false_and, and_false, reduceCtorEq, env10]
    repeat' (first | with_reducible refine run_seq ?_ | with_reducible refine run_block ?_ | with_reducible refine step_code ?_ | with_reducible refine step_blk ?_ | with_reducible refine run_skip ?_ | with_reducible refine run_exit ?_ | with_reducible refine exits_code ?_ | with_reducible refine exits_here ?_ | with_reducible refine exits_blk rfl ?_ | with_reducible refine exits_lp ?_ | with_reducible refine run_ret ?_ | ((first | with_reducible refine run_region ?_ | with_reducible refine run_draw (by kernel_rfl) ?_); simp only [↓guardP_tt, ↓guardP_tf, ↓guardP_ft, ↓guardP_ff, guardP_t, guardP_f, evalQ, evalR, effQ, effR, skipS, opEff, evO, plainV, lkS, lkM, updL, putS, tie_sz, tie_zero, tie_zeroB, tie_fld, tie_ek, tie_int, tie_isb, tie_eq2, tie_f1, tie_ms,  ti_f1, ti_ms, ti_sz, ti_zero, ti_zeroB, ti_fld, ti_ek, ti_int, ti_isb, ti_eq2, binA, binI, intOp, funOf_v, cloOf_v, calIds, appEff, frE, foldB, foldS, castL_self, K.enc, K.dec, K.zero, K.es, K.bytes, AV.part, AV.setPart, AV.cells, AV.agg, AV.nth, Bool.false_eq_true, callEff, pubs, pub, nilAV, MM.upd, MM.set, argS, gdst, opIds, lids, AV.ids, List.getD_cons_succ, List.getD_cons_zero, List.map, List.tail, List.headD, List.nil_append, List.append_nil, List.cons_append, List.length_nil, List.length_cons, List.zip_cons_cons, List.zip_nil_right, List.set_cons_zero, List.set_cons_succ, List.replicate, Option.isSome_some, Option.map_some, Bool.not_true, Bool.not_false, forall_const, false_implies, Nat.reduceAdd, Nat.reduceEqDiff, Nat.reduceLT, Nat.reduceSub, Nat.reduceMul, Nat.reduceLeDiff, ↓reduceIte, and_true, true_and, and_self, false_and, and_false, reduceCtorEq, env10, ctOf, ctKMul, ctLeast, kindsObj, find_mul, fnv]) | (with_reducible refine run_cond (by with_unfolding_all exact rfl) ?_ ?_ <;> intro hc <;> (try simp only [vb, decide_eq_true_eq, decide_eq_false_iff_not, beq_iff_eq, beq_eq_false_iff_ne, bne_iff_ne, bne_eq_false_iff_eq, Bool.not_eq_true', Bool.not_eq_false', reduceCtorEq] at hc) <;> (try (first | simp (disch := omega) only [wrap64, wrapu64, wrapu32, sh32, fdiv32, Int.tdiv_eq_ediv_of_nonneg, Int.tmod_eq_emod_of_nonneg, tn_add, tn_add1, Int.toNat_natCast, Int.toNat_zero, List.drop_zero] at hc | simp only [wrapu64m, wrapu32m] at hc))) | ((with_reducible refine compat_ok ?_); kernel_rfl) | with_reducible apply And.intro | (first | simp (disch := omega) only [wrap64, wrapu64, wrapu32, sh32, fdiv32, Int.tdiv_eq_ediv_of_nonneg, Int.tmod_eq_emod_of_nonneg, tn_add, tn_add1, Int.toNat_natCast, Int.toNat_zero, List.drop_zero] | simp only [wrapu64m, wrapu32m]) | (with_reducible intro hg; (try simp only [vb, decide_eq_true_eq, decide_eq_false_iff_not, beq_iff_eq, beq_eq_false_iff_ne, bne_iff_ne, bne_eq_false_iff_eq, Bool.not_eq_true', Bool.not_eq_false', reduceCtorEq] at hg); (try (first | simp (disch := omega) only [wrap64, wrapu64, wrapu32, sh32, fdiv32, Int.tdiv_eq_ediv_of_nonneg, Int.tmod_eq_emod_of_nonneg, tn_add, tn_add1, Int.toNat_natCast, Int.toNat_zero, List.drop_zero] at hg | simp only [wrapu64m, wrapu32m] at hg))))
    all_goals try omega
    · exact Int.mul_pos (ofD_pos _) (ofD_pos _)
    · simp only [finR, resAs, resA, resLe, lsLe, lkS, lkM, pubs, pub, tie_sz, ti_sz, tie_ek, ti_ek,  nilAV, MM.upd, MM.set, AV.part, AV.cells, AV.agg, List.tail, List.headD, Nat.reduceAdd, Nat.reduceEqDiff, Nat.reduceLT, ↓reduceIte, and_true, true_and, and_self, reduceCtorEq]
      refine AVle_qq ?_ (by omega) (fun _ => rfl)
      rw [val1, val2, ← of_val n1 d1, ← of_val n2 d2]
      exact rat_mul' (ofD_pos d1) (ofD_pos d2)
  · simp only [kOf_div, Option.some.injEq, Prod.mk.injEq] at h
    obtain ⟨rfl, rfl⟩ := h
    show Run Tryz.prog ti env10 24 (finR ti [.cell 6 27] _) _ _ _
    refine run_seq (run_region ?_)
    simp only [↓guardP_tt, ↓guardP_tf, ↓guardP_ft, ↓guardP_ff, guardP_t, guardP_f, evalQ, evalR, effQ, effR, skipS, opEff, evO, plainV, lkS, lkM, updL, putS, tie_sz, tie_zero, tie_zeroB, tie_fld, tie_ek, tie_int, tie_isb, tie_eq2, tie_f1, tie_ms,  ti_f1, ti_ms, ti_sz, ti_zero, ti_zeroB, ti_fld, ti_ek, ti_int, ti_isb, ti_eq2, binA, binI, intOp, funOf_v, cloOf_v, calIds, appEff, frE, foldB, foldS, castL_self, K.enc, K.dec, K.zero, K.es, K.bytes, AV.part, AV.setPart, AV.cells, AV.agg, AV.nth, Bool.false_eq_true, callEff, pubs, pub, nilAV, MM.upd, MM.set, argS, gdst, opIds, lids, AV.ids, List.getD_cons_succ, List.getD_cons_zero, List.map, List.tail, List.headD, List.nil_append, List.append_nil, List.cons_append, List.length_nil, List.length_cons, List.zip_cons_cons, List.zip_nil_right, List.set_cons_zero, List.set_cons_succ, List.replicate, Option.isSome_some, Option.map_some, Bool.not_true, Bool.not_false, forall_const, false_implies, Nat.reduceAdd, Nat.reduceEqDiff, Nat.reduceLT, Nat.reduceSub, Nat.reduceMul, Nat.reduceLeDiff, ↓reduceIte, and_true, true_and, and_self, false_and, and_false, reduceCtorEq, env10]
    refine step_code (run_seq (run_kinds rfl ?_))
    simp only [↓guardP_tt, ↓guardP_tf, ↓guardP_ft, ↓guardP_ff, guardP_t, guardP_f, evalQ, evalR, effQ, effR, skipS, opEff, evO, plainV, lkS, lkM, updL, putS, tie_sz, tie_zero, tie_zeroB, tie_fld, tie_ek, tie_int, tie_isb, tie_eq2, tie_f1, tie_ms,  ti_f1, ti_ms, ti_sz, ti_zero, ti_zeroB, ti_fld, ti_ek, ti_int, ti_isb, ti_eq2, binA, binI, intOp, funOf_v, cloOf_v, calIds, appEff, frE, foldB, foldS, castL_self, K.enc, K.dec, K.zero, K.es, K.bytes, AV.part, AV.setPart, AV.cells, AV.agg, AV.nth, Bool.false_eq_true, callEff, pubs, pub, nilAV, MM.upd, MM.set, argS, gdst, opIds, lids, AV.ids, List.getD_cons_succ, List.getD_cons_zero, List.map, List.tail, List.headD, List.nil_append, List.append_nil, List.cons_append, List.length_nil, List.length_cons, List.zip_cons_cons, List.zip_nil_right, List.set_cons_zero, List.set_cons_succ, List.replicate, Option.isSome_some, Option.map_some, Bool.not_true, Bool.not_false, forall_const, false_implies, Nat.reduceAdd, Nat.reduceEqDiff, Nat.reduceLT, Nat.reduceSub, Nat.reduceMul, Nat.reduceLeDiff, ↓reduceIte, and_true, true_and, and_self, false_and, and_false, reduceCtorEq, env10]
    repeat' (first | with_reducible refine run_seq ?_ | with_reducible refine run_block ?_ | with_reducible refine step_code ?_ | with_reducible refine step_blk ?_ | with_reducible refine run_skip ?_ | with_reducible refine run_exit ?_ | with_reducible refine exits_code ?_ | with_reducible refine exits_here ?_ | with_reducible refine exits_blk rfl ?_ | with_reducible refine exits_lp ?_ | with_reducible refine run_ret ?_ | ((first | with_reducible refine run_region ?_ | with_reducible refine run_draw (by kernel_rfl) ?_); simp only [↓guardP_tt, ↓guardP_tf, ↓guardP_ft, ↓guardP_ff, guardP_t, guardP_f, evalQ, evalR, effQ, effR, skipS, opEff, evO, plainV, lkS, lkM, updL, putS, tie_sz, tie_zero, tie_zeroB, tie_fld, tie_ek, tie_int, tie_isb, tie_eq2, tie_f1, tie_ms,  ti_f1, ti_ms, ti_sz, ti_zero, ti_zeroB, ti_fld, ti_ek, ti_int, ti_isb, ti_eq2, binA, binI, intOp, funOf_v, cloOf_v, calIds, appEff, frE, foldB, foldS, castL_self, K.enc, K.dec, K.zero, K.es, K.bytes, AV.part, AV.setPart, AV.cells, AV.agg, AV.nth, Bool.false_eq_true, callEff, pubs, pub, nilAV, MM.upd, MM.set, argS, gdst, opIds, lids, AV.ids, List.getD_cons_succ, List.getD_cons_zero, List.map, List.tail, List.headD, List.nil_append, List.append_nil, List.cons_append, List.length_nil, List.length_cons, List.zip_cons_cons, List.zip_nil_right, List.set_cons_zero, List.set_cons_succ, List.replicate, Option.isSome_some, Option.map_some, Bool.not_true, Bool.not_false, forall_const, false_implies, Nat.reduceAdd, Nat.reduceEqDiff, Nat.reduceLT, Nat.reduceSub, Nat.reduceMul, Nat.reduceLeDiff, ↓reduceIte, and_true, true_and, and_self, false_and, and_false, reduceCtorEq, env10, ctOf, ctKDiv, ctLeast, kindsObj, find_div, fnv]) | (with_reducible refine run_cond (by with_unfolding_all exact rfl) ?_ ?_ <;> intro hc <;> (try simp only [vb, decide_eq_true_eq, decide_eq_false_iff_not, beq_iff_eq, beq_eq_false_iff_ne, bne_iff_ne, bne_eq_false_iff_eq, Bool.not_eq_true', Bool.not_eq_false', reduceCtorEq] at hc) <;> (try (first | simp (disch := omega) only [wrap64, wrapu64, wrapu32, sh32, fdiv32, Int.tdiv_eq_ediv_of_nonneg, Int.tmod_eq_emod_of_nonneg, tn_add, tn_add1, Int.toNat_natCast, Int.toNat_zero, List.drop_zero] at hc | simp only [wrapu64m, wrapu32m] at hc))) | ((with_reducible refine compat_ok ?_); kernel_rfl) | with_reducible apply And.intro | (first | simp (disch := omega) only [wrap64, wrapu64, wrapu32, sh32, fdiv32, Int.tdiv_eq_ediv_of_nonneg, Int.tmod_eq_emod_of_nonneg, tn_add, tn_add1, Int.toNat_natCast, Int.toNat_zero, List.drop_zero] | simp only [wrapu64m, wrapu32m]) | (with_reducible intro hg; (try simp only [vb, decide_eq_true_eq, decide_eq_false_iff_not, beq_iff_eq, beq_eq_false_iff_ne, bne_iff_ne, bne_eq_false_iff_eq, Bool.not_eq_true', Bool.not_eq_false', reduceCtorEq] at hg); (try (first | simp (disch := omega) only [wrap64, wrapu64, wrapu32, sh32, fdiv32, Int.tdiv_eq_ediv_of_nonneg, Int.tmod_eq_emod_of_nonneg, tn_add, tn_add1, Int.toNat_natCast, Int.toNat_zero, List.drop_zero] at hg | simp only [wrapu64m, wrapu32m] at hg))))
    all_goals try omega
    · exact ofD_pos _
    · simp only [finR, resAs, resA, resLe, lsLe, lkS, lkM, pubs, pub, tie_sz, ti_sz, tie_ek, ti_ek,  nilAV, MM.upd, MM.set, AV.part, AV.cells, AV.agg, List.tail, List.headD, Nat.reduceAdd, Nat.reduceEqDiff, Nat.reduceLT, ↓reduceIte, and_true, true_and, and_self, reduceCtorEq]
      refine AVle_qq ?_ (by omega) (fun _ => rfl)
      rw [of_val, val1, val2, ← of_val n1 d1, ← of_val n2 d2]
      refine rat_div' (ofD_pos d1) (ofD_pos d2) ?_
      intro h0
      apply hp.2.2
      rw [val2, ← of_val, h0]
      grind
end Go.AE
