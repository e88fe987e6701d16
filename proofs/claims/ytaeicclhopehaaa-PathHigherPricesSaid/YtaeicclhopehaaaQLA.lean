/- The law PathHigherPrices, as a contract: it returns true. -/
import Derived.Test.YtaeicclhopehaaaQL8
namespace Go.AE
open Go.Proofs Go.RowKit
set_option linter.unusedVariables false
set_option linter.unusedSimpArgs false
set_option maxRecDepth 20000

def absR (x : Rat) : Rat := if x < 0 then -x else x
theorem absR_nonneg (x : Rat) : 0 ≤ absR x := by unfold absR; split <;> grind
abbrev zq : QV := ⟨0, true, 0⟩
/-- The prices, raised. -/
def upE (l hi : List QV) (i : Nat) : QV := if i < hi.length then ⟨(l.getD i zq).x + absR (hi.getD i zq).x, true, 32⟩ else ⟨(l.getD i zq).x, false, 6⟩
def upL (l hi : List QV) (n : Nat) : List QV := (List.range n).map (upE l hi)
theorem upL_succ (l hi : List QV) (n : Nat) : upL l hi (n + 1) = upL l hi n ++ [upE l hi n] := by simp [upL, List.range_succ]
theorem upL_length (l hi : List QV) (n : Nat) : (upL l hi n).length = n := by simp [upL]
theorem upE_ge (l hi : List QV) (i : Nat) : (l.getD i zq).x ≤ (upE l hi i).x := by
  unfold upE
  have := absR_nonneg (hi.getD i zq).x
  split
  · simp only; grind
  · exact Rat.le_refl
theorem leL_of : ∀ {r s : List Rat}, r.length = s.length → (∀ i, i < r.length → r.getD i 0 ≤ s.getD i 0) → leL r s
  | [], [], _, _ => trivial
  | [], b :: s, h, _ => by simp at h
  | a :: r, [], h, _ => by simp at h
  | a :: r, b :: s, h, g => ⟨by simpa using g 0 (by simp), leL_of (by simpa using h) (fun i hi => by simpa using g (i + 1) (by simpa using hi))⟩
theorem best_up {u : U} {l hi : List QV} : bestP u l ≤ bestP u (upL l hi l.length) := by
  by_cases hw : wrongP u l.length = 0
  · obtain ⟨hm, _⟩ := wrong_may hw
    refine best_mono (fun _ _ => rfl) rfl (Int.le_refl _) ?_ hw (by rw [upL_length]; exact hw)
    refine leL_of (by simp [hrs, upL_length]) (fun i hi2 => ?_)
    have hi3 : i < l.length := by simpa [hrs] using hi2
    have e1 : (hrs u l).getD i 0 = hourP u (l.getD i zq).x := by simp [hrs, List.getD_eq_getElem?_getD, List.getElem?_eq_getElem hi3]
    have e2 : (hrs u (upL l hi l.length)).getD i 0 = hourP u (upE l hi i).x := by simp [hrs, upL, List.getD_eq_getElem?_getD, hi3]
    rw [e1, e2]
    exact hour_mono hm (upE_ge l hi i)
  · rw [bestP, if_neg hw, bestP, if_neg (by rw [upL_length]; exact hw)]
    exact Rat.le_refl
theorem hour_up {u : U} {p q : Rat} (h : p ≤ q) : hourP' u p ≤ hourP' u q := by
  unfold hourP'
  split
  · exact hour_mono (by assumption) h
  · exact Rat.le_refl
def env83 : Env := fun g => match g with | 36 => some ctLong27u | 23 => some ctLong23u | 37 => some ctAwake | 38 => some ctBest | 46 => some ctAbsQ | 33 => some ctAddQ | 47 => some ctHour | 24 => some ctCmpQ | _ => none
theorem env83_ok : EnvOk Try.prog env83 := by
  intro g ct h
  simp only [env83] at h
  split at h <;> first | (cases h; exact ok36u) | (cases h; exact ok23u) | (cases h; exact ok37) | (cases h; exact ok38) | (cases h; exact ok46) | (cases h; exact ok33) | (cases h; exact ok47) | (cases h; exact ok24) | cases h
def ctUqq2 : Ct := fun l => match l with
  | [a, .lst .qx l, .lst .qx hi] => match uOf a with
    | some u => some (hi.length ≤ 9223372036854775807, vb true)
    | none => none
  | _ => none
set_option maxHeartbeats 4000000 in
theorem ok9 : Sound Try.prog 9 ctUqq2 := by
  refine sound_of (fn := Try.f9) rfl rfl rfl tiOk env83_ok mix ?_ (by intro l p r h; unfold ctUqq2 at h; split at h <;> first | cases h | (split at h <;> cases h; exact Nat.le_of_ble_eq_true rfl))
  intro l p r h hp F vs hv
  unfold ctUqq2 at h
  split at h
  rotate_left
  · cases h
  split at h <;> cases h
  rename_i az l hi0 _ u hu
  obtain rfl := uOf_eq hu
  have heta : (⟨u.bus, u.min, u.steps, u.up, u.down, u.start, u.idle, u.spin, u.on⟩ : U) = u := rfl
  cases hlg : long27 u l []
  rotate_left
  · refine ⟨_, hv, ?_⟩
    show Run Try.prog ti env83 113 (finR ti [.tmp 6] _) _ _ _
    repeat' (first | with_reducible refine run_seq ?_ | with_reducible refine run_block ?_ | with_reducible refine step_code ?_ | with_reducible refine step_blk ?_ | with_reducible refine run_skip ?_ | with_reducible refine run_exit ?_ | with_reducible refine exits_code ?_ | with_reducible refine exits_here ?_ | with_reducible refine exits_blk rfl ?_ | with_reducible refine exits_lp ?_ | with_reducible refine run_ret ?_ | ((first | with_reducible refine run_region ?_ | with_reducible refine run_draw (by kernel_rfl) ?_); simp only [↓guardP_tt, ↓guardP_tf, ↓guardP_ft, ↓guardP_ff, guardP_t, guardP_f, evalQ, evalR, effQ, effR, skipS, opEff, evO, plainV, lkS, lkM, updL, putS, tie_sz, tie_zero, tie_zeroB, tie_fld, tie_ek, tie_int, tie_isb, tie_eq2, tie_f1, tie_ms, tie2_sz, tie2_zero, tie2_zeroB, tie2_fld, tie2_ek, tie2_int, tie2_isb, tie2_eq2, tie2_f1, tie2_ms, ti_ek2, ti_f1, ti_ms, ti_sz, ti_zero, ti_zeroB, ti_fld, ti_ek, ti_int, ti_isb, ti_eq2, binA, binI, intOp, appEff, frE, foldB, foldS, castL_self, K.enc, K.dec, K.zero, K.es, K.bytes, AV.part, AV.setPart, AV.cells, AV.agg, AV.nth, Bool.false_eq_true, callEff, pubs, pub, nilAV, MM.upd, MM.set, argS, gdst, opIds, lids, AV.ids, List.getD_cons_succ, List.getD_cons_zero, List.map, List.tail, List.headD, List.nil_append, List.append_nil, List.cons_append, List.length_nil, List.length_cons, List.zip_cons_cons, List.zip_nil_right, List.set_cons_zero, List.set_cons_succ, List.replicate, Option.isSome_some, Option.map_some, Bool.not_true, Bool.not_false, forall_const, false_implies, Nat.reduceAdd, Nat.reduceEqDiff, Nat.reduceLT, Nat.reduceSub, Nat.reduceMul, Nat.reduceLeDiff, ↓reduceIte, and_true, true_and, and_self, false_and, and_false, reduceCtorEq, env83, ctLong27u, ctAwake, uOf, heta, hlg]) | (with_reducible refine run_cond (by with_unfolding_all exact rfl) ?_ ?_ <;> intro hc <;> (try simp only [vb, decide_eq_true_eq, decide_eq_false_iff_not, beq_iff_eq, beq_eq_false_iff_ne, bne_iff_ne, bne_eq_false_iff_eq, Bool.not_eq_true', Bool.not_eq_false', reduceCtorEq] at hc) <;> (try (first | simp (disch := omega) only [wrap64, wrapu64, wrapu32, sh32, fdiv32, Int.tdiv_eq_ediv_of_nonneg, Int.tmod_eq_emod_of_nonneg, tn_add, tn_add1, Int.toNat_natCast, Int.toNat_zero, List.drop_zero] at hc | simp only [wrapu64m, wrapu32m] at hc))) | ((with_reducible refine compat_ok ?_); kernel_rfl) | with_reducible apply And.intro | (first | simp (disch := omega) only [wrap64, wrapu64, wrapu32, sh32, fdiv32, Int.tdiv_eq_ediv_of_nonneg, Int.tmod_eq_emod_of_nonneg, tn_add, tn_add1, Int.toNat_natCast, Int.toNat_zero, List.drop_zero] | simp only [wrapu64m, wrapu32m]) | (with_reducible intro hg; (try simp only [vb, decide_eq_true_eq, decide_eq_false_iff_not, beq_iff_eq, beq_eq_false_iff_ne, bne_iff_ne, bne_eq_false_iff_eq, Bool.not_eq_true', Bool.not_eq_false', reduceCtorEq] at hg); (try (first | simp (disch := omega) only [wrap64, wrapu64, wrapu32, sh32, fdiv32, Int.tdiv_eq_ediv_of_nonneg, Int.tmod_eq_emod_of_nonneg, tn_add, tn_add1, Int.toNat_natCast, Int.toNat_zero, List.drop_zero] at hg | simp only [wrapu64m, wrapu32m] at hg))))
    all_goals try omega
    simp only [finR, resAs, resA, resLe, lsLe, lkS, lkM, pubs, pub, tie_sz, ti_sz, tie_ek, ti_ek, tie2_sz, tie2_ek, ti_ek2, nilAV, MM.upd, MM.set, AV.part, AV.cells, AV.agg, List.tail, List.headD, Nat.reduceAdd, Nat.reduceEqDiff, Nat.reduceLT, ↓reduceIte, and_true, true_and, and_self, reduceCtorEq]
    exact AVle.rfl
  obtain ⟨g1, g2, g3, g4⟩ := long27_false hlg
  obtain ⟨v0, r0, rfl, a0, v1, r1, rfl, a1, v2, r2, rfl, a2, hv⟩ := hv
  cases hlg2 : hi0.any longB
  rotate_left
  · refine ⟨[_, _, _], ⟨_, _, rfl, a0, _, _, rfl, a1, _, _, rfl, a2, hv⟩, ?_⟩
    show Run Try.prog ti env83 113 (finR ti [.tmp 6] _) _ _ _
    repeat' (first | with_reducible refine run_seq ?_ | with_reducible refine run_block ?_ | with_reducible refine step_code ?_ | with_reducible refine step_blk ?_ | with_reducible refine run_skip ?_ | with_reducible refine run_exit ?_ | with_reducible refine exits_code ?_ | with_reducible refine exits_here ?_ | with_reducible refine exits_blk rfl ?_ | with_reducible refine exits_lp ?_ | with_reducible refine run_ret ?_ | ((first | with_reducible refine run_region ?_ | with_reducible refine run_draw (by kernel_rfl) ?_); simp only [↓guardP_tt, ↓guardP_tf, ↓guardP_ft, ↓guardP_ff, guardP_t, guardP_f, evalQ, evalR, effQ, effR, skipS, opEff, evO, plainV, lkS, lkM, updL, putS, tie_sz, tie_zero, tie_zeroB, tie_fld, tie_ek, tie_int, tie_isb, tie_eq2, tie_f1, tie_ms, tie2_sz, tie2_zero, tie2_zeroB, tie2_fld, tie2_ek, tie2_int, tie2_isb, tie2_eq2, tie2_f1, tie2_ms, ti_ek2, ti_f1, ti_ms, ti_sz, ti_zero, ti_zeroB, ti_fld, ti_ek, ti_int, ti_isb, ti_eq2, binA, binI, intOp, appEff, frE, foldB, foldS, castL_self, K.enc, K.dec, K.zero, K.es, K.bytes, AV.part, AV.setPart, AV.cells, AV.agg, AV.nth, Bool.false_eq_true, callEff, pubs, pub, nilAV, MM.upd, MM.set, argS, gdst, opIds, lids, AV.ids, List.getD_cons_succ, List.getD_cons_zero, List.map, List.tail, List.headD, List.nil_append, List.append_nil, List.cons_append, List.length_nil, List.length_cons, List.zip_cons_cons, List.zip_nil_right, List.set_cons_zero, List.set_cons_succ, List.replicate, Option.isSome_some, Option.map_some, Bool.not_true, Bool.not_false, forall_const, false_implies, Nat.reduceAdd, Nat.reduceEqDiff, Nat.reduceLT, Nat.reduceSub, Nat.reduceMul, Nat.reduceLeDiff, ↓reduceIte, and_true, true_and, and_self, false_and, and_false, reduceCtorEq, env83, ctLong27u, ctLong23u, ctAwake, uOf, heta, hlg, hlg2]) | (with_reducible refine run_cond (by with_unfolding_all exact rfl) ?_ ?_ <;> intro hc <;> (try simp only [vb, decide_eq_true_eq, decide_eq_false_iff_not, beq_iff_eq, beq_eq_false_iff_ne, bne_iff_ne, bne_eq_false_iff_eq, Bool.not_eq_true', Bool.not_eq_false', reduceCtorEq] at hc) <;> (try (first | simp (disch := omega) only [wrap64, wrapu64, wrapu32, sh32, fdiv32, Int.tdiv_eq_ediv_of_nonneg, Int.tmod_eq_emod_of_nonneg, tn_add, tn_add1, Int.toNat_natCast, Int.toNat_zero, List.drop_zero] at hc | simp only [wrapu64m, wrapu32m] at hc))) | ((with_reducible refine compat_ok ?_); kernel_rfl) | with_reducible apply And.intro | (first | simp (disch := omega) only [wrap64, wrapu64, wrapu32, sh32, fdiv32, Int.tdiv_eq_ediv_of_nonneg, Int.tmod_eq_emod_of_nonneg, tn_add, tn_add1, Int.toNat_natCast, Int.toNat_zero, List.drop_zero] | simp only [wrapu64m, wrapu32m]) | (with_reducible intro hg; (try simp only [vb, decide_eq_true_eq, decide_eq_false_iff_not, beq_iff_eq, beq_eq_false_iff_ne, bne_iff_ne, bne_eq_false_iff_eq, Bool.not_eq_true', Bool.not_eq_false', reduceCtorEq] at hg); (try (first | simp (disch := omega) only [wrap64, wrapu64, wrapu32, sh32, fdiv32, Int.tdiv_eq_ediv_of_nonneg, Int.tmod_eq_emod_of_nonneg, tn_add, tn_add1, Int.toNat_natCast, Int.toNat_zero, List.drop_zero] at hg | simp only [wrapu64m, wrapu32m] at hg))))
    all_goals try omega
    simp only [finR, resAs, resA, resLe, lsLe, lkS, lkM, pubs, pub, tie_sz, ti_sz, tie_ek, ti_ek, tie2_sz, tie2_ek, ti_ek2, nilAV, MM.upd, MM.set, AV.part, AV.cells, AV.agg, List.tail, List.headD, Nat.reduceAdd, Nat.reduceEqDiff, Nat.reduceLT, ↓reduceIte, and_true, true_and, and_self, reduceCtorEq]
    exact AVle.rfl
  replace a1 := qxs_q a1 g4
  replace a2 := qxs_q a2 (any_long hlg2)
  refine ⟨[_, _, _], ⟨_, _, rfl, a0, _, _, rfl, a1, _, _, rfl, a2, hv⟩, ?_⟩
  have hql : (qL 6 l).length = l.length := by simp [qL]
  have hqs : ∀ x ∈ qL 6 l, x = ⟨x.x, false, 6⟩ := by
    intro x hx
    obtain ⟨y, _, rfl⟩ := List.mem_map.1 hx
    rfl
  have hhl : (qL 6 hi0).length = hi0.length := by simp [qL]
  have hhs : ∀ x ∈ qL 6 hi0, x = ⟨x.x, false, 6⟩ := by
    intro x hx
    obtain ⟨y, _, rfl⟩ := List.mem_map.1 hx
    rfl
  generalize qL 6 l = ql at *
  generalize qL 6 hi0 = hi at *
  have hqs2 : ∀ x ∈ ql, x.s ≤ 6 := fun x hx => by rw [hqs x hx]; exact Nat.le_refl _
  have hqs3 : ∀ x ∈ ql, x.s ≤ 1000 := fun x hx => by have := hqs2 x hx; omega
  have hhs2 : ∀ x ∈ hi, x.s ≤ 6 := fun x hx => by rw [hhs x hx]; exact Nat.le_refl _
  show Run Try.prog ti env83 113 (finR ti [.tmp 6] _) _ _ _
  by_cases h30 : (hi.length : Int) > 30
  · repeat' (first | with_reducible refine run_seq ?_ | with_reducible refine run_block ?_ | with_reducible refine step_code ?_ | with_reducible refine step_blk ?_ | with_reducible refine run_skip ?_ | with_reducible refine run_exit ?_ | with_reducible refine exits_code ?_ | with_reducible refine exits_here ?_ | with_reducible refine exits_blk rfl ?_ | with_reducible refine exits_lp ?_ | with_reducible refine run_ret ?_ | ((first | with_reducible refine run_region ?_ | with_reducible refine run_draw (by kernel_rfl) ?_); simp only [↓guardP_tt, ↓guardP_tf, ↓guardP_ft, ↓guardP_ff, guardP_t, guardP_f, evalQ, evalR, effQ, effR, skipS, opEff, evO, plainV, lkS, lkM, updL, putS, tie_sz, tie_zero, tie_zeroB, tie_fld, tie_ek, tie_int, tie_isb, tie_eq2, tie_f1, tie_ms, tie2_sz, tie2_zero, tie2_zeroB, tie2_fld, tie2_ek, tie2_int, tie2_isb, tie2_eq2, tie2_f1, tie2_ms, ti_ek2, ti_f1, ti_ms, ti_sz, ti_zero, ti_zeroB, ti_fld, ti_ek, ti_int, ti_isb, ti_eq2, binA, binI, intOp, appEff, frE, foldB, foldS, castL_self, K.enc, K.dec, K.zero, K.es, K.bytes, AV.part, AV.setPart, AV.cells, AV.agg, AV.nth, Bool.false_eq_true, callEff, pubs, pub, nilAV, MM.upd, MM.set, argS, gdst, opIds, lids, AV.ids, List.getD_cons_succ, List.getD_cons_zero, List.map, List.tail, List.headD, List.nil_append, List.append_nil, List.cons_append, List.length_nil, List.length_cons, List.zip_cons_cons, List.zip_nil_right, List.set_cons_zero, List.set_cons_succ, List.replicate, Option.isSome_some, Option.map_some, Bool.not_true, Bool.not_false, forall_const, false_implies, Nat.reduceAdd, Nat.reduceEqDiff, Nat.reduceLT, Nat.reduceSub, Nat.reduceMul, Nat.reduceLeDiff, ↓reduceIte, and_true, true_and, and_self, false_and, and_false, reduceCtorEq, env83, ctLong27u, ctLong23u, ctAwake, uOf, heta, decide_eq_true h30]) | (with_reducible refine run_cond (by with_unfolding_all exact rfl) ?_ ?_ <;> intro hc <;> (try simp only [vb, decide_eq_true_eq, decide_eq_false_iff_not, beq_iff_eq, beq_eq_false_iff_ne, bne_iff_ne, bne_eq_false_iff_eq, Bool.not_eq_true', Bool.not_eq_false', reduceCtorEq] at hc) <;> (try (first | simp (disch := omega) only [wrap64, wrapu64, wrapu32, sh32, fdiv32, Int.tdiv_eq_ediv_of_nonneg, Int.tmod_eq_emod_of_nonneg, tn_add, tn_add1, Int.toNat_natCast, Int.toNat_zero, List.drop_zero] at hc | simp only [wrapu64m, wrapu32m] at hc))) | ((with_reducible refine compat_ok ?_); kernel_rfl) | with_reducible apply And.intro | (first | simp (disch := omega) only [wrap64, wrapu64, wrapu32, sh32, fdiv32, Int.tdiv_eq_ediv_of_nonneg, Int.tmod_eq_emod_of_nonneg, tn_add, tn_add1, Int.toNat_natCast, Int.toNat_zero, List.drop_zero] | simp only [wrapu64m, wrapu32m]) | (with_reducible intro hg; (try simp only [vb, decide_eq_true_eq, decide_eq_false_iff_not, beq_iff_eq, beq_eq_false_iff_ne, bne_iff_ne, bne_eq_false_iff_eq, Bool.not_eq_true', Bool.not_eq_false', reduceCtorEq] at hg); (try (first | simp (disch := omega) only [wrap64, wrapu64, wrapu32, sh32, fdiv32, Int.tdiv_eq_ediv_of_nonneg, Int.tmod_eq_emod_of_nonneg, tn_add, tn_add1, Int.toNat_natCast, Int.toNat_zero, List.drop_zero] at hg | simp only [wrapu64m, wrapu32m] at hg))))
    all_goals try omega
    all_goals first
      | exact hqs2 _ hg
      | exact hhs2 _ hg
      | (simp only [finR, resAs, resA, resLe, lsLe, lkS, lkM, pubs, pub, tie_sz, ti_sz, tie_ek, ti_ek, tie2_sz, tie2_ek, ti_ek2, nilAV, MM.upd, MM.set, AV.part, AV.cells, AV.agg, List.tail, List.headD, Nat.reduceAdd, Nat.reduceEqDiff, Nat.reduceLT, ↓reduceIte, and_true, true_and, and_self, reduceCtorEq]
         exact AVle.rfl)
  have h30' : decide ((hi.length : Int) > 30) = false := decide_eq_false h30
  repeat' (first | with_reducible refine run_seq ?_ | with_reducible refine run_block ?_ | with_reducible refine step_code ?_ | with_reducible refine step_blk ?_ | with_reducible refine run_skip ?_ | with_reducible refine run_exit ?_ | with_reducible refine exits_code ?_ | with_reducible refine exits_here ?_ | with_reducible refine exits_blk rfl ?_ | with_reducible refine exits_lp ?_ | with_reducible refine run_ret ?_ | ((first | with_reducible refine run_region ?_ | with_reducible refine run_draw (by kernel_rfl) ?_); simp only [↓guardP_tt, ↓guardP_tf, ↓guardP_ft, ↓guardP_ff, guardP_t, guardP_f, evalQ, evalR, effQ, effR, skipS, opEff, evO, plainV, lkS, lkM, updL, putS, tie_sz, tie_zero, tie_zeroB, tie_fld, tie_ek, tie_int, tie_isb, tie_eq2, tie_f1, tie_ms, tie2_sz, tie2_zero, tie2_zeroB, tie2_fld, tie2_ek, tie2_int, tie2_isb, tie2_eq2, tie2_f1, tie2_ms, ti_ek2, ti_f1, ti_ms, ti_sz, ti_zero, ti_zeroB, ti_fld, ti_ek, ti_int, ti_isb, ti_eq2, binA, binI, intOp, appEff, frE, foldB, foldS, castL_self, K.enc, K.dec, K.zero, K.es, K.bytes, AV.part, AV.setPart, AV.cells, AV.agg, AV.nth, Bool.false_eq_true, callEff, pubs, pub, nilAV, MM.upd, MM.set, argS, gdst, opIds, lids, AV.ids, List.getD_cons_succ, List.getD_cons_zero, List.map, List.tail, List.headD, List.nil_append, List.append_nil, List.cons_append, List.length_nil, List.length_cons, List.zip_cons_cons, List.zip_nil_right, List.set_cons_zero, List.set_cons_succ, List.replicate, Option.isSome_some, Option.map_some, Bool.not_true, Bool.not_false, forall_const, false_implies, Nat.reduceAdd, Nat.reduceEqDiff, Nat.reduceLT, Nat.reduceSub, Nat.reduceMul, Nat.reduceLeDiff, ↓reduceIte, and_true, true_and, and_self, false_and, and_false, reduceCtorEq, env83, ctLong27u, ctLong23u, ctAwake, uOf, heta, h30']) | (with_reducible refine run_cond (by with_unfolding_all exact rfl) ?_ ?_ <;> intro hc <;> (try simp only [vb, decide_eq_true_eq, decide_eq_false_iff_not, beq_iff_eq, beq_eq_false_iff_ne, bne_iff_ne, bne_eq_false_iff_eq, Bool.not_eq_true', Bool.not_eq_false', reduceCtorEq] at hc) <;> (try (first | simp (disch := omega) only [wrap64, wrapu64, wrapu32, sh32, fdiv32, Int.tdiv_eq_ediv_of_nonneg, Int.tmod_eq_emod_of_nonneg, tn_add, tn_add1, Int.toNat_natCast, Int.toNat_zero, List.drop_zero] at hc | simp only [wrapu64m, wrapu32m] at hc))) | ((with_reducible refine compat_ok ?_); kernel_rfl) | with_reducible apply And.intro | (first | simp (disch := omega) only [wrap64, wrapu64, wrapu32, sh32, fdiv32, Int.tdiv_eq_ediv_of_nonneg, Int.tmod_eq_emod_of_nonneg, tn_add, tn_add1, Int.toNat_natCast, Int.toNat_zero, List.drop_zero] | simp only [wrapu64m, wrapu32m]) | (with_reducible intro hg; (try simp only [vb, decide_eq_true_eq, decide_eq_false_iff_not, beq_iff_eq, beq_eq_false_iff_ne, bne_iff_ne, bne_eq_false_iff_eq, Bool.not_eq_true', Bool.not_eq_false', reduceCtorEq] at hg); (try (first | simp (disch := omega) only [wrap64, wrapu64, wrapu32, sh32, fdiv32, Int.tdiv_eq_ediv_of_nonneg, Int.tmod_eq_emod_of_nonneg, tn_add, tn_add1, Int.toNat_natCast, Int.toNat_zero, List.drop_zero] at hg | simp only [wrapu64m, wrapu32m] at hg))))
  all_goals try omega
  all_goals try exact hqs2 _ hg
  all_goals try exact hhs2 _ hg
  refine run_loop (ι := Nat) (fun i => ⟨[(8, vi i), (7, .row 40), (3, .ptr 0 0), (1, .lst .q ql), (2, .lst .q hi)], [(40, some (.row 33 .q (upL ql hi i) false)), (0, some (.box 53 (uAV u)))], 41⟩)
    (fun i => i ≤ ql.length) (fun i => ql.length - i) 0 (Nat.zero_le _) ?_ ?_
  · (refine AS.le_ren [(40, none)] ?_ ?_ rfl <;> simp only [slLeR, memLeR, entLeR, rn, entLe, lkS, lkM, Nat.reduceEqDiff, Nat.reduceLT, Nat.reduceAdd, or_true, true_or, reduceCtorEq, ↓reduceIte, and_true, true_and] <;> (repeat' with_reducible apply And.intro) <;> (try (first | exact AV.leR_ptr (Nat.le_of_ble_eq_true rfl) rfl | exact AV.leR_row (Nat.le_of_ble_eq_true rfl) rfl | exact AV.leR_nil (Nat.le_of_ble_eq_true rfl) rfl | exact AV.leR_ep (Nat.le_of_ble_eq_true rfl) rfl | ((with_reducible refine AV.leR_of rfl ?_); try (first | ((with_reducible refine AV.le_refl ?_); rfl) | with_reducible exact AV.le_junk | with_reducible exact AV.le_nil | ((with_reducible refine AV.le_int ?_); omega) | (with_reducible refine AV.le_int ?_) | (with_reducible refine AV.le_bool ?_) | ((with_reducible refine AV.le_lst ?_); try rfl) | (with_reducible refine AV.le_q ?_ ?_ ?_) | exact fun _ _ h => h | (with_reducible refine RC_qle ?_ ?_ ?_))) | exact fun _ _ h => h)))
    all_goals rfl
  intro i hi1
  have hup := upL_length ql hi i
  by_cases hlt : i < ql.length
  · have hgi := hqs (ql.getD i zq) (by rw [List.getD_eq_getElem?_getD, List.getElem?_eq_getElem hlt]; exact List.getElem_mem _)
    obtain ⟨X, hX⟩ : ∃ X : Rat, (ql.getD i zq).x = X := ⟨_, rfl⟩
    rw [hX] at hgi
    by_cases hlh : i < hi.length
    · have hgh := hhs (hi.getD i zq) (by rw [List.getD_eq_getElem?_getD, List.getElem?_eq_getElem hlh]; exact List.getElem_mem _)
      obtain ⟨Y, hY⟩ : ∃ X : Rat, (hi.getD i zq).x = X := ⟨_, rfl⟩
      rw [hY] at hgh
      have hup2 : upL ql hi (i + 1) = upL ql hi i ++ [⟨X + (if Y < 0 then -Y else Y), true, 32⟩] := by
        rw [upL_succ, upE, if_pos hlh, hX, hY]; rfl
      have hge : X ≤ X + (if Y < 0 then -Y else Y) := by split <;> grind
      have k1 : decide (cmpQ (hourP' u X) (hourP' u (X + (if Y < 0 then -Y else Y))) > 0) = false := decide_eq_false (fun h => by
        have h1 := cmpQ_gt.1 h
        have h2 := hour_up (u := u) hge
        grind)
      have k2 : decide ((i : Int) < (hi.length : Int)) = true := decide_eq_true (by omega)
      repeat' (first | with_reducible refine run_seq ?_ | with_reducible refine run_block ?_ | with_reducible refine step_code ?_ | with_reducible refine step_blk ?_ | with_reducible refine run_skip ?_ | with_reducible refine run_exit ?_ | with_reducible refine exits_code ?_ | with_reducible refine exits_here ?_ | with_reducible refine exits_blk rfl ?_ | with_reducible refine exits_lp ?_ | with_reducible refine run_ret ?_ | ((first | with_reducible refine run_region ?_ | with_reducible refine run_draw (by kernel_rfl) ?_); simp only [↓guardP_tt, ↓guardP_tf, ↓guardP_ft, ↓guardP_ff, guardP_t, guardP_f, evalQ, evalR, effQ, effR, skipS, opEff, evO, plainV, lkS, lkM, updL, putS, tie_sz, tie_zero, tie_zeroB, tie_fld, tie_ek, tie_int, tie_isb, tie_eq2, tie_f1, tie_ms, tie2_sz, tie2_zero, tie2_zeroB, tie2_fld, tie2_ek, tie2_int, tie2_isb, tie2_eq2, tie2_f1, tie2_ms, ti_ek2, ti_f1, ti_ms, ti_sz, ti_zero, ti_zeroB, ti_fld, ti_ek, ti_int, ti_isb, ti_eq2, binA, binI, intOp, appEff, frE, foldB, foldS, castL_self, K.enc, K.dec, K.zero, K.es, K.bytes, AV.part, AV.setPart, AV.cells, AV.agg, AV.nth, Bool.false_eq_true, callEff, pubs, pub, nilAV, MM.upd, MM.set, argS, gdst, opIds, lids, AV.ids, List.getD_cons_succ, List.getD_cons_zero, List.map, List.tail, List.headD, List.nil_append, List.append_nil, List.cons_append, List.length_nil, List.length_cons, List.zip_cons_cons, List.zip_nil_right, List.set_cons_zero, List.set_cons_succ, List.replicate, Option.isSome_some, Option.map_some, Bool.not_true, Bool.not_false, forall_const, false_implies, Nat.reduceAdd, Nat.reduceEqDiff, Nat.reduceLT, Nat.reduceSub, Nat.reduceMul, Nat.reduceLeDiff, ↓reduceIte, and_true, true_and, and_self, false_and, and_false, reduceCtorEq, env83, ctAbsQ, ctAddQ, ctQ2, ctHour, ctCmpQ, ctQ2i, qA, uOf, heta, hgi, hgh, k1, k2, hup, bne_self_eq_false, Int.toNat_natCast]) | (with_reducible refine run_cond (by with_unfolding_all exact rfl) ?_ ?_ <;> intro hc <;> (try simp only [vb, decide_eq_true_eq, decide_eq_false_iff_not, beq_iff_eq, beq_eq_false_iff_ne, bne_iff_ne, bne_eq_false_iff_eq, Bool.not_eq_true', Bool.not_eq_false', reduceCtorEq] at hc) <;> (try (first | simp (disch := omega) only [wrap64, wrapu64, wrapu32, sh32, fdiv32, Int.tdiv_eq_ediv_of_nonneg, Int.tmod_eq_emod_of_nonneg, tn_add, tn_add1, Int.toNat_natCast, Int.toNat_zero, List.drop_zero] at hc | simp only [wrapu64m, wrapu32m] at hc))) | ((with_reducible refine compat_ok ?_); kernel_rfl) | with_reducible apply And.intro | (first | simp (disch := omega) only [wrap64, wrapu64, wrapu32, sh32, fdiv32, Int.tdiv_eq_ediv_of_nonneg, Int.tmod_eq_emod_of_nonneg, tn_add, tn_add1, Int.toNat_natCast, Int.toNat_zero, List.drop_zero] | simp only [wrapu64m, wrapu32m]) | (with_reducible intro hg; (try simp only [vb, decide_eq_true_eq, decide_eq_false_iff_not, beq_iff_eq, beq_eq_false_iff_ne, bne_iff_ne, bne_eq_false_iff_eq, Bool.not_eq_true', Bool.not_eq_false', reduceCtorEq] at hg); (try (first | simp (disch := omega) only [wrap64, wrapu64, wrapu32, sh32, fdiv32, Int.tdiv_eq_ediv_of_nonneg, Int.tmod_eq_emod_of_nonneg, tn_add, tn_add1, Int.toNat_natCast, Int.toNat_zero, List.drop_zero] at hg | simp only [wrapu64m, wrapu32m] at hg))))
      all_goals try omega
      refine step_lp ⟨i + 1, by omega, by omega, ?_⟩
      rw [hup2]
      (refine AS.le_ren [(40, some 66)] ?_ ?_ rfl <;> simp only [slLeR, memLeR, entLeR, rn, entLe, lkS, lkM, Nat.reduceEqDiff, Nat.reduceLT, Nat.reduceAdd, or_true, true_or, reduceCtorEq, ↓reduceIte, and_true, true_and] <;> (repeat' with_reducible apply And.intro) <;> (try (first | exact AV.leR_ptr (Nat.le_of_ble_eq_true rfl) rfl | exact AV.leR_row (Nat.le_of_ble_eq_true rfl) rfl | exact AV.leR_nil (Nat.le_of_ble_eq_true rfl) rfl | exact AV.leR_ep (Nat.le_of_ble_eq_true rfl) rfl | ((with_reducible refine AV.leR_of rfl ?_); try (first | ((with_reducible refine AV.le_refl ?_); rfl) | with_reducible exact AV.le_junk | with_reducible exact AV.le_nil | ((with_reducible refine AV.le_int ?_); omega) | (with_reducible refine AV.le_int ?_) | (with_reducible refine AV.le_bool ?_) | ((with_reducible refine AV.le_lst ?_); try rfl) | (with_reducible refine AV.le_q ?_ ?_ ?_) | exact fun _ _ h => h | (with_reducible refine RC_qle ?_ ?_ ?_))) | exact fun _ _ h => h)))
    · have hup2 : upL ql hi (i + 1) = upL ql hi i ++ [⟨X, false, 6⟩] := by
        rw [upL_succ, upE, if_neg hlh, hX]
      have k1 : decide (cmpQ (hourP' u X) (hourP' u X) > 0) = false := decide_eq_false (fun h => by
        have h1 := cmpQ_gt.1 h
        grind)
      have k2 : decide ((i : Int) < (hi.length : Int)) = false := decide_eq_false (by omega)
      repeat' (first | with_reducible refine run_seq ?_ | with_reducible refine run_block ?_ | with_reducible refine step_code ?_ | with_reducible refine step_blk ?_ | with_reducible refine run_skip ?_ | with_reducible refine run_exit ?_ | with_reducible refine exits_code ?_ | with_reducible refine exits_here ?_ | with_reducible refine exits_blk rfl ?_ | with_reducible refine exits_lp ?_ | with_reducible refine run_ret ?_ | ((first | with_reducible refine run_region ?_ | with_reducible refine run_draw (by kernel_rfl) ?_); simp only [↓guardP_tt, ↓guardP_tf, ↓guardP_ft, ↓guardP_ff, guardP_t, guardP_f, evalQ, evalR, effQ, effR, skipS, opEff, evO, plainV, lkS, lkM, updL, putS, tie_sz, tie_zero, tie_zeroB, tie_fld, tie_ek, tie_int, tie_isb, tie_eq2, tie_f1, tie_ms, tie2_sz, tie2_zero, tie2_zeroB, tie2_fld, tie2_ek, tie2_int, tie2_isb, tie2_eq2, tie2_f1, tie2_ms, ti_ek2, ti_f1, ti_ms, ti_sz, ti_zero, ti_zeroB, ti_fld, ti_ek, ti_int, ti_isb, ti_eq2, binA, binI, intOp, appEff, frE, foldB, foldS, castL_self, K.enc, K.dec, K.zero, K.es, K.bytes, AV.part, AV.setPart, AV.cells, AV.agg, AV.nth, Bool.false_eq_true, callEff, pubs, pub, nilAV, MM.upd, MM.set, argS, gdst, opIds, lids, AV.ids, List.getD_cons_succ, List.getD_cons_zero, List.map, List.tail, List.headD, List.nil_append, List.append_nil, List.cons_append, List.length_nil, List.length_cons, List.zip_cons_cons, List.zip_nil_right, List.set_cons_zero, List.set_cons_succ, List.replicate, Option.isSome_some, Option.map_some, Bool.not_true, Bool.not_false, forall_const, false_implies, Nat.reduceAdd, Nat.reduceEqDiff, Nat.reduceLT, Nat.reduceSub, Nat.reduceMul, Nat.reduceLeDiff, ↓reduceIte, and_true, true_and, and_self, false_and, and_false, reduceCtorEq, env83, ctAbsQ, ctAddQ, ctQ2, ctHour, ctCmpQ, ctQ2i, qA, uOf, heta, hgi, k1, k2, hup, bne_self_eq_false, Int.toNat_natCast]) | (with_reducible refine run_cond (by with_unfolding_all exact rfl) ?_ ?_ <;> intro hc <;> (try simp only [vb, decide_eq_true_eq, decide_eq_false_iff_not, beq_iff_eq, beq_eq_false_iff_ne, bne_iff_ne, bne_eq_false_iff_eq, Bool.not_eq_true', Bool.not_eq_false', reduceCtorEq] at hc) <;> (try (first | simp (disch := omega) only [wrap64, wrapu64, wrapu32, sh32, fdiv32, Int.tdiv_eq_ediv_of_nonneg, Int.tmod_eq_emod_of_nonneg, tn_add, tn_add1, Int.toNat_natCast, Int.toNat_zero, List.drop_zero] at hc | simp only [wrapu64m, wrapu32m] at hc))) | ((with_reducible refine compat_ok ?_); kernel_rfl) | with_reducible apply And.intro | (first | simp (disch := omega) only [wrap64, wrapu64, wrapu32, sh32, fdiv32, Int.tdiv_eq_ediv_of_nonneg, Int.tmod_eq_emod_of_nonneg, tn_add, tn_add1, Int.toNat_natCast, Int.toNat_zero, List.drop_zero] | simp only [wrapu64m, wrapu32m]) | (with_reducible intro hg; (try simp only [vb, decide_eq_true_eq, decide_eq_false_iff_not, beq_iff_eq, beq_eq_false_iff_ne, bne_iff_ne, bne_eq_false_iff_eq, Bool.not_eq_true', Bool.not_eq_false', reduceCtorEq] at hg); (try (first | simp (disch := omega) only [wrap64, wrapu64, wrapu32, sh32, fdiv32, Int.tdiv_eq_ediv_of_nonneg, Int.tmod_eq_emod_of_nonneg, tn_add, tn_add1, Int.toNat_natCast, Int.toNat_zero, List.drop_zero] at hg | simp only [wrapu64m, wrapu32m] at hg))))
      all_goals try omega
      refine step_lp ⟨i + 1, by omega, by omega, ?_⟩
      rw [hup2]
      (refine AS.le_ren [(40, some 58)] ?_ ?_ rfl <;> simp only [slLeR, memLeR, entLeR, rn, entLe, lkS, lkM, Nat.reduceEqDiff, Nat.reduceLT, Nat.reduceAdd, or_true, true_or, reduceCtorEq, ↓reduceIte, and_true, true_and] <;> (repeat' with_reducible apply And.intro) <;> (try (first | exact AV.leR_ptr (Nat.le_of_ble_eq_true rfl) rfl | exact AV.leR_row (Nat.le_of_ble_eq_true rfl) rfl | exact AV.leR_nil (Nat.le_of_ble_eq_true rfl) rfl | exact AV.leR_ep (Nat.le_of_ble_eq_true rfl) rfl | ((with_reducible refine AV.leR_of rfl ?_); try (first | ((with_reducible refine AV.le_refl ?_); rfl) | with_reducible exact AV.le_junk | with_reducible exact AV.le_nil | ((with_reducible refine AV.le_int ?_); omega) | (with_reducible refine AV.le_int ?_) | (with_reducible refine AV.le_bool ?_) | ((with_reducible refine AV.le_lst ?_); try rfl) | (with_reducible refine AV.le_q ?_ ?_ ?_) | exact fun _ _ h => h | (with_reducible refine RC_qle ?_ ?_ ?_))) | exact fun _ _ h => h)))
  · have hi2 : i = ql.length := by omega
    subst hi2
    have hus : ∀ x ∈ upL ql hi ql.length, x.s ≤ 1000 := by
      intro x hx
      obtain ⟨j, _, rfl⟩ := List.mem_map.1 hx
      unfold upE
      split
      · exact (by decide : 32 ≤ 1000)
      · exact (by decide : 6 ≤ 1000)
    have k1 : decide (cmpQ (bestP u ql) (bestP u (upL ql hi ql.length)) ≤ 0) = true := decide_eq_true (cmpQ_le.2 best_up)
    repeat' (first | with_reducible refine run_seq ?_ | with_reducible refine run_block ?_ | with_reducible refine step_code ?_ | with_reducible refine step_blk ?_ | with_reducible refine run_skip ?_ | with_reducible refine run_exit ?_ | with_reducible refine exits_code ?_ | with_reducible refine exits_here ?_ | with_reducible refine exits_blk rfl ?_ | with_reducible refine exits_lp ?_ | with_reducible refine run_ret ?_ | ((first | with_reducible refine run_region ?_ | with_reducible refine run_draw (by kernel_rfl) ?_); simp only [↓guardP_tt, ↓guardP_tf, ↓guardP_ft, ↓guardP_ff, guardP_t, guardP_f, evalQ, evalR, effQ, effR, skipS, opEff, evO, plainV, lkS, lkM, updL, putS, tie_sz, tie_zero, tie_zeroB, tie_fld, tie_ek, tie_int, tie_isb, tie_eq2, tie_f1, tie_ms, tie2_sz, tie2_zero, tie2_zeroB, tie2_fld, tie2_ek, tie2_int, tie2_isb, tie2_eq2, tie2_f1, tie2_ms, ti_ek2, ti_f1, ti_ms, ti_sz, ti_zero, ti_zeroB, ti_fld, ti_ek, ti_int, ti_isb, ti_eq2, binA, binI, intOp, appEff, frE, foldB, foldS, castL_self, K.enc, K.dec, K.zero, K.es, K.bytes, AV.part, AV.setPart, AV.cells, AV.agg, AV.nth, Bool.false_eq_true, callEff, pubs, pub, nilAV, MM.upd, MM.set, argS, gdst, opIds, lids, AV.ids, List.getD_cons_succ, List.getD_cons_zero, List.map, List.tail, List.headD, List.nil_append, List.append_nil, List.cons_append, List.length_nil, List.length_cons, List.zip_cons_cons, List.zip_nil_right, List.set_cons_zero, List.set_cons_succ, List.replicate, Option.isSome_some, Option.map_some, Bool.not_true, Bool.not_false, forall_const, false_implies, Nat.reduceAdd, Nat.reduceEqDiff, Nat.reduceLT, Nat.reduceSub, Nat.reduceMul, Nat.reduceLeDiff, ↓reduceIte, and_true, true_and, and_self, false_and, and_false, reduceCtorEq, env83, ctBest, ctCmpQ, ctQ2i, qA, uOf, heta, hup, k1, beq_self_eq_true, decide_true]) | (with_reducible refine run_cond (by with_unfolding_all exact rfl) ?_ ?_ <;> intro hc <;> (try simp only [vb, decide_eq_true_eq, decide_eq_false_iff_not, beq_iff_eq, beq_eq_false_iff_ne, bne_iff_ne, bne_eq_false_iff_eq, Bool.not_eq_true', Bool.not_eq_false', reduceCtorEq] at hc) <;> (try (first | simp (disch := omega) only [wrap64, wrapu64, wrapu32, sh32, fdiv32, Int.tdiv_eq_ediv_of_nonneg, Int.tmod_eq_emod_of_nonneg, tn_add, tn_add1, Int.toNat_natCast, Int.toNat_zero, List.drop_zero] at hc | simp only [wrapu64m, wrapu32m] at hc))) | ((with_reducible refine compat_ok ?_); kernel_rfl) | with_reducible apply And.intro | (first | simp (disch := omega) only [wrap64, wrapu64, wrapu32, sh32, fdiv32, Int.tdiv_eq_ediv_of_nonneg, Int.tmod_eq_emod_of_nonneg, tn_add, tn_add1, Int.toNat_natCast, Int.toNat_zero, List.drop_zero] | simp only [wrapu64m, wrapu32m]) | (with_reducible intro hg; (try simp only [vb, decide_eq_true_eq, decide_eq_false_iff_not, beq_iff_eq, beq_eq_false_iff_ne, bne_iff_ne, bne_eq_false_iff_eq, Bool.not_eq_true', Bool.not_eq_false', reduceCtorEq] at hg); (try (first | simp (disch := omega) only [wrap64, wrapu64, wrapu32, sh32, fdiv32, Int.tdiv_eq_ediv_of_nonneg, Int.tmod_eq_emod_of_nonneg, tn_add, tn_add1, Int.toNat_natCast, Int.toNat_zero, List.drop_zero] at hg | simp only [wrapu64m, wrapu32m] at hg))))
    all_goals try omega
    all_goals first
      | exact hqs3 _ hg
      | exact hus _ hg
      | (simp only [finR, resAs, resA, resLe, lsLe, lkS, lkM, pubs, pub, tie_sz, ti_sz, tie_ek, ti_ek, tie2_sz, tie2_ek, ti_ek2, nilAV, MM.upd, MM.set, AV.part, AV.cells, AV.agg, List.tail, List.headD, Nat.reduceAdd, Nat.reduceEqDiff, Nat.reduceLT, ↓reduceIte, and_true, true_and, and_self, reduceCtorEq]
         exact AVle.rfl)
end Go.AE
