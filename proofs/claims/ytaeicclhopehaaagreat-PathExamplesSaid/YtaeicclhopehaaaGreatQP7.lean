/- The law PathExamples, as a contract: it returns true. -/
import Derived.Test.YtaeicclhopehaaaGreatGk
import Derived.Test.YtaeicclhopehaaaGreatGl
import Derived.Test.YtaeicclhopehaaaGreatGj
import Derived.Test.YtaeicclhopehaaaGreatQY1
namespace Go.AE
open Go.Proofs Go.RowKit
set_option linter.unusedVariables false
set_option linter.unusedSimpArgs false
set_option maxRecDepth 20000

def u0 : U := ⟨0, 0, [], 0, 0, 0, 0, 0, 0⟩
def u6 : U := ⟨6, 0, [], 0, 0, 0, 0, 0, 0⟩
def onU1 : U := ⟨0, 2, [(5, 1), (4, 3)], 3, 2, 5, 3, 0, 1⟩
def freeU : U := ⟨0, 0, [(5, 1), (4, 3)], 1, 1, 0, 0, 0, -2⟩
theorem hu0 : (⟨0, 0, [], 0, 0, 0, 0, 0, 0⟩ : U) = u0 := rfl
theorem hu6 : (⟨6, 0, [], 0, 0, 0, 0, 0, 0⟩ : U) = u6 := rfl
theorem honU : (⟨0, 2, [(5, 1), (4, 3)], 3, 2, 5, 3, 0, 1⟩ : U) = onU1 := rfl
theorem hfreeU : (⟨0, 0, [(5, 1), (4, 3)], 1, 1, 0, 0, 0, -2⟩ : U) = freeU := rfl
theorem pz1 : checkU u0 6 = 4 := by decide +kernel
theorem pz2 : profE u0 (wholeL [1, 2, 3, 4, 5, 6, 7, 8, 9]) [] = 4 := by decide +kernel
theorem pz3 : profE exU (wholeL [1, 2, 3, 4, 5, 6, 7, 8, 9]) [] = 5 := by decide +kernel
theorem pz4 : profE exU (wholeL [1]) [] = 3 := by decide +kernel
theorem pz5 : profE exU (wholeL [1, 1, 1]) [true, false, true] = 3 := by decide +kernel
theorem pz6 : wrongP exU (wholeL [1, 2, 3, 4, 5, 6, 7, 8, 9]).length = 5 := by decide +kernel
theorem pz6b : bestR exU (wholeL [1, 2, 3, 4, 5, 6, 7, 8, 9]) = [] := by decide +kernel
theorem pz7 : wrongP u6 0 = 1 := by decide +kernel
theorem pz7b : bestR u6 [] = [] := by decide +kernel
theorem pz8 : profE exU (wholeL [2, 4, 1]) [false, true, true] = 0 := by decide +kernel
theorem pz9 : profR exU (wholeL [2, 4, 1]) [false, true, true] = ((8 : Int) : Rat) := by decide +kernel
theorem g1 : decide (wrongP exU 0 = 0 ∧ profE exU [] [] = 0 ∧ bestR exU [] = [] ∧ bestP exU [] = ((0 : Int) : Rat) ∧ profR exU [] [] = bestP exU []) = true := by decide +kernel
theorem g2 : decide (wrongP onU1 (wholeL [-9, -9, -9]).length = 0 ∧ profE onU1 (wholeL [-9, -9, -9]) [true, true, false] = 0 ∧ bestR onU1 (wholeL [-9, -9, -9]) = [true, true, false] ∧ bestP onU1 (wholeL [-9, -9, -9]) = ((-46 : Int) : Rat) ∧ profR onU1 (wholeL [-9, -9, -9]) [true, true, false] = bestP onU1 (wholeL [-9, -9, -9])) = true := by decide +kernel
theorem g3 : decide (wrongP freeU (wholeL [1, 1, 1]).length = 0 ∧ profE freeU (wholeL [1, 1, 1]) [false, false, false] = 0 ∧ bestR freeU (wholeL [1, 1, 1]) = [false, false, false] ∧ bestP freeU (wholeL [1, 1, 1]) = ((0 : Int) : Rat) ∧ profR freeU (wholeL [1, 1, 1]) [false, false, false] = bestP freeU (wholeL [1, 1, 1])) = true := by decide +kernel
theorem g4 : decide (wrongP freeU (wholeL [2, 0, 2]).length = 0 ∧ profE freeU (wholeL [2, 0, 2]) [true, false, true] = 0 ∧ bestR freeU (wholeL [2, 0, 2]) = [true, false, true] ∧ bestP freeU (wholeL [2, 0, 2]) = ((10 : Int) : Rat) ∧ profR freeU (wholeL [2, 0, 2]) [true, false, true] = bestP freeU (wholeL [2, 0, 2])) = true := by decide +kernel
theorem g5 : decide (checkU exU 6 = 0 ∧ hourQ' exU (qval 7 2) = 9 ∧ hourP' exU (qval 7 2) = qval 23 2) = true := by decide +kernel
theorem g6 : decide (checkU exU 6 = 0 ∧ hourQ' exU (qval 1 2) = 2 ∧ hourP' exU (qval 1 2) = ((-4 : Int) : Rat)) = true := by decide +kernel
theorem g7 : decide (checkU freeU 6 = 0 ∧ hourQ' freeU ((1 : Int) : Rat) = 0 ∧ hourP' freeU ((1 : Int) : Rat) = ((0 : Int) : Rat)) = true := by decide +kernel
theorem g8 : decide (wrongP exU (wholeL [9, 9, 9, 9, 9, 9, 9, 9]).length = 0 ∧ profE exU (wholeL [9, 9, 9, 9, 9, 9, 9, 9]) [true, true, true, true, true, true, true, true] = 0 ∧ bestR exU (wholeL [9, 9, 9, 9, 9, 9, 9, 9]) = [true, true, true, true, true, true, true, true] ∧ bestP exU (wholeL [9, 9, 9, 9, 9, 9, 9, 9]) = ((483 : Int) : Rat) ∧ profR exU (wholeL [9, 9, 9, 9, 9, 9, 9, 9]) [true, true, true, true, true, true, true, true] = bestP exU (wholeL [9, 9, 9, 9, 9, 9, 9, 9])) = true := by decide +kernel
theorem dR8 : decide (((8 : Int) : Rat) = ((8 : Int) : Rat)) = true := by decide
theorem in64 {l : List Int} (h : l.all (fun x => decide (-9223372036854775808 ≤ x) && decide (x < 9223372036854775808)) = true) {x : Int} (hx : x ∈ l) : -9223372036854775808 ≤ x ∧ x < 9223372036854775808 := by
  have := List.all_eq_true.1 h x hx
  simpa using this
def ctTrue0 : Ct := fun l => match l with
  | [] => some (True, vb true)
  | _ => none
theorem bestR_len {u : U} {l : List QV} : (bestR u l).length ≤ 1099511627776 := by
  by_cases h : wrongP u l.length = 0
  · obtain ⟨b1, b2, b3, b4⟩ := best_own h
    have := (wrong_may h).2
    rw [b4]; omega
  · rw [bestR, if_neg h]; exact Nat.zero_le _
def envP7 : Env := fun g => match g with | 31 => some ctAwake | 39 => some ctEx27 | 32 => some ctHour | 34 => some ctProfit | 37 => some ctBest | 40 => some ctWhole27 | 41 => some ctIntR | 42 => some ctGoes | 43 => some ctGives | 44 => some ctOfR | 15 => some ctIs | _ => none
theorem envP7_ok : EnvOk Tryz.prog envP7 := by
  intro g ct h
  simp only [envP7] at h
  split at h <;> first | (cases h; exact ok31) | (cases h; exact ok39) | (cases h; exact ok32) | (cases h; exact ok34) | (cases h; exact ok37) | (cases h; exact ok40) | (cases h; exact ok41) | (cases h; exact ok42) | (cases h; exact ok43) | (cases h; exact ok44) | (cases h; exact ok15) | cases h
set_option maxHeartbeats 4000000 in
theorem ok7 : Sound Tryz.prog 7 ctTrue0 := by
  refine sound_of (fn := Tryz.f7) rfl rfl rfl tiOk envP7_ok mix ?_ (by intro l p r h; unfold ctTrue0 at h; split at h <;> cases h <;> exact Nat.le_of_ble_eq_true rfl)
  intro l p r h hp F vs hv
  unfold ctTrue0 at h
  split at h <;> cases h
  refine ⟨[], hv, ?_⟩
  obtain ⟨w0, e0⟩ : ∃ x, x = u0 := ⟨_, rfl⟩
  obtain ⟨w6, e6⟩ : ∃ x, x = u6 := ⟨_, rfl⟩
  obtain ⟨w1, e1⟩ : ∃ x, x = onU1 := ⟨_, rfl⟩
  obtain ⟨w2, e2⟩ : ∃ x, x = freeU := ⟨_, rfl⟩
  obtain ⟨w3, e3⟩ : ∃ x, x = exU := ⟨_, rfl⟩
  have hu0' := hu0; rw [← e0] at hu0'
  have pz1' := pz1; rw [← e0] at pz1'
  have pz2' := pz2; rw [← e0] at pz2'
  have hu6' := hu6; rw [← e6] at hu6'
  have pz7' := pz7; rw [← e6] at pz7'
  have pz7b' := pz7b; rw [← e6] at pz7b'
  have honU' := honU; rw [← e1] at honU'
  have g2' := g2; rw [← e1] at g2'
  have hfreeU' := hfreeU; rw [← e2] at hfreeU'
  have g3' := g3; rw [← e2] at g3'
  have g4' := g4; rw [← e2] at g4'
  have g7' := g7; rw [← e2] at g7'
  have hexU' := hexU; rw [← e3] at hexU'
  have pz3' := pz3; rw [← e3] at pz3'
  have pz4' := pz4; rw [← e3] at pz4'
  have pz5' := pz5; rw [← e3] at pz5'
  have pz6' := pz6; rw [← e3] at pz6'
  have pz6b' := pz6b; rw [← e3] at pz6b'
  have pz8' := pz8; rw [← e3] at pz8'
  have pz9' := pz9; rw [← e3] at pz9'
  have g1' := g1; rw [← e3] at g1'
  have g5' := g5; rw [← e3] at g5'
  have g6' := g6; rw [← e3] at g6'
  have g8' := g8; rw [← e3] at g8'
  show Run Tryz.prog ti envP7 184 (finR ti [.tmp 0] _) _ _ _
  repeat' (first | with_reducible refine run_seq ?_ | with_reducible refine run_block ?_ | with_reducible refine step_code ?_ | with_reducible refine step_blk ?_ | with_reducible refine run_skip ?_ | with_reducible refine run_exit ?_ | with_reducible refine exits_code ?_ | with_reducible refine exits_here ?_ | with_reducible refine exits_blk rfl ?_ | with_reducible refine exits_lp ?_ | with_reducible refine run_ret ?_ | (with_reducible refine run_drawM (id := 16) [0, 1, 3, 7, 15, 31, 63, 127, 255, 511, 1023, 2047, 4095, 8191, 16383, 32767, 65535, 131071, 262143, 524287, 1048575, 2097151, 4194303, 8388607, 16777215, 33554431, 67108863, 134217727, 268435455, 536870911, 1073741823, 2147483647, 2147483647, 8589934591, 17179869183, 34359738367, 68719476735, 137438953471, 274877906943, 549755813887, 1099511627775, 1099511627775, 3298534883327, 1099511627775, 17592186044415, 35184372088831, 70368744177663, 140737488355327, 140737488355327, 422212465065983, 140737488355327, 2251799813685247, 4503599627370495, 9007199254740991, 18014398509481983, 18014398509481983, 54043195528445951, 18014398509481983, 288230376151711743, 576460752303423487, 1152921504606846975, 2305843009213693951, 2305843009213693951, 6917529027641081855, 18446744073709551615, 36893488147419103231, 73786976294838206463, 147573952589676412927, 147573952589676412927, 442721857769029238783, 1180591620717411303423, 2361183241434822606847, 4722366482869645213695, 9444732965739290427391, 9444732965739290427391, 9444732965739290427391, 75557863725914323419135, 151115727451828646838271, 302231454903657293676543, 604462909807314587353087, 604462909807314587353087, 1813388729421943762059263, 604462909807314587353087, 9671406556917033397649407, 19342813113834066795298815, 38685626227668133590597631] (by kernel_rfl) (by kernel_rfl) ?_) | ((with_reducible refine evalR_id ?_); unfold evalR; simp only [↓guardP_tt, ↓guardP_tf, ↓guardP_ft, ↓guardP_ff, guardP_t, guardP_f, effQ, effR, skipS, opEff, evO, plainV, lkS, lkM, updL, putS, tie_sz, tie_zero, tie_zeroB, tie_fld, tie_ek, tie_int, tie_isb, tie_eq2, tie_f1, tie_ms,  ti_f1, ti_ms, ti_sz, ti_zero, ti_zeroB, ti_fld, ti_ek, ti_int, ti_isb, ti_eq2, binA, binI, intOp, funOf_v, cloOf_v, calIds, appEff, frE, foldB, foldS, castL_self, K.enc, K.dec, K.zero, K.es, K.bytes, AV.part, AV.setPart, AV.cells, AV.agg, AV.nth, Bool.false_eq_true, callEff, pubs, pub, nilAV, MM.upd, MM.set, argS, gdst, opIds, lids, AV.ids, List.getD_cons_succ, List.getD_cons_zero, List.map, List.tail, List.headD, List.nil_append, List.append_nil, List.cons_append, List.length_nil, List.length_cons, List.zip_cons_cons, List.zip_nil_right, List.set_cons_zero, List.set_cons_succ, List.replicate, Option.isSome_some, Option.map_some, Bool.not_true, Bool.not_false, forall_const, false_implies, Nat.reduceAdd, Nat.reduceEqDiff, Nat.reduceLT, Nat.reduceSub, Nat.reduceMul, Nat.reduceLeDiff, ↓reduceIte, and_true, true_and, and_self, false_and, and_false, reduceCtorEq, envP7, ctAwake, ctEx27, ctHour, ctProfit, ctBest, ctWhole27, ctIntR, ctGoes, ctGives, ctOfR, ctIs, uOf, qA, qC, hu0', pz1', pz2', hu6', pz7', pz7b', honU', g2', hfreeU', g3', g4', g7', hexU', pz3', pz4', pz5', pz6', pz6b', pz8', pz9', g1', g5', g6', g8', dR8, ← e3, List.append_eq, decide_true, beq_self_eq_true]) | ((first | with_reducible refine run_region ?_ | with_reducible refine run_draw (by kernel_rfl) ?_); simp only [↓guardP_tt, ↓guardP_tf, ↓guardP_ft, ↓guardP_ff, guardP_t, guardP_f, evalQ, evalR, effQ, effR, skipS, opEff, evO, plainV, lkS, lkM, updL, putS, tie_sz, tie_zero, tie_zeroB, tie_fld, tie_ek, tie_int, tie_isb, tie_eq2, tie_f1, tie_ms,  ti_f1, ti_ms, ti_sz, ti_zero, ti_zeroB, ti_fld, ti_ek, ti_int, ti_isb, ti_eq2, binA, binI, intOp, funOf_v, cloOf_v, calIds, appEff, frE, foldB, foldS, castL_self, K.enc, K.dec, K.zero, K.es, K.bytes, AV.part, AV.setPart, AV.cells, AV.agg, AV.nth, Bool.false_eq_true, callEff, pubs, pub, nilAV, MM.upd, MM.set, argS, gdst, opIds, lids, AV.ids, List.getD_cons_succ, List.getD_cons_zero, List.map, List.tail, List.headD, List.nil_append, List.append_nil, List.cons_append, List.length_nil, List.length_cons, List.zip_cons_cons, List.zip_nil_right, List.set_cons_zero, List.set_cons_succ, List.replicate, Option.isSome_some, Option.map_some, Bool.not_true, Bool.not_false, forall_const, false_implies, Nat.reduceAdd, Nat.reduceEqDiff, Nat.reduceLT, Nat.reduceSub, Nat.reduceMul, Nat.reduceLeDiff, ↓reduceIte, and_true, true_and, and_self, false_and, and_false, reduceCtorEq, envP7, ctAwake, ctEx27, ctHour, ctProfit, ctBest, ctWhole27, ctIntR, ctGoes, ctGives, ctOfR, ctIs, uOf, qA, qC, hu0', pz1', pz2', hu6', pz7', pz7b', honU', g2', hfreeU', g3', g4', g7', hexU', pz3', pz4', pz5', pz6', pz6b', pz8', pz9', g1', g5', g6', g8', dR8, ← e3, List.append_eq, decide_true, beq_self_eq_true]) | (with_reducible refine run_cond (by with_unfolding_all exact rfl) ?_ ?_ <;> intro hc <;> (try simp only [vb, decide_eq_true_eq, decide_eq_false_iff_not, beq_iff_eq, beq_eq_false_iff_ne, bne_iff_ne, bne_eq_false_iff_eq, Bool.not_eq_true', Bool.not_eq_false', reduceCtorEq] at hc) <;> (try (first | simp (disch := omega) only [wrap64, wrapu64, wrapu32, sh32, fdiv32, Int.tdiv_eq_ediv_of_nonneg, Int.tmod_eq_emod_of_nonneg, tn_add, tn_add1, Int.toNat_natCast, Int.toNat_zero, List.drop_zero] at hc | simp only [wrapu64m, wrapu32m] at hc))) | ((with_reducible refine compatM_ok ?_); kernel_rfl) | ((with_reducible refine compat_ok ?_); kernel_rfl) | with_reducible apply And.intro | (first | simp (disch := omega) only [wrap64, wrapu64, wrapu32, sh32, fdiv32, Int.tdiv_eq_ediv_of_nonneg, Int.tmod_eq_emod_of_nonneg, tn_add, tn_add1, Int.toNat_natCast, Int.toNat_zero, List.drop_zero] | simp only [wrapu64m, wrapu32m]) | (with_reducible intro hg; (try simp only [vb, decide_eq_true_eq, decide_eq_false_iff_not, beq_iff_eq, beq_eq_false_iff_ne, bne_iff_ne, bne_eq_false_iff_eq, Bool.not_eq_true', Bool.not_eq_false', reduceCtorEq] at hg); (try (first | simp (disch := omega) only [wrap64, wrapu64, wrapu32, sh32, fdiv32, Int.tdiv_eq_ediv_of_nonneg, Int.tmod_eq_emod_of_nonneg, tn_add, tn_add1, Int.toNat_natCast, Int.toNat_zero, List.drop_zero] at hg | simp only [wrapu64m, wrapu32m] at hg))))
  all_goals try omega
  all_goals (try clear hu0' pz1' pz2' hu6' pz7' pz7b' honU' g2' hfreeU' g3' g4' g7' hexU' pz3' pz4' pz5' pz6' pz6b' pz8' pz9' g1' g5' g6' g8')
  all_goals (try subst e0); all_goals (try subst e6); all_goals (try subst e1); all_goals (try subst e2); all_goals (try subst e3)
  all_goals first
    | exact bestR_len
    | exact @bestR_len _ _
    | decide +kernel
    | exact wholeL_s _ (by assumption)
    | exact absurd (by assumption) List.not_mem_nil
    | exact ⟨_, _, _, _, rfl, rfl, by decide, by decide⟩
    | (refine (in64 ?_ (by assumption)).1; decide)
    | (refine (in64 ?_ (by assumption)).2; decide)
    | (simp only [finR, resAs, resA, resLe, lsLe, lkS, lkM, pubs, pub, tie_sz, ti_sz, tie_ek, ti_ek,  nilAV, MM.upd, MM.set, AV.part, AV.cells, AV.agg, List.tail, List.headD, Nat.reduceAdd, Nat.reduceEqDiff, Nat.reduceLT, ↓reduceIte, and_true, true_and, and_self, reduceCtorEq]
       exact AVle.rfl)
end Go.AE
