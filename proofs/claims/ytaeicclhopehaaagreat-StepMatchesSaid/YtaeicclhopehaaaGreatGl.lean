/- Plain lemmas: digits in base 2^16 and their arithmetic. Contracts: the reference's arithmetic on digits. Contract: the reference's long division on digits. Contracts: the reference's integers. Contracts: the reference's rationals in least form. -/
import Derived.Test.YtaeicclhopehaaaGreatGi
namespace Go.AE
set_option linter.unusedVariables false
set_option linter.unusedSimpArgs false

def hdN (n : Nat) : List Int := if h : n = 0 then [] else ((n % 65536 : Nat) : Int) :: hdN (n / 65536)
termination_by n
decreasing_by omega
def hd (x : Int) : List Int := hdN x.toNat
theorem hv_nonneg {l : List Int} (h : okH l) : 0 ≤ hv l := by
  induction l with
  | nil => exact Int.le_refl _
  | cons a r ih =>
    have := h a (by simp)
    have := ih (fun x hx => h x (List.mem_cons_of_mem _ hx))
    simp only [hv]; omega
theorem okH_tail {a : Int} {r : List Int} (h : okH (a :: r)) : okH r := fun x hx => h x (List.mem_cons_of_mem _ hx)
theorem okH_nil : okH [] := fun x hx => (by cases hx)
theorem okH_cons {a : Int} {r : List Int} (h1 : 0 ≤ a ∧ a < 65536) (h : okH r) : okH (a :: r) := by
  intro x hx
  rcases List.mem_cons.1 hx with rfl | hx
  · exact h1
  · exact h x hx
theorem okH_app {a b : List Int} (h1 : okH a) (h : okH b) : okH (a ++ b) := by
  intro x hx
  rcases List.mem_append.1 hx with hx | hx
  · exact h1 x hx
  · exact h x hx
theorem okH_drop {l : List Int} (h : okH l) (n : Nat) : okH (l.drop n) := fun x hx => h x (List.mem_of_mem_drop hx)
theorem okH_getD {l : List Int} (h : okH l) (n : Nat) : 0 ≤ l.getD n 0 ∧ l.getD n 0 < 65536 := by
  rw [List.getD_eq_getElem?_getD]
  by_cases hlt : n < l.length
  · rw [List.getElem?_eq_getElem hlt]; exact h _ (List.getElem_mem _)
  · rw [List.getElem?_eq_none (by omega)]; decide
theorem hv_pos {l : List Int} (h : okH l) (hc : l.getLast? ≠ some 0) (hn : l ≠ []) : 0 < hv l := by
  induction l with
  | nil => exact absurd rfl hn
  | cons a r ih =>
    have ha := h a (by simp)
    have hr := hv_nonneg (okH_tail h)
    cases r with
    | nil =>
      simp only [List.getLast?_singleton, ne_eq, Option.some.injEq] at hc
      simp only [hv]; omega
    | cons b r =>
      have := ih (okH_tail h) (by simpa using hc) (by simp)
      simp only [hv] at this ⊢; omega
theorem hd_eq {l : List Int} (h : okH l) (hc : l.getLast? ≠ some 0) : hd (hv l) = l := by
  induction l with
  | nil => simp [hd, hv, hdN]
  | cons a r ih =>
    have ha := h a (by simp)
    have hr := hv_nonneg (okH_tail h)
    have hp := hv_pos h hc (by simp)
    have hcr : r.getLast? ≠ some 0 := by
      cases r with
      | nil => simp
      | cons b r => simpa using hc
    have ihr := ih (okH_tail h) hcr
    unfold hd at ihr ⊢
    rw [hdN]
    have hne : (hv (a :: r)).toNat ≠ 0 := by omega
    rw [dif_neg hne]
    have e1 : (((hv (a :: r)).toNat % 65536 : Nat) : Int) = a := by simp only [hv]; omega
    have e2 : (hv (a :: r)).toNat / 65536 = (hv r).toNat := by simp only [hv]; omega
    rw [e1, e2, ihr]
theorem hdN_props (n : Nat) : hv (hdN n) = n ∧ okH (hdN n) ∧ (hdN n).getLast? ≠ some 0 := by
  induction n using Nat.strongRecOn with
  | ind n ih =>
    rw [hdN]
    split
    · rename_i h; subst h; exact ⟨rfl, okH_nil, by simp⟩
    · rename_i hn
      obtain ⟨h1, h2, h3⟩ := ih (n / 65536) (by omega)
      refine ⟨by simp only [hv, h1]; omega, okH_cons (by omega) h2, ?_⟩
      rw [List.getLast?_cons]
      cases e : hdN (n / 65536) with
      | nil =>
        rw [e] at h1
        simp only [hv] at h1
        simp
        omega
      | cons b r =>
        rw [e] at h3
        rw [List.getLast?_eq_some_getLast (by simp)] at h3 ⊢
        simpa using h3
theorem hv_hd {x : Int} (h : 0 ≤ x) : hv (hd x) = x := by
  have := (hdN_props x.toNat).1
  unfold hd; omega
theorem okH_hd (x : Int) : okH (hd x) := (hdN_props x.toNat).2.1
theorem hd_canon (x : Int) : (hd x).getLast? ≠ some 0 := (hdN_props x.toNat).2.2
theorem trim_hd {l : List Int} (h : okH l) : trimL l = hd (hv l) := by
  rw [← hd_eq (okH_trimL h) (trimL_canon l), trimL_hv]
theorem hd_zero : hd 0 = [] := by simp [hd, hdN]
theorem hd_nil {x : Int} (h : 0 ≤ x) : hd x = [] ↔ x = 0 := by
  constructor
  · intro e
    have := hv_hd h
    rw [e] at this
    simp only [hv] at this; omega
  · rintro rfl; exact hd_zero
theorem hd_len0 {x : Int} (h : 0 ≤ x) : (hd x).length = 0 ↔ x = 0 := by
  rw [List.length_eq_zero_iff, hd_nil h]
theorem hdN_mono {m : Nat} : ∀ {n : Nat}, m ≤ n → (hdN m).length ≤ (hdN n).length := by
  induction m using Nat.strongRecOn with
  | ind m ih =>
    intro n h
    rw [hdN]
    split
    · simp
    · rename_i hm
      rw [hdN.eq_def n, dif_neg (by omega)]
      simp only [List.length_cons]
      have := ih (m / 65536) (by omega) (n := n / 65536) (by omega)
      omega
theorem hd_mono {x y : Int} (h : x ≤ y) : (hd x).length ≤ (hd y).length := hdN_mono (by omega)
theorem hv_lt {l : List Int} (h : okH l) : hv l < 65536 ^ l.length := by
  induction l with
  | nil => simp [hv]
  | cons a r ih =>
    have ha := h a (by simp)
    have := ih (okH_tail h)
    simp only [hv, List.length_cons, Int.pow_succ]; omega
theorem hd_lenp {x : Int} {k : Nat} (h : x < 65536 ^ k) : (hd x).length ≤ k := by
  induction k generalizing x with
  | zero =>
    have : x.toNat = 0 := by simp at h; omega
    simp [hd, this, hdN]
  | succ k ih =>
    rw [Int.pow_succ] at h
    unfold hd
    rw [hdN]
    split
    · simp
    · rename_i hn
      have := ih (x := x / 65536) (by omega)
      simp only [List.length_cons]
      unfold hd at this
      rw [show x.toNat / 65536 = (x / 65536).toNat by omega]
      omega
theorem hv_len {l : List Int} (h : okH l) : (hd (hv l)).length ≤ l.length := hd_lenp (hv_lt h)
theorem hd_len_lt {x : Int} (h : 0 ≤ x) : x < 65536 ^ (hd x).length := by
  have := hv_lt (okH_hd x)
  rwa [hv_hd h] at this
theorem hv_small {l : List Int} (h : okH l) (hl : l.length ≤ 3) : 0 ≤ hv l ∧ hv l < 281474976710656 := by
  refine ⟨hv_nonneg h, ?_⟩
  match l, h, hl with
  | [], _, _ => simp [hv]
  | [a], h, _ => have := h a (by simp); simp only [hv]; omega
  | [a, b], h, _ => have := h a (by simp); have := h b (by simp); simp only [hv]; omega
  | [a, b, c], h, _ => have := h a (by simp); have := h b (by simp); have := h c (by simp); simp only [hv]; omega
theorem hv_drop (l : List Int) (n : Nat) : hv (l.drop n) = l.getD n 0 + 65536 * hv (l.drop (n + 1)) := by
  induction l generalizing n with
  | nil => simp [hv]
  | cons a r ih =>
    cases n with
    | zero => simp [hv]
    | succ n => simpa using ih n
theorem hv_drop_all {l : List Int} {n : Nat} (h : l.length ≤ n) : hv (l.drop n) = 0 := by
  rw [List.drop_eq_nil_of_le h]; rfl
theorem hv_drop_lt {a b : List Int} (ha : okH a) (hb : okH b) (n : Nat) (h : hv (a.drop n) < hv (b.drop n)) : hv a < hv b := by
  induction n with
  | zero => simpa using h
  | succ n ih =>
    apply ih
    rw [hv_drop a n, hv_drop b n]
    have := okH_getD ha n
    have := okH_getD hb n
    omega
theorem hv_app (l : List Int) (d : Int) : hv (l ++ [d]) = hv l + 65536 ^ l.length * d := by
  induction l with
  | nil => simp [hv]
  | cons a r ih =>
    simp only [List.cons_append, hv, ih, List.length_cons, Int.pow_succ]
    rw [Int.mul_add, Int.mul_comm (65536 ^ r.length) 65536, Int.mul_assoc]
    omega
theorem emit {out : List Int} {v rest T : Int} (h : hv out + 65536 ^ out.length * (v + 65536 * rest) = T) :
    hv (out ++ [v % 65536]) + 65536 ^ (out ++ [v % 65536]).length * (v / 65536 + rest) = T := by
  rw [hv_app, List.length_append]
  simp only [List.length_cons, List.length_nil, Nat.zero_add, Int.pow_succ]
  rw [← h, Int.mul_assoc, Int.add_assoc, ← Int.mul_add]
  have e : v % 65536 + 65536 * (v / 65536 + rest) = v + 65536 * rest := by omega
  rw [e]
theorem cmpS {x y : Int} (h : x = y) : (if x < y then (-1 : Int) else if x = y then 0 else 1) = 0 := by
  subst h; simp
def cmpI (x y : Int) : Int := if x < y then -1 else if x = y then 0 else 1
theorem sub_end {out : List Int} {T B c : Int} (ho : okH out) (hT : 0 ≤ T) (hB : 0 ≤ B) (hc : 0 ≤ c) (h : hv out + 65536 ^ out.length * (0 - B - c) = T) : hv out = T := by
  have h1 := hv_lt ho
  have h2 : B + c = 0 := by
    by_cases hz : B + c = 0
    · exact hz
    · exfalso
      have h3 : 65536 ^ out.length * 1 ≤ 65536 ^ out.length * (B + c) := Int.mul_le_mul_of_nonneg_left (by omega) (Int.pow_nonneg (by omega))
      have h4 : 65536 ^ out.length * (0 - B - c) = - (65536 ^ out.length * (B + c)) := by
        rw [show 0 - B - c = -(B + c) by omega, Int.mul_neg]
      omega
  have h5 : 0 - B - c = 0 := by omega
  rw [h5, Int.mul_zero] at h
  omega
theorem hv_rep (n : Nat) (l : List Int) : (List.replicate n (0 : Int) ++ l).drop n = l := by
  rw [List.drop_append_of_le_length (by simp), List.drop_eq_nil_of_le (by simp)]; rfl
theorem rep_set (n : Nat) (l : List Int) (x : Int) : (List.replicate (n + 1) (0 : Int) ++ l).set n x = List.replicate n 0 ++ x :: l := by
  induction n with
  | zero => rfl
  | succ n ih => rw [List.replicate_succ, List.cons_append, List.set_cons_succ, ih]; rfl
end Go.AE

/- Contracts: the reference's arithmetic on digits. -/
namespace Go.AE
open Go.Proofs Go.RowKit
set_option linter.unusedVariables false
set_option linter.unusedSimpArgs false
set_option maxRecDepth 20000

theorem tnm1 (n : Nat) : ((n : Int) - 1).toNat = n - 1 := by omega
def envR50 : Env := fun g => match g with | 144 => some ctAtH | _ => none
theorem envR50_ok : EnvOk Tryz.prog envR50 := by
  intro g ct h
  simp only [envR50] at h
  split at h <;> first | (cases h; exact ok144) | cases h
def ctCmpH : Ct := fun l => match l with
  | [.lst .i64 a, .lst .i64 b] => some (a.length ≤ 1073741824 ∧ b.length ≤ 1073741824 ∧ okH a ∧ okH b, vi (cmpI (hv a) (hv b)))
  | _ => none
theorem ok128 : Sound Tryz.prog 128 ctCmpH := by
  refine sound_of (fn := Tryz.f128) rfl rfl rfl tiOk envR50_ok mix ?_ (by intro l p r h; unfold ctCmpH at h; split at h <;> cases h <;> exact Nat.le_of_ble_eq_true rfl)
  intro l p r h hp F vs hv
  unfold ctCmpH at h
  split at h <;> cases h
  rename_i a b
  change List Int at a b
  obtain ⟨hp1, hp2, hp3, hp4⟩ := hp
  obtain ⟨v0, rest0, rfl, a0, hv⟩ := hv
  obtain ⟨v1, rest1, rfl, a1, hv⟩ := hv
  refine ⟨[_, _], ⟨_, _, rfl, a0, _, _, rfl, a1, hv⟩, ?_⟩
  clear hv
  show Run Tryz.prog ti envR50 30 (finR ti [.tmp 4] _) _ _ _
  repeat' (first | with_reducible refine run_seq ?_ | with_reducible refine run_block ?_ | with_reducible refine step_code ?_ | with_reducible refine step_blk ?_ | with_reducible refine run_skip ?_ | with_reducible refine run_exit ?_ | with_reducible refine exits_code ?_ | with_reducible refine exits_here ?_ | with_reducible refine exits_blk rfl ?_ | with_reducible refine exits_lp ?_ | with_reducible refine run_ret ?_ | ((first | with_reducible refine run_region ?_ | with_reducible refine run_draw (by kernel_rfl) ?_); simp only [↓guardP_tt, ↓guardP_tf, ↓guardP_ft, ↓guardP_ff, guardP_t, guardP_f, evalQ, evalR, effQ, effR, skipS, opEff, evO, plainV, lkS, lkM, updL, putS, tie_sz, tie_zero, tie_zeroB, tie_fld, tie_ek, tie_int, tie_isb, tie_eq2, tie_f1, tie_ms, tie2_sz, tie2_zero, tie2_zeroB, tie2_fld, tie2_ek, tie2_int, tie2_isb, tie2_eq2, tie2_f1, tie2_ms, ti_ek2, ti_f1, ti_ms, ti_sz, ti_zero, ti_zeroB, ti_fld, ti_ek, ti_int, ti_isb, ti_eq2, binA, binI, intOp, funOf_v, cloOf_v, calIds, appEff, frE, foldB, foldS, castL_self, K.enc, K.dec, K.zero, K.es, K.bytes, AV.part, AV.setPart, AV.cells, AV.agg, AV.nth, Bool.false_eq_true, callEff, pubs, pub, nilAV, MM.upd, MM.set, argS, gdst, opIds, lids, AV.ids, List.getD_cons_succ, List.getD_cons_zero, List.map, List.tail, List.headD, List.nil_append, List.append_nil, List.cons_append, List.length_nil, List.length_cons, List.zip_cons_cons, List.zip_nil_right, List.set_cons_zero, List.set_cons_succ, List.replicate, Option.isSome_some, Option.map_some, Bool.not_true, Bool.not_false, forall_const, false_implies, Nat.reduceAdd, Nat.reduceEqDiff, Nat.reduceLT, Nat.reduceSub, Nat.reduceMul, Nat.reduceLeDiff, ↓reduceIte, and_true, true_and, and_self, false_and, and_false, reduceCtorEq, envR50]) | (with_reducible refine run_cond (by with_unfolding_all exact rfl) ?_ ?_ <;> intro hc <;> (try simp only [vb, decide_eq_true_eq, decide_eq_false_iff_not, beq_iff_eq, beq_eq_false_iff_ne, bne_iff_ne, bne_eq_false_iff_eq, Bool.not_eq_true', Bool.not_eq_false', reduceCtorEq] at hc) <;> (try (first | simp (disch := omega) only [wrap64, wrapu64, wrapu32, sh32, fdiv32, Int.tdiv_eq_ediv_of_nonneg, Int.tmod_eq_emod_of_nonneg, tn_add, tn_add1, Int.toNat_natCast, Int.toNat_zero, List.drop_zero] at hc | simp only [wrapu64m, wrapu32m] at hc))) | ((with_reducible refine compat_ok ?_); kernel_rfl) | with_reducible apply And.intro | (first | simp (disch := omega) only [wrap64, wrapu64, wrapu32, sh32, fdiv32, Int.tdiv_eq_ediv_of_nonneg, Int.tmod_eq_emod_of_nonneg, tn_add, tn_add1, Int.toNat_natCast, Int.toNat_zero, List.drop_zero] | simp only [wrapu64m, wrapu32m]) | (with_reducible intro hg; (try simp only [vb, decide_eq_true_eq, decide_eq_false_iff_not, beq_iff_eq, beq_eq_false_iff_ne, bne_iff_ne, bne_eq_false_iff_eq, Bool.not_eq_true', Bool.not_eq_false', reduceCtorEq] at hg); (try (first | simp (disch := omega) only [wrap64, wrapu64, wrapu32, sh32, fdiv32, Int.tdiv_eq_ediv_of_nonneg, Int.tmod_eq_emod_of_nonneg, tn_add, tn_add1, Int.toNat_natCast, Int.toNat_zero, List.drop_zero] at hg | simp only [wrapu64m, wrapu32m] at hg))))
  all_goals try omega
  refine run_loop (ι := Nat) (fun n => ⟨[(5, vi ((n : Int) - 1)), (0, .lst .i64 a), (1, .lst .i64 b)], [], 0⟩) (fun n => n ≤ max a.length b.length ∧ hv (a.drop n) = hv (b.drop n)) (fun n => n) (max a.length b.length) ⟨Nat.le_refl _, by rw [hv_drop_all (by omega), hv_drop_all (by omega)]⟩ ?_ ?_
  · (refine AS.le_of ?_ ?_ <;> simp only [slLe, memLe, entLe, lkS, lkM, Nat.reduceEqDiff, Nat.reduceLT, or_true, true_or, reduceCtorEq, ↓reduceIte, and_true, true_and] <;> (repeat' with_reducible apply And.intro) <;> (try (first | ((with_reducible refine AV.le_refl ?_); rfl) | with_reducible exact AV.le_junk | with_reducible exact AV.le_nil | ((with_reducible refine AV.le_int ?_); omega) | (with_reducible refine AV.le_int ?_) | (with_reducible refine AV.le_bool ?_) | ((with_reducible refine AV.le_lst ?_); try rfl) | (with_reducible refine AV.le_q ?_ ?_ ?_) | exact fun _ _ h => h | (with_reducible refine RC_qle ?_ ?_ ?_))))
  rintro n ⟨hn, ht⟩
  have hxa := okH_getD hp3 (n - 1)
  have hxb := okH_getD hp4 (n - 1)
  have hda := hv_drop a (n - 1)
  have hdb := hv_drop b (n - 1)
  have hn1 : ∀ h : 0 < n, n - 1 + 1 = n := fun h => by omega
  repeat' (first | with_reducible refine run_seq ?_ | with_reducible refine run_block ?_ | with_reducible refine step_code ?_ | with_reducible refine step_blk ?_ | with_reducible refine run_skip ?_ | with_reducible refine run_exit ?_ | with_reducible refine exits_code ?_ | with_reducible refine exits_here ?_ | with_reducible refine exits_blk rfl ?_ | with_reducible refine exits_lp ?_ | with_reducible refine run_ret ?_ | ((first | with_reducible refine run_region ?_ | with_reducible refine run_draw (by kernel_rfl) ?_); simp only [↓guardP_tt, ↓guardP_tf, ↓guardP_ft, ↓guardP_ff, guardP_t, guardP_f, evalQ, evalR, effQ, effR, skipS, opEff, evO, plainV, lkS, lkM, updL, putS, tie_sz, tie_zero, tie_zeroB, tie_fld, tie_ek, tie_int, tie_isb, tie_eq2, tie_f1, tie_ms, tie2_sz, tie2_zero, tie2_zeroB, tie2_fld, tie2_ek, tie2_int, tie2_isb, tie2_eq2, tie2_f1, tie2_ms, ti_ek2, ti_f1, ti_ms, ti_sz, ti_zero, ti_zeroB, ti_fld, ti_ek, ti_int, ti_isb, ti_eq2, binA, binI, intOp, funOf_v, cloOf_v, calIds, appEff, frE, foldB, foldS, castL_self, K.enc, K.dec, K.zero, K.es, K.bytes, AV.part, AV.setPart, AV.cells, AV.agg, AV.nth, Bool.false_eq_true, callEff, pubs, pub, nilAV, MM.upd, MM.set, argS, gdst, opIds, lids, AV.ids, List.getD_cons_succ, List.getD_cons_zero, List.map, List.tail, List.headD, List.nil_append, List.append_nil, List.cons_append, List.length_nil, List.length_cons, List.zip_cons_cons, List.zip_nil_right, List.set_cons_zero, List.set_cons_succ, List.replicate, Option.isSome_some, Option.map_some, Bool.not_true, Bool.not_false, forall_const, false_implies, Nat.reduceAdd, Nat.reduceEqDiff, Nat.reduceLT, Nat.reduceSub, Nat.reduceMul, Nat.reduceLeDiff, ↓reduceIte, and_true, true_and, and_self, false_and, and_false, reduceCtorEq, envR50, ctAtH, tnm1]) | (with_reducible refine run_cond (by with_unfolding_all exact rfl) ?_ ?_ <;> intro hc <;> (try simp only [vb, decide_eq_true_eq, decide_eq_false_iff_not, beq_iff_eq, beq_eq_false_iff_ne, bne_iff_ne, bne_eq_false_iff_eq, Bool.not_eq_true', Bool.not_eq_false', reduceCtorEq] at hc) <;> (try (first | simp (disch := omega) only [wrap64, wrapu64, wrapu32, sh32, fdiv32, Int.tdiv_eq_ediv_of_nonneg, Int.tmod_eq_emod_of_nonneg, tn_add, tn_add1, Int.toNat_natCast, Int.toNat_zero, List.drop_zero] at hc | simp only [wrapu64m, wrapu32m] at hc))) | ((with_reducible refine compat_ok ?_); kernel_rfl) | with_reducible apply And.intro | (first | simp (disch := omega) only [wrap64, wrapu64, wrapu32, sh32, fdiv32, Int.tdiv_eq_ediv_of_nonneg, Int.tmod_eq_emod_of_nonneg, tn_add, tn_add1, Int.toNat_natCast, Int.toNat_zero, List.drop_zero] | simp only [wrapu64m, wrapu32m]) | (with_reducible intro hg; (try simp only [vb, decide_eq_true_eq, decide_eq_false_iff_not, beq_iff_eq, beq_eq_false_iff_ne, bne_iff_ne, bne_eq_false_iff_eq, Bool.not_eq_true', Bool.not_eq_false', reduceCtorEq] at hg); (try (first | simp (disch := omega) only [wrap64, wrapu64, wrapu32, sh32, fdiv32, Int.tdiv_eq_ediv_of_nonneg, Int.tmod_eq_emod_of_nonneg, tn_add, tn_add1, Int.toNat_natCast, Int.toNat_zero, List.drop_zero] at hg | simp only [wrapu64m, wrapu32m] at hg))))
  all_goals try omega
  · have := hn1 (by omega)
    rw [this] at hda hdb
    have := hv_drop_lt hp3 hp4 (n - 1) (by omega)
    simp only [finR, resAs, resA, resLe, lsLe, lkS, lkM, pubs, pub, tie_sz, ti_sz, tie_ek, ti_ek, tie2_sz, tie2_ek, ti_ek2, nilAV, MM.upd, MM.set, AV.part, AV.cells, AV.agg, List.tail, List.headD, Nat.reduceAdd, Nat.reduceEqDiff, Nat.reduceLT, ↓reduceIte, and_true, true_and, and_self, reduceCtorEq]
    exact AVle_int (by unfold cmpI; rw [if_pos this])
  · have := hn1 (by omega)
    rw [this] at hda hdb
    have := hv_drop_lt hp4 hp3 (n - 1) (by omega)
    simp only [finR, resAs, resA, resLe, lsLe, lkS, lkM, pubs, pub, tie_sz, ti_sz, tie_ek, ti_ek, tie2_sz, tie2_ek, ti_ek2, nilAV, MM.upd, MM.set, AV.part, AV.cells, AV.agg, List.tail, List.headD, Nat.reduceAdd, Nat.reduceEqDiff, Nat.reduceLT, ↓reduceIte, and_true, true_and, and_self, reduceCtorEq]
    exact AVle_int (by unfold cmpI; rw [if_neg (by omega), if_neg (by omega)])
  · have := hn1 (by omega)
    rw [this] at hda hdb
    refine step_lp ⟨n - 1, ⟨by omega, by omega⟩, by omega, ?_⟩
    (refine AS.le_of ?_ ?_ <;> simp only [slLe, memLe, entLe, lkS, lkM, Nat.reduceEqDiff, Nat.reduceLT, or_true, true_or, reduceCtorEq, ↓reduceIte, and_true, true_and] <;> (repeat' with_reducible apply And.intro) <;> (try (first | ((with_reducible refine AV.le_refl ?_); rfl) | with_reducible exact AV.le_junk | with_reducible exact AV.le_nil | ((with_reducible refine AV.le_int ?_); omega) | (with_reducible refine AV.le_int ?_) | (with_reducible refine AV.le_bool ?_) | ((with_reducible refine AV.le_lst ?_); try rfl) | (with_reducible refine AV.le_q ?_ ?_ ?_) | exact fun _ _ h => h | (with_reducible refine RC_qle ?_ ?_ ?_))))
  · have : n = 0 := by omega
    subst this
    simp only [List.drop_zero] at ht
    simp only [finR, resAs, resA, resLe, lsLe, lkS, lkM, pubs, pub, tie_sz, ti_sz, tie_ek, ti_ek, tie2_sz, tie2_ek, ti_ek2, nilAV, MM.upd, MM.set, AV.part, AV.cells, AV.agg, List.tail, List.headD, Nat.reduceAdd, Nat.reduceEqDiff, Nat.reduceLT, ↓reduceIte, and_true, true_and, and_self, reduceCtorEq]
    exact AVle_int (by unfold cmpI; rw [if_neg (by omega), if_pos ht])
def envR51 : Env := fun g => match g with | 144 => some ctAtH | 142 => some ctTrimH | _ => none
theorem envR51_ok : EnvOk Tryz.prog envR51 := by
  intro g ct h
  simp only [envR51] at h
  split at h <;> first | (cases h; exact ok144) | (cases h; exact ok142) | cases h
def ctAddH : Ct := fun l => match l with
  | [.lst .i64 a, .lst .i64 b] => some (a.length ≤ 1073741824 ∧ b.length ≤ 1073741824 ∧ okH a ∧ okH b, .lst .i64 (hd (hv a + hv b)))
  | _ => none
theorem ok127 : Sound Tryz.prog 127 ctAddH := by
  refine sound_of (fn := Tryz.f127) rfl rfl rfl tiOk envR51_ok mix ?_ (by intro l p r h; unfold ctAddH at h; split at h <;> cases h <;> exact Nat.le_of_ble_eq_true rfl)
  intro l p r h hp F vs hv
  unfold ctAddH at h
  split at h <;> cases h
  rename_i a b
  change List Int at a b
  obtain ⟨hp1, hp2, hp3, hp4⟩ := hp
  obtain ⟨v0, rest0, rfl, a0, hv⟩ := hv
  obtain ⟨v1, rest1, rfl, a1, hv⟩ := hv
  refine ⟨[_, _], ⟨_, _, rfl, a0, _, _, rfl, a1, hv⟩, ?_⟩
  clear hv
  show Run Tryz.prog ti envR51 43 (finR ti [.tmp 4] _) _ _ _
  repeat' (first | with_reducible refine run_seq ?_ | with_reducible refine run_block ?_ | with_reducible refine step_code ?_ | with_reducible refine step_blk ?_ | with_reducible refine run_skip ?_ | with_reducible refine run_exit ?_ | with_reducible refine exits_code ?_ | with_reducible refine exits_here ?_ | with_reducible refine exits_blk rfl ?_ | with_reducible refine exits_lp ?_ | with_reducible refine run_ret ?_ | ((first | with_reducible refine run_region ?_ | with_reducible refine run_draw (by kernel_rfl) ?_); simp only [↓guardP_tt, ↓guardP_tf, ↓guardP_ft, ↓guardP_ff, guardP_t, guardP_f, evalQ, evalR, effQ, effR, skipS, opEff, evO, plainV, lkS, lkM, updL, putS, tie_sz, tie_zero, tie_zeroB, tie_fld, tie_ek, tie_int, tie_isb, tie_eq2, tie_f1, tie_ms, tie2_sz, tie2_zero, tie2_zeroB, tie2_fld, tie2_ek, tie2_int, tie2_isb, tie2_eq2, tie2_f1, tie2_ms, ti_ek2, ti_f1, ti_ms, ti_sz, ti_zero, ti_zeroB, ti_fld, ti_ek, ti_int, ti_isb, ti_eq2, binA, binI, intOp, funOf_v, cloOf_v, calIds, appEff, frE, foldB, foldS, castL_self, K.enc, K.dec, K.zero, K.es, K.bytes, AV.part, AV.setPart, AV.cells, AV.agg, AV.nth, Bool.false_eq_true, callEff, pubs, pub, nilAV, MM.upd, MM.set, argS, gdst, opIds, lids, AV.ids, List.getD_cons_succ, List.getD_cons_zero, List.map, List.tail, List.headD, List.nil_append, List.append_nil, List.cons_append, List.length_nil, List.length_cons, List.zip_cons_cons, List.zip_nil_right, List.set_cons_zero, List.set_cons_succ, List.replicate, Option.isSome_some, Option.map_some, Bool.not_true, Bool.not_false, forall_const, false_implies, Nat.reduceAdd, Nat.reduceEqDiff, Nat.reduceLT, Nat.reduceSub, Nat.reduceMul, Nat.reduceLeDiff, ↓reduceIte, and_true, true_and, and_self, false_and, and_false, reduceCtorEq, envR51]) | (with_reducible refine run_cond (by with_unfolding_all exact rfl) ?_ ?_ <;> intro hc <;> (try simp only [vb, decide_eq_true_eq, decide_eq_false_iff_not, beq_iff_eq, beq_eq_false_iff_ne, bne_iff_ne, bne_eq_false_iff_eq, Bool.not_eq_true', Bool.not_eq_false', reduceCtorEq] at hc) <;> (try (first | simp (disch := omega) only [wrap64, wrapu64, wrapu32, sh32, fdiv32, Int.tdiv_eq_ediv_of_nonneg, Int.tmod_eq_emod_of_nonneg, tn_add, tn_add1, Int.toNat_natCast, Int.toNat_zero, List.drop_zero] at hc | simp only [wrapu64m, wrapu32m] at hc))) | ((with_reducible refine compat_ok ?_); kernel_rfl) | with_reducible apply And.intro | (first | simp (disch := omega) only [wrap64, wrapu64, wrapu32, sh32, fdiv32, Int.tdiv_eq_ediv_of_nonneg, Int.tmod_eq_emod_of_nonneg, tn_add, tn_add1, Int.toNat_natCast, Int.toNat_zero, List.drop_zero] | simp only [wrapu64m, wrapu32m]) | (with_reducible intro hg; (try simp only [vb, decide_eq_true_eq, decide_eq_false_iff_not, beq_iff_eq, beq_eq_false_iff_ne, bne_iff_ne, bne_eq_false_iff_eq, Bool.not_eq_true', Bool.not_eq_false', reduceCtorEq] at hg); (try (first | simp (disch := omega) only [wrap64, wrapu64, wrapu32, sh32, fdiv32, Int.tdiv_eq_ediv_of_nonneg, Int.tmod_eq_emod_of_nonneg, tn_add, tn_add1, Int.toNat_natCast, Int.toNat_zero, List.drop_zero] at hg | simp only [wrapu64m, wrapu32m] at hg))))
  all_goals try omega
  refine run_loop (ι := List Int × Int) (fun s => ⟨[(7, vi s.1.length), (6, vi s.2), (5, .row 0), (0, .lst .i64 a), (1, .lst .i64 b)], [(0, some (.row 3 .i64 s.1 false))], 1⟩)
    (fun s => okH s.1 ∧ 0 ≤ s.2 ∧ s.2 ≤ 1 ∧ s.1.length ≤ max a.length b.length + 1 ∧ (s.1.length = max a.length b.length + 1 → s.2 = 0) ∧ hv s.1 + 65536 ^ s.1.length * (s.2 + hv (a.drop s.1.length) + hv (b.drop s.1.length)) = hv a + hv b)
    (fun s => 2 * (max a.length b.length - s.1.length) + s.2.toNat) ([], 0) ⟨okH_nil, by decide, by decide, by simp, by simp, by simp [hv]⟩ ?_ ?_
  · (refine AS.le_ren [(0, none)] ?_ ?_ rfl <;> simp only [slLeR, memLeR, entLeR, rn, entLe, lkS, lkM, Nat.reduceEqDiff, Nat.reduceLT, Nat.reduceAdd, or_true, true_or, reduceCtorEq, ↓reduceIte, and_true, true_and] <;> (repeat' with_reducible apply And.intro) <;> (try (first | exact AV.leR_ptr (Nat.le_of_ble_eq_true rfl) rfl | exact AV.leR_row (Nat.le_of_ble_eq_true rfl) rfl | exact AV.leR_nil (Nat.le_of_ble_eq_true rfl) rfl | exact AV.leR_ep (Nat.le_of_ble_eq_true rfl) rfl | ((with_reducible refine AV.leR_of rfl ?_); try (first | ((with_reducible refine AV.le_refl ?_); rfl) | with_reducible exact AV.le_junk | with_reducible exact AV.le_nil | ((with_reducible refine AV.le_int ?_); omega) | (with_reducible refine AV.le_int ?_) | (with_reducible refine AV.le_bool ?_) | ((with_reducible refine AV.le_lst ?_); try rfl) | (with_reducible refine AV.le_q ?_ ?_ ?_) | exact fun _ _ h => h | (with_reducible refine RC_qle ?_ ?_ ?_))) | exact fun _ _ h => h)))
    rfl
  rintro ⟨o, c⟩ ⟨ho, hc0, hc1, hlo, hlc, ht⟩
  dsimp only at ho hc0 hc1 hlo hlc ht ⊢
  have hxa := okH_getD hp3 o.length
  have hxb := okH_getD hp4 o.length
  have hda := hv_drop a o.length
  have hdb := hv_drop b o.length
  have hem := emit (out := o) (v := a.getD o.length 0 + b.getD o.length 0 + c) (rest := hv (a.drop (o.length + 1)) + hv (b.drop (o.length + 1))) (T := hv a + hv b) (by rw [← ht, hda, hdb]; congr 2; omega)
  have hln : (o ++ [(a.getD o.length 0 + b.getD o.length 0 + c) % 65536]).length = o.length + 1 := by simp
  rw [hln] at hem
  have hga : a.length ≤ o.length → a.getD o.length 0 = 0 := fun h => by rw [List.getD_eq_getElem?_getD, List.getElem?_eq_none h]; rfl
  have hgb : b.length ≤ o.length → b.getD o.length 0 = 0 := fun h => by rw [List.getD_eq_getElem?_getD, List.getElem?_eq_none h]; rfl
  repeat' (first | with_reducible refine run_seq ?_ | with_reducible refine run_block ?_ | with_reducible refine step_code ?_ | with_reducible refine step_blk ?_ | with_reducible refine run_skip ?_ | with_reducible refine run_exit ?_ | with_reducible refine exits_code ?_ | with_reducible refine exits_here ?_ | with_reducible refine exits_blk rfl ?_ | with_reducible refine exits_lp ?_ | with_reducible refine run_ret ?_ | ((first | with_reducible refine run_region ?_ | with_reducible refine run_draw (by kernel_rfl) ?_); simp only [↓guardP_tt, ↓guardP_tf, ↓guardP_ft, ↓guardP_ff, guardP_t, guardP_f, evalQ, evalR, effQ, effR, skipS, opEff, evO, plainV, lkS, lkM, updL, putS, tie_sz, tie_zero, tie_zeroB, tie_fld, tie_ek, tie_int, tie_isb, tie_eq2, tie_f1, tie_ms, tie2_sz, tie2_zero, tie2_zeroB, tie2_fld, tie2_ek, tie2_int, tie2_isb, tie2_eq2, tie2_f1, tie2_ms, ti_ek2, ti_f1, ti_ms, ti_sz, ti_zero, ti_zeroB, ti_fld, ti_ek, ti_int, ti_isb, ti_eq2, binA, binI, intOp, funOf_v, cloOf_v, calIds, appEff, frE, foldB, foldS, castL_self, K.enc, K.dec, K.zero, K.es, K.bytes, AV.part, AV.setPart, AV.cells, AV.agg, AV.nth, Bool.false_eq_true, callEff, pubs, pub, nilAV, MM.upd, MM.set, argS, gdst, opIds, lids, AV.ids, List.getD_cons_succ, List.getD_cons_zero, List.map, List.tail, List.headD, List.nil_append, List.append_nil, List.cons_append, List.length_nil, List.length_cons, List.zip_cons_cons, List.zip_nil_right, List.set_cons_zero, List.set_cons_succ, List.replicate, Option.isSome_some, Option.map_some, Bool.not_true, Bool.not_false, forall_const, false_implies, Nat.reduceAdd, Nat.reduceEqDiff, Nat.reduceLT, Nat.reduceSub, Nat.reduceMul, Nat.reduceLeDiff, ↓reduceIte, and_true, true_and, and_self, false_and, and_false, reduceCtorEq, envR51, ctAtH, ctTrimH, Int.toNat_natCast]) | (with_reducible refine run_cond (by with_unfolding_all exact rfl) ?_ ?_ <;> intro hc <;> (try simp only [vb, decide_eq_true_eq, decide_eq_false_iff_not, beq_iff_eq, beq_eq_false_iff_ne, bne_iff_ne, bne_eq_false_iff_eq, Bool.not_eq_true', Bool.not_eq_false', reduceCtorEq] at hc) <;> (try (first | simp (disch := omega) only [wrap64, wrapu64, wrapu32, sh32, fdiv32, Int.tdiv_eq_ediv_of_nonneg, Int.tmod_eq_emod_of_nonneg, tn_add, tn_add1, Int.toNat_natCast, Int.toNat_zero, List.drop_zero] at hc | simp only [wrapu64m, wrapu32m] at hc))) | ((with_reducible refine compat_ok ?_); kernel_rfl) | with_reducible apply And.intro | (first | simp (disch := omega) only [wrap64, wrapu64, wrapu32, sh32, fdiv32, Int.tdiv_eq_ediv_of_nonneg, Int.tmod_eq_emod_of_nonneg, tn_add, tn_add1, Int.toNat_natCast, Int.toNat_zero, List.drop_zero] | simp only [wrapu64m, wrapu32m]) | (with_reducible intro hg; (try simp only [vb, decide_eq_true_eq, decide_eq_false_iff_not, beq_iff_eq, beq_eq_false_iff_ne, bne_iff_ne, bne_eq_false_iff_eq, Bool.not_eq_true', Bool.not_eq_false', reduceCtorEq] at hg); (try (first | simp (disch := omega) only [wrap64, wrapu64, wrapu32, sh32, fdiv32, Int.tdiv_eq_ediv_of_nonneg, Int.tmod_eq_emod_of_nonneg, tn_add, tn_add1, Int.toNat_natCast, Int.toNat_zero, List.drop_zero] at hg | simp only [wrapu64m, wrapu32m] at hg))))
  all_goals try omega
  · (refine step_lp ⟨(o ++ [(a.getD o.length 0 + b.getD o.length 0 + c) % 65536], (a.getD o.length 0 + b.getD o.length 0 + c) / 65536), ⟨okH_app ho (okH_cons (by omega) okH_nil), by dsimp only; omega, by dsimp only; omega, by dsimp only; omega, by dsimp only; omega, by dsimp only; rw [hln]; rw [← hem]; congr 2; omega⟩, by dsimp only; omega, ?_⟩)
    dsimp only
    rw [hln]
    (refine AS.le_ren [(0, some 29)] ?_ ?_ rfl <;> simp only [slLeR, memLeR, entLeR, rn, entLe, lkS, lkM, Nat.reduceEqDiff, Nat.reduceLT, Nat.reduceAdd, or_true, true_or, reduceCtorEq, ↓reduceIte, and_true, true_and] <;> (repeat' with_reducible apply And.intro) <;> (try (first | exact AV.leR_ptr (Nat.le_of_ble_eq_true rfl) rfl | exact AV.leR_row (Nat.le_of_ble_eq_true rfl) rfl | exact AV.leR_nil (Nat.le_of_ble_eq_true rfl) rfl | exact AV.leR_ep (Nat.le_of_ble_eq_true rfl) rfl | ((with_reducible refine AV.leR_of rfl ?_); try (first | ((with_reducible refine AV.le_refl ?_); rfl) | with_reducible exact AV.le_junk | with_reducible exact AV.le_nil | ((with_reducible refine AV.le_int ?_); omega) | (with_reducible refine AV.le_int ?_) | (with_reducible refine AV.le_bool ?_) | ((with_reducible refine AV.le_lst ?_); try rfl) | (with_reducible refine AV.le_q ?_ ?_ ?_) | exact fun _ _ h => h | (with_reducible refine RC_qle ?_ ?_ ?_))) | exact fun _ _ h => h)))
  · simp only [finR, resAs, resA, resLe, lsLe, lkS, lkM, pubs, pub, tie_sz, ti_sz, tie_ek, ti_ek, tie2_sz, tie2_ek, ti_ek2, nilAV, MM.upd, MM.set, AV.part, AV.cells, AV.agg, List.tail, List.headD, Nat.reduceAdd, Nat.reduceEqDiff, Nat.reduceLT, ↓reduceIte, and_true, true_and, and_self, reduceCtorEq]
    have hz : c = 0 := by omega
    rw [hv_drop_all (by omega), hv_drop_all (by omega), hz] at ht
    refine AVle_lst ?_
    rw [trim_hd ho]
    congr 1
    simpa using ht
  · (refine step_lp ⟨(o ++ [(a.getD o.length 0 + b.getD o.length 0 + c) % 65536], (a.getD o.length 0 + b.getD o.length 0 + c) / 65536), ⟨okH_app ho (okH_cons (by omega) okH_nil), by dsimp only; omega, by dsimp only; omega, by dsimp only; omega, by dsimp only; omega, by dsimp only; rw [hln]; rw [← hem]; congr 2; omega⟩, by dsimp only; omega, ?_⟩)
    dsimp only
    rw [hln]
    (refine AS.le_ren [(0, some 27)] ?_ ?_ rfl <;> simp only [slLeR, memLeR, entLeR, rn, entLe, lkS, lkM, Nat.reduceEqDiff, Nat.reduceLT, Nat.reduceAdd, or_true, true_or, reduceCtorEq, ↓reduceIte, and_true, true_and] <;> (repeat' with_reducible apply And.intro) <;> (try (first | exact AV.leR_ptr (Nat.le_of_ble_eq_true rfl) rfl | exact AV.leR_row (Nat.le_of_ble_eq_true rfl) rfl | exact AV.leR_nil (Nat.le_of_ble_eq_true rfl) rfl | exact AV.leR_ep (Nat.le_of_ble_eq_true rfl) rfl | ((with_reducible refine AV.leR_of rfl ?_); try (first | ((with_reducible refine AV.le_refl ?_); rfl) | with_reducible exact AV.le_junk | with_reducible exact AV.le_nil | ((with_reducible refine AV.le_int ?_); omega) | (with_reducible refine AV.le_int ?_) | (with_reducible refine AV.le_bool ?_) | ((with_reducible refine AV.le_lst ?_); try rfl) | (with_reducible refine AV.le_q ?_ ?_ ?_) | exact fun _ _ h => h | (with_reducible refine RC_qle ?_ ?_ ?_))) | exact fun _ _ h => h)))
  · (refine step_lp ⟨(o ++ [(a.getD o.length 0 + b.getD o.length 0 + c) % 65536], (a.getD o.length 0 + b.getD o.length 0 + c) / 65536), ⟨okH_app ho (okH_cons (by omega) okH_nil), by dsimp only; omega, by dsimp only; omega, by dsimp only; omega, by dsimp only; omega, by dsimp only; rw [hln]; rw [← hem]; congr 2; omega⟩, by dsimp only; omega, ?_⟩)
    dsimp only
    rw [hln]
    (refine AS.le_ren [(0, some 23)] ?_ ?_ rfl <;> simp only [slLeR, memLeR, entLeR, rn, entLe, lkS, lkM, Nat.reduceEqDiff, Nat.reduceLT, Nat.reduceAdd, or_true, true_or, reduceCtorEq, ↓reduceIte, and_true, true_and] <;> (repeat' with_reducible apply And.intro) <;> (try (first | exact AV.leR_ptr (Nat.le_of_ble_eq_true rfl) rfl | exact AV.leR_row (Nat.le_of_ble_eq_true rfl) rfl | exact AV.leR_nil (Nat.le_of_ble_eq_true rfl) rfl | exact AV.leR_ep (Nat.le_of_ble_eq_true rfl) rfl | ((with_reducible refine AV.leR_of rfl ?_); try (first | ((with_reducible refine AV.le_refl ?_); rfl) | with_reducible exact AV.le_junk | with_reducible exact AV.le_nil | ((with_reducible refine AV.le_int ?_); omega) | (with_reducible refine AV.le_int ?_) | (with_reducible refine AV.le_bool ?_) | ((with_reducible refine AV.le_lst ?_); try rfl) | (with_reducible refine AV.le_q ?_ ?_ ?_) | exact fun _ _ h => h | (with_reducible refine RC_qle ?_ ?_ ?_))) | exact fun _ _ h => h)))
def ctSubH : Ct := fun l => match l with
  | [.lst .i64 a, .lst .i64 b] => some (a.length ≤ 1073741824 ∧ b.length ≤ 1073741824 ∧ okH a ∧ okH b ∧ hv b ≤ hv a, .lst .i64 (hd (hv a - hv b)))
  | _ => none
theorem ok129 : Sound Tryz.prog 129 ctSubH := by
  refine sound_of (fn := Tryz.f129) rfl rfl rfl tiOk envR51_ok mix ?_ (by intro l p r h; unfold ctSubH at h; split at h <;> cases h <;> exact Nat.le_of_ble_eq_true rfl)
  intro l p r h hp F vs hv
  unfold ctSubH at h
  split at h <;> cases h
  rename_i a b
  change List Int at a b
  obtain ⟨hp1, hp2, hp3, hp4, hp5⟩ := hp
  obtain ⟨v0, rest0, rfl, a0, hv⟩ := hv
  obtain ⟨v1, rest1, rfl, a1, hv⟩ := hv
  refine ⟨[_, _], ⟨_, _, rfl, a0, _, _, rfl, a1, hv⟩, ?_⟩
  clear hv
  show Run Tryz.prog ti envR51 34 (finR ti [.tmp 4] _) _ _ _
  repeat' (first | with_reducible refine run_seq ?_ | with_reducible refine run_block ?_ | with_reducible refine step_code ?_ | with_reducible refine step_blk ?_ | with_reducible refine run_skip ?_ | with_reducible refine run_exit ?_ | with_reducible refine exits_code ?_ | with_reducible refine exits_here ?_ | with_reducible refine exits_blk rfl ?_ | with_reducible refine exits_lp ?_ | with_reducible refine run_ret ?_ | ((first | with_reducible refine run_region ?_ | with_reducible refine run_draw (by kernel_rfl) ?_); simp only [↓guardP_tt, ↓guardP_tf, ↓guardP_ft, ↓guardP_ff, guardP_t, guardP_f, evalQ, evalR, effQ, effR, skipS, opEff, evO, plainV, lkS, lkM, updL, putS, tie_sz, tie_zero, tie_zeroB, tie_fld, tie_ek, tie_int, tie_isb, tie_eq2, tie_f1, tie_ms, tie2_sz, tie2_zero, tie2_zeroB, tie2_fld, tie2_ek, tie2_int, tie2_isb, tie2_eq2, tie2_f1, tie2_ms, ti_ek2, ti_f1, ti_ms, ti_sz, ti_zero, ti_zeroB, ti_fld, ti_ek, ti_int, ti_isb, ti_eq2, binA, binI, intOp, funOf_v, cloOf_v, calIds, appEff, frE, foldB, foldS, castL_self, K.enc, K.dec, K.zero, K.es, K.bytes, AV.part, AV.setPart, AV.cells, AV.agg, AV.nth, Bool.false_eq_true, callEff, pubs, pub, nilAV, MM.upd, MM.set, argS, gdst, opIds, lids, AV.ids, List.getD_cons_succ, List.getD_cons_zero, List.map, List.tail, List.headD, List.nil_append, List.append_nil, List.cons_append, List.length_nil, List.length_cons, List.zip_cons_cons, List.zip_nil_right, List.set_cons_zero, List.set_cons_succ, List.replicate, Option.isSome_some, Option.map_some, Bool.not_true, Bool.not_false, forall_const, false_implies, Nat.reduceAdd, Nat.reduceEqDiff, Nat.reduceLT, Nat.reduceSub, Nat.reduceMul, Nat.reduceLeDiff, ↓reduceIte, and_true, true_and, and_self, false_and, and_false, reduceCtorEq, envR51]) | (with_reducible refine run_cond (by with_unfolding_all exact rfl) ?_ ?_ <;> intro hc <;> (try simp only [vb, decide_eq_true_eq, decide_eq_false_iff_not, beq_iff_eq, beq_eq_false_iff_ne, bne_iff_ne, bne_eq_false_iff_eq, Bool.not_eq_true', Bool.not_eq_false', reduceCtorEq] at hc) <;> (try (first | simp (disch := omega) only [wrap64, wrapu64, wrapu32, sh32, fdiv32, Int.tdiv_eq_ediv_of_nonneg, Int.tmod_eq_emod_of_nonneg, tn_add, tn_add1, Int.toNat_natCast, Int.toNat_zero, List.drop_zero] at hc | simp only [wrapu64m, wrapu32m] at hc))) | ((with_reducible refine compat_ok ?_); kernel_rfl) | with_reducible apply And.intro | (first | simp (disch := omega) only [wrap64, wrapu64, wrapu32, sh32, fdiv32, Int.tdiv_eq_ediv_of_nonneg, Int.tmod_eq_emod_of_nonneg, tn_add, tn_add1, Int.toNat_natCast, Int.toNat_zero, List.drop_zero] | simp only [wrapu64m, wrapu32m]) | (with_reducible intro hg; (try simp only [vb, decide_eq_true_eq, decide_eq_false_iff_not, beq_iff_eq, beq_eq_false_iff_ne, bne_iff_ne, bne_eq_false_iff_eq, Bool.not_eq_true', Bool.not_eq_false', reduceCtorEq] at hg); (try (first | simp (disch := omega) only [wrap64, wrapu64, wrapu32, sh32, fdiv32, Int.tdiv_eq_ediv_of_nonneg, Int.tmod_eq_emod_of_nonneg, tn_add, tn_add1, Int.toNat_natCast, Int.toNat_zero, List.drop_zero] at hg | simp only [wrapu64m, wrapu32m] at hg))))
  all_goals try omega
  refine run_loop (ι := List Int × Int) (fun s => ⟨[(7, vi s.1.length), (6, vi s.2), (5, .row 0), (0, .lst .i64 a), (1, .lst .i64 b)], [(0, some (.row 3 .i64 s.1 false))], 1⟩)
    (fun s => okH s.1 ∧ 0 ≤ s.2 ∧ s.2 ≤ 1 ∧ s.1.length ≤ a.length ∧ hv s.1 + 65536 ^ s.1.length * (hv (a.drop s.1.length) - hv (b.drop s.1.length) - s.2) = hv a - hv b)
    (fun s => a.length - s.1.length) ([], 0) ⟨okH_nil, by decide, by decide, by simp, by simp [hv]⟩ ?_ ?_
  · (refine AS.le_ren [(0, none)] ?_ ?_ rfl <;> simp only [slLeR, memLeR, entLeR, rn, entLe, lkS, lkM, Nat.reduceEqDiff, Nat.reduceLT, Nat.reduceAdd, or_true, true_or, reduceCtorEq, ↓reduceIte, and_true, true_and] <;> (repeat' with_reducible apply And.intro) <;> (try (first | exact AV.leR_ptr (Nat.le_of_ble_eq_true rfl) rfl | exact AV.leR_row (Nat.le_of_ble_eq_true rfl) rfl | exact AV.leR_nil (Nat.le_of_ble_eq_true rfl) rfl | exact AV.leR_ep (Nat.le_of_ble_eq_true rfl) rfl | ((with_reducible refine AV.leR_of rfl ?_); try (first | ((with_reducible refine AV.le_refl ?_); rfl) | with_reducible exact AV.le_junk | with_reducible exact AV.le_nil | ((with_reducible refine AV.le_int ?_); omega) | (with_reducible refine AV.le_int ?_) | (with_reducible refine AV.le_bool ?_) | ((with_reducible refine AV.le_lst ?_); try rfl) | (with_reducible refine AV.le_q ?_ ?_ ?_) | exact fun _ _ h => h | (with_reducible refine RC_qle ?_ ?_ ?_))) | exact fun _ _ h => h)))
    rfl
  rintro ⟨o, c⟩ ⟨ho, hc0, hc1, hlo, ht⟩
  dsimp only at ho hc0 hc1 hlo ht ⊢
  have hxa := okH_getD hp3 o.length
  have hxb := okH_getD hp4 o.length
  have hda := hv_drop a o.length
  have hdb := hv_drop b o.length
  have hem := emit (out := o) (v := a.getD o.length 0 - b.getD o.length 0 - c) (rest := hv (a.drop (o.length + 1)) - hv (b.drop (o.length + 1))) (T := hv a - hv b) (by rw [← ht, hda, hdb]; congr 2; omega)
  have hln : ∀ x : Int, (o ++ [x]).length = o.length + 1 := by simp
  rw [hln] at hem
  repeat' (first | with_reducible refine run_seq ?_ | with_reducible refine run_block ?_ | with_reducible refine step_code ?_ | with_reducible refine step_blk ?_ | with_reducible refine run_skip ?_ | with_reducible refine run_exit ?_ | with_reducible refine exits_code ?_ | with_reducible refine exits_here ?_ | with_reducible refine exits_blk rfl ?_ | with_reducible refine exits_lp ?_ | with_reducible refine run_ret ?_ | ((first | with_reducible refine run_region ?_ | with_reducible refine run_draw (by kernel_rfl) ?_); simp only [↓guardP_tt, ↓guardP_tf, ↓guardP_ft, ↓guardP_ff, guardP_t, guardP_f, evalQ, evalR, effQ, effR, skipS, opEff, evO, plainV, lkS, lkM, updL, putS, tie_sz, tie_zero, tie_zeroB, tie_fld, tie_ek, tie_int, tie_isb, tie_eq2, tie_f1, tie_ms, tie2_sz, tie2_zero, tie2_zeroB, tie2_fld, tie2_ek, tie2_int, tie2_isb, tie2_eq2, tie2_f1, tie2_ms, ti_ek2, ti_f1, ti_ms, ti_sz, ti_zero, ti_zeroB, ti_fld, ti_ek, ti_int, ti_isb, ti_eq2, binA, binI, intOp, funOf_v, cloOf_v, calIds, appEff, frE, foldB, foldS, castL_self, K.enc, K.dec, K.zero, K.es, K.bytes, AV.part, AV.setPart, AV.cells, AV.agg, AV.nth, Bool.false_eq_true, callEff, pubs, pub, nilAV, MM.upd, MM.set, argS, gdst, opIds, lids, AV.ids, List.getD_cons_succ, List.getD_cons_zero, List.map, List.tail, List.headD, List.nil_append, List.append_nil, List.cons_append, List.length_nil, List.length_cons, List.zip_cons_cons, List.zip_nil_right, List.set_cons_zero, List.set_cons_succ, List.replicate, Option.isSome_some, Option.map_some, Bool.not_true, Bool.not_false, forall_const, false_implies, Nat.reduceAdd, Nat.reduceEqDiff, Nat.reduceLT, Nat.reduceSub, Nat.reduceMul, Nat.reduceLeDiff, ↓reduceIte, and_true, true_and, and_self, false_and, and_false, reduceCtorEq, envR51, ctAtH, ctTrimH, Int.toNat_natCast]) | (with_reducible refine run_cond (by with_unfolding_all exact rfl) ?_ ?_ <;> intro hc <;> (try simp only [vb, decide_eq_true_eq, decide_eq_false_iff_not, beq_iff_eq, beq_eq_false_iff_ne, bne_iff_ne, bne_eq_false_iff_eq, Bool.not_eq_true', Bool.not_eq_false', reduceCtorEq] at hc) <;> (try (first | simp (disch := omega) only [wrap64, wrapu64, wrapu32, sh32, fdiv32, Int.tdiv_eq_ediv_of_nonneg, Int.tmod_eq_emod_of_nonneg, tn_add, tn_add1, Int.toNat_natCast, Int.toNat_zero, List.drop_zero] at hc | simp only [wrapu64m, wrapu32m] at hc))) | ((with_reducible refine compat_ok ?_); kernel_rfl) | with_reducible apply And.intro | (first | simp (disch := omega) only [wrap64, wrapu64, wrapu32, sh32, fdiv32, Int.tdiv_eq_ediv_of_nonneg, Int.tmod_eq_emod_of_nonneg, tn_add, tn_add1, Int.toNat_natCast, Int.toNat_zero, List.drop_zero] | simp only [wrapu64m, wrapu32m]) | (with_reducible intro hg; (try simp only [vb, decide_eq_true_eq, decide_eq_false_iff_not, beq_iff_eq, beq_eq_false_iff_ne, bne_iff_ne, bne_eq_false_iff_eq, Bool.not_eq_true', Bool.not_eq_false', reduceCtorEq] at hg); (try (first | simp (disch := omega) only [wrap64, wrapu64, wrapu32, sh32, fdiv32, Int.tdiv_eq_ediv_of_nonneg, Int.tmod_eq_emod_of_nonneg, tn_add, tn_add1, Int.toNat_natCast, Int.toNat_zero, List.drop_zero] at hg | simp only [wrapu64m, wrapu32m] at hg))))
  all_goals try omega
  · refine step_lp ⟨(o ++ [a.getD o.length 0 - b.getD o.length 0 - c + 65536], 1), ⟨okH_app ho (okH_cons (by omega) okH_nil), by dsimp only; omega, by dsimp only; omega, by dsimp only; rw [hln]; omega, ?_⟩, by dsimp only; rw [hln]; omega, ?_⟩
    · dsimp only
      rw [hln]
      rw [show (a.getD o.length 0 - b.getD o.length 0 - c) % 65536 = a.getD o.length 0 - b.getD o.length 0 - c + 65536 by omega, show (a.getD o.length 0 - b.getD o.length 0 - c) / 65536 = -1 by omega] at hem
      rw [← hem]; congr 2; omega
    dsimp only
    rw [hln]
    (refine AS.le_ren [(0, some 25)] ?_ ?_ rfl <;> simp only [slLeR, memLeR, entLeR, rn, entLe, lkS, lkM, Nat.reduceEqDiff, Nat.reduceLT, Nat.reduceAdd, or_true, true_or, reduceCtorEq, ↓reduceIte, and_true, true_and] <;> (repeat' with_reducible apply And.intro) <;> (try (first | exact AV.leR_ptr (Nat.le_of_ble_eq_true rfl) rfl | exact AV.leR_row (Nat.le_of_ble_eq_true rfl) rfl | exact AV.leR_nil (Nat.le_of_ble_eq_true rfl) rfl | exact AV.leR_ep (Nat.le_of_ble_eq_true rfl) rfl | ((with_reducible refine AV.leR_of rfl ?_); try (first | ((with_reducible refine AV.le_refl ?_); rfl) | with_reducible exact AV.le_junk | with_reducible exact AV.le_nil | ((with_reducible refine AV.le_int ?_); omega) | (with_reducible refine AV.le_int ?_) | (with_reducible refine AV.le_bool ?_) | ((with_reducible refine AV.le_lst ?_); try rfl) | (with_reducible refine AV.le_q ?_ ?_ ?_) | exact fun _ _ h => h | (with_reducible refine RC_qle ?_ ?_ ?_))) | exact fun _ _ h => h)))
  · refine step_lp ⟨(o ++ [a.getD o.length 0 - b.getD o.length 0 - c], 0), ⟨okH_app ho (okH_cons (by omega) okH_nil), by dsimp only; omega, by dsimp only; omega, by dsimp only; rw [hln]; omega, ?_⟩, by dsimp only; rw [hln]; omega, ?_⟩
    · dsimp only
      rw [hln]
      rw [show (a.getD o.length 0 - b.getD o.length 0 - c) % 65536 = a.getD o.length 0 - b.getD o.length 0 - c by omega, show (a.getD o.length 0 - b.getD o.length 0 - c) / 65536 = 0 by omega] at hem
      rw [← hem]; congr 2; omega
    dsimp only
    rw [hln]
    (refine AS.le_ren [(0, some 21)] ?_ ?_ rfl <;> simp only [slLeR, memLeR, entLeR, rn, entLe, lkS, lkM, Nat.reduceEqDiff, Nat.reduceLT, Nat.reduceAdd, or_true, true_or, reduceCtorEq, ↓reduceIte, and_true, true_and] <;> (repeat' with_reducible apply And.intro) <;> (try (first | exact AV.leR_ptr (Nat.le_of_ble_eq_true rfl) rfl | exact AV.leR_row (Nat.le_of_ble_eq_true rfl) rfl | exact AV.leR_nil (Nat.le_of_ble_eq_true rfl) rfl | exact AV.leR_ep (Nat.le_of_ble_eq_true rfl) rfl | ((with_reducible refine AV.leR_of rfl ?_); try (first | ((with_reducible refine AV.le_refl ?_); rfl) | with_reducible exact AV.le_junk | with_reducible exact AV.le_nil | ((with_reducible refine AV.le_int ?_); omega) | (with_reducible refine AV.le_int ?_) | (with_reducible refine AV.le_bool ?_) | ((with_reducible refine AV.le_lst ?_); try rfl) | (with_reducible refine AV.le_q ?_ ?_ ?_) | exact fun _ _ h => h | (with_reducible refine RC_qle ?_ ?_ ?_))) | exact fun _ _ h => h)))
  · simp only [finR, resAs, resA, resLe, lsLe, lkS, lkM, pubs, pub, tie_sz, ti_sz, tie_ek, ti_ek, tie2_sz, tie2_ek, ti_ek2, nilAV, MM.upd, MM.set, AV.part, AV.cells, AV.agg, List.tail, List.headD, Nat.reduceAdd, Nat.reduceEqDiff, Nat.reduceLT, ↓reduceIte, and_true, true_and, and_self, reduceCtorEq]
    rw [hv_drop_all (l := a) (by omega)] at ht
    refine AVle_lst ?_
    rw [trim_hd ho, sub_end ho (by omega) (hv_nonneg (okH_drop hp4 _)) hc0 ht]
def ctTimesH : Ct := fun l => match l with
  | [.lst .i64 b, .v (.int .i64 n)] => some (b.length ≤ 1073741824 ∧ okH b ∧ 0 ≤ n ∧ n ≤ 65536, .lst .i64 (hd (hv b * n)))
  | _ => none
theorem ok147 : Sound Tryz.prog 147 ctTimesH := by
  refine sound_of (fn := Tryz.f147) rfl rfl rfl tiOk envR51_ok mix ?_ (by intro l p r h; unfold ctTimesH at h; split at h <;> cases h <;> exact Nat.le_of_ble_eq_true rfl)
  intro l p r h hp F vs hv
  unfold ctTimesH at h
  split at h <;> cases h
  rename_i b n
  change List Int at b
  obtain ⟨hp1, hp2, hp3, hp4⟩ := hp
  obtain ⟨v0, rest0, rfl, a0, hv⟩ := hv
  obtain ⟨v1, rest1, rfl, a1, hv⟩ := hv
  refine ⟨[_, _], ⟨_, _, rfl, a0, _, _, rfl, a1, hv⟩, ?_⟩
  clear hv
  show Run Tryz.prog ti envR51 35 (finR ti [.tmp 4] _) _ _ _
  repeat' (first | with_reducible refine run_seq ?_ | with_reducible refine run_block ?_ | with_reducible refine step_code ?_ | with_reducible refine step_blk ?_ | with_reducible refine run_skip ?_ | with_reducible refine run_exit ?_ | with_reducible refine exits_code ?_ | with_reducible refine exits_here ?_ | with_reducible refine exits_blk rfl ?_ | with_reducible refine exits_lp ?_ | with_reducible refine run_ret ?_ | ((first | with_reducible refine run_region ?_ | with_reducible refine run_draw (by kernel_rfl) ?_); simp only [↓guardP_tt, ↓guardP_tf, ↓guardP_ft, ↓guardP_ff, guardP_t, guardP_f, evalQ, evalR, effQ, effR, skipS, opEff, evO, plainV, lkS, lkM, updL, putS, tie_sz, tie_zero, tie_zeroB, tie_fld, tie_ek, tie_int, tie_isb, tie_eq2, tie_f1, tie_ms, tie2_sz, tie2_zero, tie2_zeroB, tie2_fld, tie2_ek, tie2_int, tie2_isb, tie2_eq2, tie2_f1, tie2_ms, ti_ek2, ti_f1, ti_ms, ti_sz, ti_zero, ti_zeroB, ti_fld, ti_ek, ti_int, ti_isb, ti_eq2, binA, binI, intOp, funOf_v, cloOf_v, calIds, appEff, frE, foldB, foldS, castL_self, K.enc, K.dec, K.zero, K.es, K.bytes, AV.part, AV.setPart, AV.cells, AV.agg, AV.nth, Bool.false_eq_true, callEff, pubs, pub, nilAV, MM.upd, MM.set, argS, gdst, opIds, lids, AV.ids, List.getD_cons_succ, List.getD_cons_zero, List.map, List.tail, List.headD, List.nil_append, List.append_nil, List.cons_append, List.length_nil, List.length_cons, List.zip_cons_cons, List.zip_nil_right, List.set_cons_zero, List.set_cons_succ, List.replicate, Option.isSome_some, Option.map_some, Bool.not_true, Bool.not_false, forall_const, false_implies, Nat.reduceAdd, Nat.reduceEqDiff, Nat.reduceLT, Nat.reduceSub, Nat.reduceMul, Nat.reduceLeDiff, ↓reduceIte, and_true, true_and, and_self, false_and, and_false, reduceCtorEq, envR51]) | (with_reducible refine run_cond (by with_unfolding_all exact rfl) ?_ ?_ <;> intro hc <;> (try simp only [vb, decide_eq_true_eq, decide_eq_false_iff_not, beq_iff_eq, beq_eq_false_iff_ne, bne_iff_ne, bne_eq_false_iff_eq, Bool.not_eq_true', Bool.not_eq_false', reduceCtorEq] at hc) <;> (try (first | simp (disch := omega) only [wrap64, wrapu64, wrapu32, sh32, fdiv32, Int.tdiv_eq_ediv_of_nonneg, Int.tmod_eq_emod_of_nonneg, tn_add, tn_add1, Int.toNat_natCast, Int.toNat_zero, List.drop_zero] at hc | simp only [wrapu64m, wrapu32m] at hc))) | ((with_reducible refine compat_ok ?_); kernel_rfl) | with_reducible apply And.intro | (first | simp (disch := omega) only [wrap64, wrapu64, wrapu32, sh32, fdiv32, Int.tdiv_eq_ediv_of_nonneg, Int.tmod_eq_emod_of_nonneg, tn_add, tn_add1, Int.toNat_natCast, Int.toNat_zero, List.drop_zero] | simp only [wrapu64m, wrapu32m]) | (with_reducible intro hg; (try simp only [vb, decide_eq_true_eq, decide_eq_false_iff_not, beq_iff_eq, beq_eq_false_iff_ne, bne_iff_ne, bne_eq_false_iff_eq, Bool.not_eq_true', Bool.not_eq_false', reduceCtorEq] at hg); (try (first | simp (disch := omega) only [wrap64, wrapu64, wrapu32, sh32, fdiv32, Int.tdiv_eq_ediv_of_nonneg, Int.tmod_eq_emod_of_nonneg, tn_add, tn_add1, Int.toNat_natCast, Int.toNat_zero, List.drop_zero] at hg | simp only [wrapu64m, wrapu32m] at hg))))
  all_goals try omega
  refine run_loop (ι := List Int × Int) (fun s => ⟨[(7, vi s.1.length), (6, vi s.2), (5, .row 0), (0, .lst .i64 b), (1, vi n)], [(0, some (.row 3 .i64 s.1 false))], 1⟩)
    (fun s => okH s.1 ∧ 0 ≤ s.2 ∧ s.2 ≤ 65535 ∧ s.1.length ≤ b.length + 1 ∧ (s.1.length = b.length + 1 → s.2 = 0) ∧ hv s.1 + 65536 ^ s.1.length * (s.2 + hv (b.drop s.1.length) * n) = hv b * n)
    (fun s => 2 * (b.length - s.1.length) + if s.2 = 0 then 0 else 1) ([], 0) ⟨okH_nil, by decide, by decide, by simp, by simp, by simp [hv]⟩ ?_ ?_
  · (refine AS.le_ren [(0, none)] ?_ ?_ rfl <;> simp only [slLeR, memLeR, entLeR, rn, entLe, lkS, lkM, Nat.reduceEqDiff, Nat.reduceLT, Nat.reduceAdd, or_true, true_or, reduceCtorEq, ↓reduceIte, and_true, true_and] <;> (repeat' with_reducible apply And.intro) <;> (try (first | exact AV.leR_ptr (Nat.le_of_ble_eq_true rfl) rfl | exact AV.leR_row (Nat.le_of_ble_eq_true rfl) rfl | exact AV.leR_nil (Nat.le_of_ble_eq_true rfl) rfl | exact AV.leR_ep (Nat.le_of_ble_eq_true rfl) rfl | ((with_reducible refine AV.leR_of rfl ?_); try (first | ((with_reducible refine AV.le_refl ?_); rfl) | with_reducible exact AV.le_junk | with_reducible exact AV.le_nil | ((with_reducible refine AV.le_int ?_); omega) | (with_reducible refine AV.le_int ?_) | (with_reducible refine AV.le_bool ?_) | ((with_reducible refine AV.le_lst ?_); try rfl) | (with_reducible refine AV.le_q ?_ ?_ ?_) | exact fun _ _ h => h | (with_reducible refine RC_qle ?_ ?_ ?_))) | exact fun _ _ h => h)))
    rfl
  rintro ⟨o, c⟩ ⟨ho, hc0, hc1, hlo, hlc, ht⟩
  dsimp only at ho hc0 hc1 hlo hlc ht ⊢
  have hxb := okH_getD hp2 o.length
  have hdb := hv_drop b o.length
  have hm0 : 0 ≤ b.getD o.length 0 * n := Int.mul_nonneg hxb.1 hp3
  have hm1 : b.getD o.length 0 * n ≤ 65535 * n := Int.mul_le_mul_of_nonneg_right (by omega) hp3
  have hem := emit (out := o) (v := b.getD o.length 0 * n + c) (rest := hv (b.drop (o.length + 1)) * n) (T := hv b * n) (by rw [← ht, hdb, Int.add_mul, Int.mul_assoc]; congr 2; omega)
  have hln : (o ++ [(b.getD o.length 0 * n + c) % 65536]).length = o.length + 1 := by simp
  rw [hln] at hem
  have hgb : b.length ≤ o.length → b.getD o.length 0 * n = 0 := fun h => by rw [List.getD_eq_getElem?_getD, List.getElem?_eq_none h]; simp
  generalize hM : b.getD o.length 0 * n = M at hem hln hgb hm0 hm1
  repeat' (first | with_reducible refine run_seq ?_ | with_reducible refine run_block ?_ | with_reducible refine step_code ?_ | with_reducible refine step_blk ?_ | with_reducible refine run_skip ?_ | with_reducible refine run_exit ?_ | with_reducible refine exits_code ?_ | with_reducible refine exits_here ?_ | with_reducible refine exits_blk rfl ?_ | with_reducible refine exits_lp ?_ | with_reducible refine run_ret ?_ | ((first | with_reducible refine run_region ?_ | with_reducible refine run_draw (by kernel_rfl) ?_); simp only [↓guardP_tt, ↓guardP_tf, ↓guardP_ft, ↓guardP_ff, guardP_t, guardP_f, evalQ, evalR, effQ, effR, skipS, opEff, evO, plainV, lkS, lkM, updL, putS, tie_sz, tie_zero, tie_zeroB, tie_fld, tie_ek, tie_int, tie_isb, tie_eq2, tie_f1, tie_ms, tie2_sz, tie2_zero, tie2_zeroB, tie2_fld, tie2_ek, tie2_int, tie2_isb, tie2_eq2, tie2_f1, tie2_ms, ti_ek2, ti_f1, ti_ms, ti_sz, ti_zero, ti_zeroB, ti_fld, ti_ek, ti_int, ti_isb, ti_eq2, binA, binI, intOp, funOf_v, cloOf_v, calIds, appEff, frE, foldB, foldS, castL_self, K.enc, K.dec, K.zero, K.es, K.bytes, AV.part, AV.setPart, AV.cells, AV.agg, AV.nth, Bool.false_eq_true, callEff, pubs, pub, nilAV, MM.upd, MM.set, argS, gdst, opIds, lids, AV.ids, List.getD_cons_succ, List.getD_cons_zero, List.map, List.tail, List.headD, List.nil_append, List.append_nil, List.cons_append, List.length_nil, List.length_cons, List.zip_cons_cons, List.zip_nil_right, List.set_cons_zero, List.set_cons_succ, List.replicate, Option.isSome_some, Option.map_some, Bool.not_true, Bool.not_false, forall_const, false_implies, Nat.reduceAdd, Nat.reduceEqDiff, Nat.reduceLT, Nat.reduceSub, Nat.reduceMul, Nat.reduceLeDiff, ↓reduceIte, and_true, true_and, and_self, false_and, and_false, reduceCtorEq, envR51, ctAtH, ctTrimH, Int.toNat_natCast, hM]) | (with_reducible refine run_cond (by with_unfolding_all exact rfl) ?_ ?_ <;> intro hc <;> (try simp only [vb, decide_eq_true_eq, decide_eq_false_iff_not, beq_iff_eq, beq_eq_false_iff_ne, bne_iff_ne, bne_eq_false_iff_eq, Bool.not_eq_true', Bool.not_eq_false', reduceCtorEq] at hc) <;> (try (first | simp (disch := omega) only [wrap64, wrapu64, wrapu32, sh32, fdiv32, Int.tdiv_eq_ediv_of_nonneg, Int.tmod_eq_emod_of_nonneg, tn_add, tn_add1, Int.toNat_natCast, Int.toNat_zero, List.drop_zero] at hc | simp only [wrapu64m, wrapu32m] at hc))) | ((with_reducible refine compat_ok ?_); kernel_rfl) | with_reducible apply And.intro | (first | simp (disch := omega) only [wrap64, wrapu64, wrapu32, sh32, fdiv32, Int.tdiv_eq_ediv_of_nonneg, Int.tmod_eq_emod_of_nonneg, tn_add, tn_add1, Int.toNat_natCast, Int.toNat_zero, List.drop_zero] | simp only [wrapu64m, wrapu32m]) | (with_reducible intro hg; (try simp only [vb, decide_eq_true_eq, decide_eq_false_iff_not, beq_iff_eq, beq_eq_false_iff_ne, bne_iff_ne, bne_eq_false_iff_eq, Bool.not_eq_true', Bool.not_eq_false', reduceCtorEq] at hg); (try (first | simp (disch := omega) only [wrap64, wrapu64, wrapu32, sh32, fdiv32, Int.tdiv_eq_ediv_of_nonneg, Int.tmod_eq_emod_of_nonneg, tn_add, tn_add1, Int.toNat_natCast, Int.toNat_zero, List.drop_zero] at hg | simp only [wrapu64m, wrapu32m] at hg))))
  all_goals try omega
  · refine step_lp ⟨(o ++ [(M + c) % 65536], (M + c) / 65536), ⟨okH_app ho (okH_cons (by omega) okH_nil), by dsimp only; omega, by dsimp only; omega, by dsimp only; omega, by dsimp only; omega, by dsimp only; rw [hln]; exact hem⟩, ?_, ?_⟩
    · dsimp only
      rw [hln, if_neg (show ¬ c = 0 by omega), if_pos (show (M + c) / 65536 = 0 by have := hgb (by omega); omega)]
      omega
    dsimp only
    rw [hln]
    (refine AS.le_ren [(0, some 21)] ?_ ?_ rfl <;> simp only [slLeR, memLeR, entLeR, rn, entLe, lkS, lkM, Nat.reduceEqDiff, Nat.reduceLT, Nat.reduceAdd, or_true, true_or, reduceCtorEq, ↓reduceIte, and_true, true_and] <;> (repeat' with_reducible apply And.intro) <;> (try (first | exact AV.leR_ptr (Nat.le_of_ble_eq_true rfl) rfl | exact AV.leR_row (Nat.le_of_ble_eq_true rfl) rfl | exact AV.leR_nil (Nat.le_of_ble_eq_true rfl) rfl | exact AV.leR_ep (Nat.le_of_ble_eq_true rfl) rfl | ((with_reducible refine AV.leR_of rfl ?_); try (first | ((with_reducible refine AV.le_refl ?_); rfl) | with_reducible exact AV.le_junk | with_reducible exact AV.le_nil | ((with_reducible refine AV.le_int ?_); omega) | (with_reducible refine AV.le_int ?_) | (with_reducible refine AV.le_bool ?_) | ((with_reducible refine AV.le_lst ?_); try rfl) | (with_reducible refine AV.le_q ?_ ?_ ?_) | exact fun _ _ h => h | (with_reducible refine RC_qle ?_ ?_ ?_))) | exact fun _ _ h => h)))
  · simp only [finR, resAs, resA, resLe, lsLe, lkS, lkM, pubs, pub, tie_sz, ti_sz, tie_ek, ti_ek, tie2_sz, tie2_ek, ti_ek2, nilAV, MM.upd, MM.set, AV.part, AV.cells, AV.agg, List.tail, List.headD, Nat.reduceAdd, Nat.reduceEqDiff, Nat.reduceLT, ↓reduceIte, and_true, true_and, and_self, reduceCtorEq]
    have hz : c = 0 := by omega
    rw [hv_drop_all (by omega), hz] at ht
    refine AVle_lst ?_
    rw [trim_hd ho]
    congr 1
    simpa using ht
  · refine step_lp ⟨(o ++ [(M + c) % 65536], (M + c) / 65536), ⟨okH_app ho (okH_cons (by omega) okH_nil), by dsimp only; omega, by dsimp only; omega, by dsimp only; omega, by dsimp only; omega, by dsimp only; rw [hln]; exact hem⟩, ?_, ?_⟩
    · dsimp only
      rw [hln]
      split <;> split <;> omega
    dsimp only
    rw [hln]
    (refine AS.le_ren [(0, some 19)] ?_ ?_ rfl <;> simp only [slLeR, memLeR, entLeR, rn, entLe, lkS, lkM, Nat.reduceEqDiff, Nat.reduceLT, Nat.reduceAdd, or_true, true_or, reduceCtorEq, ↓reduceIte, and_true, true_and] <;> (repeat' with_reducible apply And.intro) <;> (try (first | exact AV.leR_ptr (Nat.le_of_ble_eq_true rfl) rfl | exact AV.leR_row (Nat.le_of_ble_eq_true rfl) rfl | exact AV.leR_nil (Nat.le_of_ble_eq_true rfl) rfl | exact AV.leR_ep (Nat.le_of_ble_eq_true rfl) rfl | ((with_reducible refine AV.leR_of rfl ?_); try (first | ((with_reducible refine AV.le_refl ?_); rfl) | with_reducible exact AV.le_junk | with_reducible exact AV.le_nil | ((with_reducible refine AV.le_int ?_); omega) | (with_reducible refine AV.le_int ?_) | (with_reducible refine AV.le_bool ?_) | ((with_reducible refine AV.le_lst ?_); try rfl) | (with_reducible refine AV.le_q ?_ ?_ ?_) | exact fun _ _ h => h | (with_reducible refine RC_qle ?_ ?_ ?_))) | exact fun _ _ h => h)))
def ctSmallH : Ct := fun l => match l with
  | [.lst .i64 a] => some (a.length ≤ 3 ∧ okH a, vi (hv a))
  | _ => none
theorem ok146 : Sound Tryz.prog 146 ctSmallH := by
  refine sound_of (fn := Tryz.f146) rfl rfl rfl tiOk env0_ok mix ?_ (by intro l p r h; unfold ctSmallH at h; split at h <;> cases h <;> exact Nat.le_of_ble_eq_true rfl)
  intro l p r h hp F vs hv
  unfold ctSmallH at h
  split at h <;> cases h
  rename_i a
  change List Int at a
  obtain ⟨hp1, hp2⟩ := hp
  obtain ⟨v0, rest0, rfl, a0, hv⟩ := hv
  refine ⟨[_], ⟨_, _, rfl, a0, hv⟩, ?_⟩
  clear hv
  show Run Tryz.prog ti env0 20 (finR ti [.tmp 2] _) _ _ _
  repeat' (first | with_reducible refine run_seq ?_ | with_reducible refine run_block ?_ | with_reducible refine step_code ?_ | with_reducible refine step_blk ?_ | with_reducible refine run_skip ?_ | with_reducible refine run_exit ?_ | with_reducible refine exits_code ?_ | with_reducible refine exits_here ?_ | with_reducible refine exits_blk rfl ?_ | with_reducible refine exits_lp ?_ | with_reducible refine run_ret ?_ | ((first | with_reducible refine run_region ?_ | with_reducible refine run_draw (by kernel_rfl) ?_); simp only [↓guardP_tt, ↓guardP_tf, ↓guardP_ft, ↓guardP_ff, guardP_t, guardP_f, evalQ, evalR, effQ, effR, skipS, opEff, evO, plainV, lkS, lkM, updL, putS, tie_sz, tie_zero, tie_zeroB, tie_fld, tie_ek, tie_int, tie_isb, tie_eq2, tie_f1, tie_ms, tie2_sz, tie2_zero, tie2_zeroB, tie2_fld, tie2_ek, tie2_int, tie2_isb, tie2_eq2, tie2_f1, tie2_ms, ti_ek2, ti_f1, ti_ms, ti_sz, ti_zero, ti_zeroB, ti_fld, ti_ek, ti_int, ti_isb, ti_eq2, binA, binI, intOp, funOf_v, cloOf_v, calIds, appEff, frE, foldB, foldS, castL_self, K.enc, K.dec, K.zero, K.es, K.bytes, AV.part, AV.setPart, AV.cells, AV.agg, AV.nth, Bool.false_eq_true, callEff, pubs, pub, nilAV, MM.upd, MM.set, argS, gdst, opIds, lids, AV.ids, List.getD_cons_succ, List.getD_cons_zero, List.map, List.tail, List.headD, List.nil_append, List.append_nil, List.cons_append, List.length_nil, List.length_cons, List.zip_cons_cons, List.zip_nil_right, List.set_cons_zero, List.set_cons_succ, List.replicate, Option.isSome_some, Option.map_some, Bool.not_true, Bool.not_false, forall_const, false_implies, Nat.reduceAdd, Nat.reduceEqDiff, Nat.reduceLT, Nat.reduceSub, Nat.reduceMul, Nat.reduceLeDiff, ↓reduceIte, and_true, true_and, and_self, false_and, and_false, reduceCtorEq, env0]) | (with_reducible refine run_cond (by with_unfolding_all exact rfl) ?_ ?_ <;> intro hc <;> (try simp only [vb, decide_eq_true_eq, decide_eq_false_iff_not, beq_iff_eq, beq_eq_false_iff_ne, bne_iff_ne, bne_eq_false_iff_eq, Bool.not_eq_true', Bool.not_eq_false', reduceCtorEq] at hc) <;> (try (first | simp (disch := omega) only [wrap64, wrapu64, wrapu32, sh32, fdiv32, Int.tdiv_eq_ediv_of_nonneg, Int.tmod_eq_emod_of_nonneg, tn_add, tn_add1, Int.toNat_natCast, Int.toNat_zero, List.drop_zero] at hc | simp only [wrapu64m, wrapu32m] at hc))) | ((with_reducible refine compat_ok ?_); kernel_rfl) | with_reducible apply And.intro | (first | simp (disch := omega) only [wrap64, wrapu64, wrapu32, sh32, fdiv32, Int.tdiv_eq_ediv_of_nonneg, Int.tmod_eq_emod_of_nonneg, tn_add, tn_add1, Int.toNat_natCast, Int.toNat_zero, List.drop_zero] | simp only [wrapu64m, wrapu32m]) | (with_reducible intro hg; (try simp only [vb, decide_eq_true_eq, decide_eq_false_iff_not, beq_iff_eq, beq_eq_false_iff_ne, bne_iff_ne, bne_eq_false_iff_eq, Bool.not_eq_true', Bool.not_eq_false', reduceCtorEq] at hg); (try (first | simp (disch := omega) only [wrap64, wrapu64, wrapu32, sh32, fdiv32, Int.tdiv_eq_ediv_of_nonneg, Int.tmod_eq_emod_of_nonneg, tn_add, tn_add1, Int.toNat_natCast, Int.toNat_zero, List.drop_zero] at hg | simp only [wrapu64m, wrapu32m] at hg))))
  all_goals try omega
  refine run_loop (ι := Nat) (fun n => ⟨[(4, vi ((n : Int) - 1)), (3, vi (hv (a.drop n))), (0, .lst .i64 a)], [], 0⟩) (fun n => n ≤ a.length) (fun n => n) a.length (Nat.le_refl _) ?_ ?_
  · rw [hv_drop_all (Nat.le_refl _)]
    (refine AS.le_of ?_ ?_ <;> simp only [slLe, memLe, entLe, lkS, lkM, Nat.reduceEqDiff, Nat.reduceLT, or_true, true_or, reduceCtorEq, ↓reduceIte, and_true, true_and] <;> (repeat' with_reducible apply And.intro) <;> (try (first | ((with_reducible refine AV.le_refl ?_); rfl) | with_reducible exact AV.le_junk | with_reducible exact AV.le_nil | ((with_reducible refine AV.le_int ?_); omega) | (with_reducible refine AV.le_int ?_) | (with_reducible refine AV.le_bool ?_) | ((with_reducible refine AV.le_lst ?_); try rfl) | (with_reducible refine AV.le_q ?_ ?_ ?_) | exact fun _ _ h => h | (with_reducible refine RC_qle ?_ ?_ ?_))))
  intro n hn
  have hxa := okH_getD hp2 (n - 1)
  have hda : 0 < n → hv (a.drop (n - 1)) = a.getD (n - 1) 0 + 65536 * hv (a.drop n) := fun h => by rw [hv_drop a (n - 1), show n - 1 + 1 = n by omega]
  have h0 := hv_small (okH_drop hp2 n) (by simp; omega)
  have h1 := hv_small (okH_drop hp2 (n - 1)) (by simp; omega)
  repeat' (first | with_reducible refine run_seq ?_ | with_reducible refine run_block ?_ | with_reducible refine step_code ?_ | with_reducible refine step_blk ?_ | with_reducible refine run_skip ?_ | with_reducible refine run_exit ?_ | with_reducible refine exits_code ?_ | with_reducible refine exits_here ?_ | with_reducible refine exits_blk rfl ?_ | with_reducible refine exits_lp ?_ | with_reducible refine run_ret ?_ | ((first | with_reducible refine run_region ?_ | with_reducible refine run_draw (by kernel_rfl) ?_); simp only [↓guardP_tt, ↓guardP_tf, ↓guardP_ft, ↓guardP_ff, guardP_t, guardP_f, evalQ, evalR, effQ, effR, skipS, opEff, evO, plainV, lkS, lkM, updL, putS, tie_sz, tie_zero, tie_zeroB, tie_fld, tie_ek, tie_int, tie_isb, tie_eq2, tie_f1, tie_ms, tie2_sz, tie2_zero, tie2_zeroB, tie2_fld, tie2_ek, tie2_int, tie2_isb, tie2_eq2, tie2_f1, tie2_ms, ti_ek2, ti_f1, ti_ms, ti_sz, ti_zero, ti_zeroB, ti_fld, ti_ek, ti_int, ti_isb, ti_eq2, binA, binI, intOp, funOf_v, cloOf_v, calIds, appEff, frE, foldB, foldS, castL_self, K.enc, K.dec, K.zero, K.es, K.bytes, AV.part, AV.setPart, AV.cells, AV.agg, AV.nth, Bool.false_eq_true, callEff, pubs, pub, nilAV, MM.upd, MM.set, argS, gdst, opIds, lids, AV.ids, List.getD_cons_succ, List.getD_cons_zero, List.map, List.tail, List.headD, List.nil_append, List.append_nil, List.cons_append, List.length_nil, List.length_cons, List.zip_cons_cons, List.zip_nil_right, List.set_cons_zero, List.set_cons_succ, List.replicate, Option.isSome_some, Option.map_some, Bool.not_true, Bool.not_false, forall_const, false_implies, Nat.reduceAdd, Nat.reduceEqDiff, Nat.reduceLT, Nat.reduceSub, Nat.reduceMul, Nat.reduceLeDiff, ↓reduceIte, and_true, true_and, and_self, false_and, and_false, reduceCtorEq, env0, tnm1]) | (with_reducible refine run_cond (by with_unfolding_all exact rfl) ?_ ?_ <;> intro hc <;> (try simp only [vb, decide_eq_true_eq, decide_eq_false_iff_not, beq_iff_eq, beq_eq_false_iff_ne, bne_iff_ne, bne_eq_false_iff_eq, Bool.not_eq_true', Bool.not_eq_false', reduceCtorEq] at hc) <;> (try (first | simp (disch := omega) only [wrap64, wrapu64, wrapu32, sh32, fdiv32, Int.tdiv_eq_ediv_of_nonneg, Int.tmod_eq_emod_of_nonneg, tn_add, tn_add1, Int.toNat_natCast, Int.toNat_zero, List.drop_zero] at hc | simp only [wrapu64m, wrapu32m] at hc))) | ((with_reducible refine compat_ok ?_); kernel_rfl) | with_reducible apply And.intro | (first | simp (disch := omega) only [wrap64, wrapu64, wrapu32, sh32, fdiv32, Int.tdiv_eq_ediv_of_nonneg, Int.tmod_eq_emod_of_nonneg, tn_add, tn_add1, Int.toNat_natCast, Int.toNat_zero, List.drop_zero] | simp only [wrapu64m, wrapu32m]) | (with_reducible intro hg; (try simp only [vb, decide_eq_true_eq, decide_eq_false_iff_not, beq_iff_eq, beq_eq_false_iff_ne, bne_iff_ne, bne_eq_false_iff_eq, Bool.not_eq_true', Bool.not_eq_false', reduceCtorEq] at hg); (try (first | simp (disch := omega) only [wrap64, wrapu64, wrapu32, sh32, fdiv32, Int.tdiv_eq_ediv_of_nonneg, Int.tmod_eq_emod_of_nonneg, tn_add, tn_add1, Int.toNat_natCast, Int.toNat_zero, List.drop_zero] at hg | simp only [wrapu64m, wrapu32m] at hg))))
  all_goals try omega
  · refine step_lp ⟨n - 1, by omega, by omega, ?_⟩
    rw [hda (by omega)]
    (refine AS.le_of ?_ ?_ <;> simp only [slLe, memLe, entLe, lkS, lkM, Nat.reduceEqDiff, Nat.reduceLT, or_true, true_or, reduceCtorEq, ↓reduceIte, and_true, true_and] <;> (repeat' with_reducible apply And.intro) <;> (try (first | ((with_reducible refine AV.le_refl ?_); rfl) | with_reducible exact AV.le_junk | with_reducible exact AV.le_nil | ((with_reducible refine AV.le_int ?_); omega) | (with_reducible refine AV.le_int ?_) | (with_reducible refine AV.le_bool ?_) | ((with_reducible refine AV.le_lst ?_); try rfl) | (with_reducible refine AV.le_q ?_ ?_ ?_) | exact fun _ _ h => h | (with_reducible refine RC_qle ?_ ?_ ?_))))
  · have : n = 0 := by omega
    subst this
    simp only [finR, resAs, resA, resLe, lsLe, lkS, lkM, pubs, pub, tie_sz, ti_sz, tie_ek, ti_ek, tie2_sz, tie2_ek, ti_ek2, nilAV, MM.upd, MM.set, AV.part, AV.cells, AV.agg, List.tail, List.headD, Nat.reduceAdd, Nat.reduceEqDiff, Nat.reduceLT, ↓reduceIte, and_true, true_and, and_self, reduceCtorEq]
    exact AVle_int (by simp)
def envR52 : Env := fun g => match g with | 142 => some ctTrimH | _ => none
theorem envR52_ok : EnvOk Tryz.prog envR52 := by
  intro g ct h
  simp only [envR52] at h
  split at h <;> first | (cases h; exact ok142) | cases h
def ctBackH : Ct := fun l => match l with
  | [.v (.int .i64 v)] => some (0 ≤ v ∧ v < 281474976710656, .lst .i64 (hd v))
  | _ => none
theorem ok145 : Sound Tryz.prog 145 ctBackH := by
  refine sound_of (fn := Tryz.f145) rfl rfl rfl tiOk envR52_ok mix ?_ (by intro l p r h; unfold ctBackH at h; split at h <;> cases h <;> exact Nat.le_of_ble_eq_true rfl)
  intro l p r h hp F vs hv
  unfold ctBackH at h
  split at h <;> cases h
  rename_i v
  obtain ⟨hp1, hp2⟩ := hp
  obtain ⟨v0, rest0, rfl, a0, hv⟩ := hv
  refine ⟨[_], ⟨_, _, rfl, a0, hv⟩, ?_⟩
  clear hv
  show Run Tryz.prog ti envR52 13 (finR ti [.tmp 2] _) _ _ _
  repeat' (first | with_reducible refine run_seq ?_ | with_reducible refine run_block ?_ | with_reducible refine step_code ?_ | with_reducible refine step_blk ?_ | with_reducible refine run_skip ?_ | with_reducible refine run_exit ?_ | with_reducible refine exits_code ?_ | with_reducible refine exits_here ?_ | with_reducible refine exits_blk rfl ?_ | with_reducible refine exits_lp ?_ | with_reducible refine run_ret ?_ | ((first | with_reducible refine run_region ?_ | with_reducible refine run_draw (by kernel_rfl) ?_); simp only [↓guardP_tt, ↓guardP_tf, ↓guardP_ft, ↓guardP_ff, guardP_t, guardP_f, evalQ, evalR, effQ, effR, skipS, opEff, evO, plainV, lkS, lkM, updL, putS, tie_sz, tie_zero, tie_zeroB, tie_fld, tie_ek, tie_int, tie_isb, tie_eq2, tie_f1, tie_ms, tie2_sz, tie2_zero, tie2_zeroB, tie2_fld, tie2_ek, tie2_int, tie2_isb, tie2_eq2, tie2_f1, tie2_ms, ti_ek2, ti_f1, ti_ms, ti_sz, ti_zero, ti_zeroB, ti_fld, ti_ek, ti_int, ti_isb, ti_eq2, binA, binI, intOp, funOf_v, cloOf_v, calIds, appEff, frE, foldB, foldS, castL_self, K.enc, K.dec, K.zero, K.es, K.bytes, AV.part, AV.setPart, AV.cells, AV.agg, AV.nth, Bool.false_eq_true, callEff, pubs, pub, nilAV, MM.upd, MM.set, argS, gdst, opIds, lids, AV.ids, List.getD_cons_succ, List.getD_cons_zero, List.map, List.tail, List.headD, List.nil_append, List.append_nil, List.cons_append, List.length_nil, List.length_cons, List.zip_cons_cons, List.zip_nil_right, List.set_cons_zero, List.set_cons_succ, List.replicate, Option.isSome_some, Option.map_some, Bool.not_true, Bool.not_false, forall_const, false_implies, Nat.reduceAdd, Nat.reduceEqDiff, Nat.reduceLT, Nat.reduceSub, Nat.reduceMul, Nat.reduceLeDiff, ↓reduceIte, and_true, true_and, and_self, false_and, and_false, reduceCtorEq, envR52, ctTrimH]) | (with_reducible refine run_cond (by with_unfolding_all exact rfl) ?_ ?_ <;> intro hc <;> (try simp only [vb, decide_eq_true_eq, decide_eq_false_iff_not, beq_iff_eq, beq_eq_false_iff_ne, bne_iff_ne, bne_eq_false_iff_eq, Bool.not_eq_true', Bool.not_eq_false', reduceCtorEq] at hc) <;> (try (first | simp (disch := omega) only [wrap64, wrapu64, wrapu32, sh32, fdiv32, Int.tdiv_eq_ediv_of_nonneg, Int.tmod_eq_emod_of_nonneg, tn_add, tn_add1, Int.toNat_natCast, Int.toNat_zero, List.drop_zero] at hc | simp only [wrapu64m, wrapu32m] at hc))) | ((with_reducible refine compat_ok ?_); kernel_rfl) | with_reducible apply And.intro | (first | simp (disch := omega) only [wrap64, wrapu64, wrapu32, sh32, fdiv32, Int.tdiv_eq_ediv_of_nonneg, Int.tmod_eq_emod_of_nonneg, tn_add, tn_add1, Int.toNat_natCast, Int.toNat_zero, List.drop_zero] | simp only [wrapu64m, wrapu32m]) | (with_reducible intro hg; (try simp only [vb, decide_eq_true_eq, decide_eq_false_iff_not, beq_iff_eq, beq_eq_false_iff_ne, bne_iff_ne, bne_eq_false_iff_eq, Bool.not_eq_true', Bool.not_eq_false', reduceCtorEq] at hg); (try (first | simp (disch := omega) only [wrap64, wrapu64, wrapu32, sh32, fdiv32, Int.tdiv_eq_ediv_of_nonneg, Int.tmod_eq_emod_of_nonneg, tn_add, tn_add1, Int.toNat_natCast, Int.toNat_zero, List.drop_zero] at hg | simp only [wrapu64m, wrapu32m] at hg))))
  all_goals try omega
  · simp only [finR, resAs, resA, resLe, lsLe, lkS, lkM, pubs, pub, tie_sz, ti_sz, tie_ek, ti_ek, tie2_sz, tie2_ek, ti_ek2, nilAV, MM.upd, MM.set, AV.part, AV.cells, AV.agg, List.tail, List.headD, Nat.reduceAdd, Nat.reduceEqDiff, Nat.reduceLT, ↓reduceIte, and_true, true_and, and_self, reduceCtorEq]
    refine AVle_lst ?_
    rw [trim_hd (okH_cons (by omega) (okH_cons (by omega) (okH_cons (by omega) okH_nil)))]
    congr 1
    simp only [hv]
    omega
end Go.AE

/- Contract: the reference's long division on digits. -/
namespace Go.AE
open Go.Proofs Go.RowKit
set_option linter.unusedVariables false
set_option linter.unusedSimpArgs false
set_option maxRecDepth 20000

theorem div_mod {a b q r : Int} (hb : 0 < b) (h : a = q * b + r) (h0 : 0 ≤ r) (h1 : r < b) : q = a / b ∧ r = a % b := by
  have := (Int.ediv_emod_unique hb (a := a) (q := q) (r := r)).2 ⟨by rw [h, Int.mul_comm b q]; omega, h0, h1⟩
  exact ⟨this.1.symm, this.2.symm⟩
def ctDivH : Ct := fun l => match l with
  | [.lst .i64 a, .lst .i64 b] => some (a.length ≤ 1000000 ∧ b.length ≤ 1000000 ∧ okH a ∧ okH b ∧ b.getLast? ≠ some 0 ∧ 0 < hv b, .tup (.tc (.lst .i64 (hd (hv a / hv b))) (.tc (.lst .i64 (hd (hv a % hv b))) .tn)))
  | _ => none
def envR53 : Env := fun g => match g with | 146 => some ctSmallH | 145 => some ctBackH | 142 => some ctTrimH | 147 => some ctTimesH | 128 => some ctCmpH | 129 => some ctSubH | _ => none
theorem envR53_ok : EnvOk Tryz.prog envR53 := by
  intro g ct h
  simp only [envR53] at h
  split at h <;> first | (cases h; exact ok146) | (cases h; exact ok145) | (cases h; exact ok142) | (cases h; exact ok147) | (cases h; exact ok128) | (cases h; exact ok129) | cases h
set_option maxHeartbeats 2000000 in
theorem ok143 : Sound Tryz.prog 143 ctDivH := by
  refine sound_of (fn := Tryz.f143) rfl rfl rfl tiOk envR53_ok mix ?_ (by intro l p r h; unfold ctDivH at h; split at h <;> cases h <;> exact Nat.le_of_ble_eq_true rfl)
  intro l p r h hp F vs hv
  unfold ctDivH at h
  split at h <;> cases h
  rename_i a b
  change List Int at a b
  obtain ⟨hp1, hp2, hp3, hp4, hp5, hp6⟩ := hp
  obtain ⟨v0, rest0, rfl, a0, hv⟩ := hv
  obtain ⟨v1, rest1, rfl, a1, hv⟩ := hv
  refine ⟨[_, _], ⟨_, _, rfl, a0, _, _, rfl, a1, hv⟩, ?_⟩
  clear hv
  have ha0 := hv_nonneg hp3
  have hd1 : hv a / hv b ≤ hv a := Int.ediv_le_self _ ha0
  have hd2 : 0 ≤ hv a / hv b := Int.ediv_nonneg ha0 (by omega)
  have hd3 := Int.emod_nonneg (hv a) (show hv b ≠ 0 by omega)
  have hd4 := Int.emod_lt_of_pos (hv a) hp6
  have hs1 := fun h => (hv_small hp3 h).2
  have hs2 := fun h => (hv_small hp4 h).2
  show Run Tryz.prog ti envR53 120 (finR ti [.tmp 4, .tmp 5] _) _ _ _
  repeat' (first | with_reducible refine run_seq ?_ | with_reducible refine run_block ?_ | with_reducible refine step_code ?_ | with_reducible refine step_blk ?_ | with_reducible refine run_skip ?_ | with_reducible refine run_exit ?_ | with_reducible refine exits_code ?_ | with_reducible refine exits_here ?_ | with_reducible refine exits_blk rfl ?_ | with_reducible refine exits_lp ?_ | with_reducible refine run_ret ?_ | ((first | with_reducible refine run_region ?_ | with_reducible refine run_draw (by kernel_rfl) ?_); simp only [↓guardP_tt, ↓guardP_tf, ↓guardP_ft, ↓guardP_ff, guardP_t, guardP_f, evalQ, evalR, effQ, effR, skipS, opEff, evO, plainV, lkS, lkM, updL, putS, tie_sz, tie_zero, tie_zeroB, tie_fld, tie_ek, tie_int, tie_isb, tie_eq2, tie_f1, tie_ms, tie2_sz, tie2_zero, tie2_zeroB, tie2_fld, tie2_ek, tie2_int, tie2_isb, tie2_eq2, tie2_f1, tie2_ms, ti_ek2, ti_f1, ti_ms, ti_sz, ti_zero, ti_zeroB, ti_fld, ti_ek, ti_int, ti_isb, ti_eq2, binA, binI, intOp, funOf_v, cloOf_v, calIds, appEff, frE, foldB, foldS, castL_self, K.enc, K.dec, K.zero, K.es, K.bytes, AV.part, AV.setPart, AV.cells, AV.agg, AV.nth, Bool.false_eq_true, callEff, pubs, pub, nilAV, MM.upd, MM.set, argS, gdst, opIds, lids, AV.ids, List.getD_cons_succ, List.getD_cons_zero, List.map, List.tail, List.headD, List.nil_append, List.append_nil, List.cons_append, List.length_nil, List.length_cons, List.zip_cons_cons, List.zip_nil_right, List.set_cons_zero, List.set_cons_succ, List.replicate, Option.isSome_some, Option.map_some, Bool.not_true, Bool.not_false, forall_const, false_implies, Nat.reduceAdd, Nat.reduceEqDiff, Nat.reduceLT, Nat.reduceSub, Nat.reduceMul, Nat.reduceLeDiff, ↓reduceIte, and_true, true_and, and_self, false_and, and_false, reduceCtorEq, envR53, ctSmallH, ctBackH]) | (with_reducible refine run_cond (by with_unfolding_all exact rfl) ?_ ?_ <;> intro hc <;> (try simp only [vb, decide_eq_true_eq, decide_eq_false_iff_not, beq_iff_eq, beq_eq_false_iff_ne, bne_iff_ne, bne_eq_false_iff_eq, Bool.not_eq_true', Bool.not_eq_false', reduceCtorEq] at hc) <;> (try (first | simp (disch := omega) only [wrap64, wrapu64, wrapu32, sh32, fdiv32, Int.tdiv_eq_ediv_of_nonneg, Int.tmod_eq_emod_of_nonneg, tn_add, tn_add1, Int.toNat_natCast, Int.toNat_zero, List.drop_zero] at hc | simp only [wrapu64m, wrapu32m] at hc))) | ((with_reducible refine compat_ok ?_); kernel_rfl) | with_reducible apply And.intro | (first | simp (disch := omega) only [wrap64, wrapu64, wrapu32, sh32, fdiv32, Int.tdiv_eq_ediv_of_nonneg, Int.tmod_eq_emod_of_nonneg, tn_add, tn_add1, Int.toNat_natCast, Int.toNat_zero, List.drop_zero] | simp only [wrapu64m, wrapu32m]) | (with_reducible intro hg; (try simp only [vb, decide_eq_true_eq, decide_eq_false_iff_not, beq_iff_eq, beq_eq_false_iff_ne, bne_iff_ne, bne_eq_false_iff_eq, Bool.not_eq_true', Bool.not_eq_false', reduceCtorEq] at hg); (try (first | simp (disch := omega) only [wrap64, wrapu64, wrapu32, sh32, fdiv32, Int.tdiv_eq_ediv_of_nonneg, Int.tmod_eq_emod_of_nonneg, tn_add, tn_add1, Int.toNat_natCast, Int.toNat_zero, List.drop_zero] at hg | simp only [wrapu64m, wrapu32m] at hg))))
  all_goals try omega
  · simp only [finR, resAs, resA, resLe, lsLe, lkS, lkM, pubs, pub, tie_sz, ti_sz, tie_ek, ti_ek, tie2_sz, tie2_ek, ti_ek2, nilAV, MM.upd, MM.set, AV.part, AV.cells, AV.agg, List.tail, List.headD, Nat.reduceAdd, Nat.reduceEqDiff, Nat.reduceLT, ↓reduceIte, and_true, true_and, and_self, reduceCtorEq]
    exact ⟨AVle.rfl, AVle.rfl⟩
  rotate_left
  · obtain ⟨d, rfl⟩ : ∃ d, b = [d] := by
      match b, hc with
      | [d], _ => exact ⟨d, rfl⟩
    have hdd : hv [d] = d := by simp [hv]
    rw [hdd] at hp6 hd1 hd2 hd3 hd4 ⊢
    have hdr := hp4 d (by simp)
    refine run_loop (ι := Nat × List Int × Int) (fun s => ⟨[(8, vi ((s.1 : Int) - 1)), (7, vi s.2.2), (6, .row 0), (0, .lst .i64 a), (1, .lst .i64 [d])], [(0, some (.row 3 .i64 (List.replicate s.1 0 ++ s.2.1) false))], 1⟩)
      (fun s => s.1 + s.2.1.length = a.length ∧ okH s.2.1 ∧ 0 ≤ s.2.2 ∧ s.2.2 < d ∧ hv (a.drop s.1) = hv s.2.1 * d + s.2.2) (fun s => s.1) (a.length, [], 0) ⟨by simp, okH_nil, Int.le_refl 0, hp6, by simp [hv]⟩ ?_ ?_
    · dsimp only
      rw [List.append_nil]
      (refine AS.le_ren [(0, some 9)] ?_ ?_ rfl <;> simp only [slLeR, memLeR, entLeR, rn, entLe, lkS, lkM, Nat.reduceEqDiff, Nat.reduceLT, Nat.reduceAdd, or_true, true_or, reduceCtorEq, ↓reduceIte, and_true, true_and] <;> (repeat' with_reducible apply And.intro) <;> (try (first | exact AV.leR_ptr (Nat.le_of_ble_eq_true rfl) rfl | exact AV.leR_row (Nat.le_of_ble_eq_true rfl) rfl | exact AV.leR_nil (Nat.le_of_ble_eq_true rfl) rfl | exact AV.leR_ep (Nat.le_of_ble_eq_true rfl) rfl | ((with_reducible refine AV.leR_of rfl ?_); try (first | ((with_reducible refine AV.le_refl ?_); rfl) | with_reducible exact AV.le_junk | with_reducible exact AV.le_nil | ((with_reducible refine AV.le_int ?_); omega) | (with_reducible refine AV.le_int ?_) | (with_reducible refine AV.le_bool ?_) | ((with_reducible refine AV.le_lst ?_); try rfl) | (with_reducible refine AV.le_q ?_ ?_ ?_) | exact fun _ _ h => h | (with_reducible refine RC_qle ?_ ?_ ?_))) | exact fun _ _ h => h)))
    rintro ⟨n, Qs, r⟩ ⟨hl, hQ, hr0, hr1, ht⟩
    dsimp only at hl hQ hr0 hr1 ht ⊢
    have hxa := okH_getD hp3 (n - 1)
    have hq1 : 0 ≤ (r * 65536 + a.getD (n - 1) 0) / d := Int.ediv_nonneg (by omega) (by omega)
    have hq2 : (r * 65536 + a.getD (n - 1) 0) / d < 65536 := by
      refine Int.ediv_lt_of_lt_mul hp6 ?_
      omega
    have hq3 := Int.emod_nonneg (r * 65536 + a.getD (n - 1) 0) (show d ≠ 0 by omega)
    have hq4 := Int.emod_lt_of_pos (r * 65536 + a.getD (n - 1) 0) hp6
    have hq5 := Int.mul_ediv_add_emod (r * 65536 + a.getD (n - 1) 0) d
    repeat' (first | with_reducible refine run_seq ?_ | with_reducible refine run_block ?_ | with_reducible refine step_code ?_ | with_reducible refine step_blk ?_ | with_reducible refine run_skip ?_ | with_reducible refine run_exit ?_ | with_reducible refine exits_code ?_ | with_reducible refine exits_here ?_ | with_reducible refine exits_blk rfl ?_ | with_reducible refine exits_lp ?_ | with_reducible refine run_ret ?_ | ((first | with_reducible refine run_region ?_ | with_reducible refine run_draw (by kernel_rfl) ?_); simp only [↓guardP_tt, ↓guardP_tf, ↓guardP_ft, ↓guardP_ff, guardP_t, guardP_f, evalQ, evalR, effQ, effR, skipS, opEff, evO, plainV, lkS, lkM, updL, putS, tie_sz, tie_zero, tie_zeroB, tie_fld, tie_ek, tie_int, tie_isb, tie_eq2, tie_f1, tie_ms, tie2_sz, tie2_zero, tie2_zeroB, tie2_fld, tie2_ek, tie2_int, tie2_isb, tie2_eq2, tie2_f1, tie2_ms, ti_ek2, ti_f1, ti_ms, ti_sz, ti_zero, ti_zeroB, ti_fld, ti_ek, ti_int, ti_isb, ti_eq2, binA, binI, intOp, funOf_v, cloOf_v, calIds, appEff, frE, foldB, foldS, castL_self, K.enc, K.dec, K.zero, K.es, K.bytes, AV.part, AV.setPart, AV.cells, AV.agg, AV.nth, Bool.false_eq_true, callEff, pubs, pub, nilAV, MM.upd, MM.set, argS, gdst, opIds, lids, AV.ids, List.getD_cons_succ, List.getD_cons_zero, List.map, List.tail, List.headD, List.nil_append, List.append_nil, List.cons_append, List.length_nil, List.length_cons, List.zip_cons_cons, List.zip_nil_right, List.set_cons_zero, List.set_cons_succ, List.replicate, Option.isSome_some, Option.map_some, Bool.not_true, Bool.not_false, forall_const, false_implies, Nat.reduceAdd, Nat.reduceEqDiff, Nat.reduceLT, Nat.reduceSub, Nat.reduceMul, Nat.reduceLeDiff, ↓reduceIte, and_true, true_and, and_self, false_and, and_false, reduceCtorEq, envR53, ctTrimH, tnm1]) | (with_reducible refine run_cond (by with_unfolding_all exact rfl) ?_ ?_ <;> intro hc <;> (try simp only [vb, decide_eq_true_eq, decide_eq_false_iff_not, beq_iff_eq, beq_eq_false_iff_ne, bne_iff_ne, bne_eq_false_iff_eq, Bool.not_eq_true', Bool.not_eq_false', reduceCtorEq] at hc) <;> (try (first | simp (disch := omega) only [wrap64, wrapu64, wrapu32, sh32, fdiv32, Int.tdiv_eq_ediv_of_nonneg, Int.tmod_eq_emod_of_nonneg, tn_add, tn_add1, Int.toNat_natCast, Int.toNat_zero, List.drop_zero] at hc | simp only [wrapu64m, wrapu32m] at hc))) | ((with_reducible refine compat_ok ?_); kernel_rfl) | with_reducible apply And.intro | (first | simp (disch := omega) only [wrap64, wrapu64, wrapu32, sh32, fdiv32, Int.tdiv_eq_ediv_of_nonneg, Int.tmod_eq_emod_of_nonneg, tn_add, tn_add1, Int.toNat_natCast, Int.toNat_zero, List.drop_zero] | simp only [wrapu64m, wrapu32m]) | (with_reducible intro hg; (try simp only [vb, decide_eq_true_eq, decide_eq_false_iff_not, beq_iff_eq, beq_eq_false_iff_ne, bne_iff_ne, bne_eq_false_iff_eq, Bool.not_eq_true', Bool.not_eq_false', reduceCtorEq] at hg); (try (first | simp (disch := omega) only [wrap64, wrapu64, wrapu32, sh32, fdiv32, Int.tdiv_eq_ediv_of_nonneg, Int.tmod_eq_emod_of_nonneg, tn_add, tn_add1, Int.toNat_natCast, Int.toNat_zero, List.drop_zero] at hg | simp only [wrapu64m, wrapu32m] at hg))))
    all_goals try first | omega | (simp only [List.length_append, List.length_replicate]; omega)
    iterate 2
      · show d ≠ 0
        omega
    · obtain ⟨m, rfl⟩ : ∃ m, n = m + 1 := ⟨n - 1, by omega⟩
      simp only [Nat.add_sub_cancel] at *
      refine step_lp ⟨(m, (r * 65536 + a.getD m 0) / d :: Qs, (r * 65536 + a.getD m 0) % d), ⟨by simp only [List.length_cons]; omega, okH_cons ⟨hq1, hq2⟩ hQ, hq3, hq4, ?_⟩, by dsimp only; omega, ?_⟩
      · simp only [hv]
        rw [hv_drop a m, ht, Int.add_mul, Int.mul_assoc, Int.mul_comm ((r * 65536 + a.getD m 0) / d) d]
        omega
      dsimp only
      rw [rep_set]
      (refine AS.le_of ?_ ?_ <;> simp only [slLe, memLe, entLe, lkS, lkM, Nat.reduceEqDiff, Nat.reduceLT, or_true, true_or, reduceCtorEq, ↓reduceIte, and_true, true_and] <;> (repeat' with_reducible apply And.intro) <;> (try (first | ((with_reducible refine AV.le_refl ?_); rfl) | with_reducible exact AV.le_junk | with_reducible exact AV.le_nil | ((with_reducible refine AV.le_int ?_); omega) | (with_reducible refine AV.le_int ?_) | (with_reducible refine AV.le_bool ?_) | ((with_reducible refine AV.le_lst ?_); try rfl) | (with_reducible refine AV.le_q ?_ ?_ ?_) | exact fun _ _ h => h | (with_reducible refine RC_qle ?_ ?_ ?_))))
      · rfl
      · show Ent.row 3 .i64 (List.replicate m 0 ++ IntKind.i64.wrap ((r * 65536 + a.getD m 0) / d) :: Qs) false = _
        (first | simp (disch := omega) only [wrap64, wrapu64, wrapu32, sh32, fdiv32, Int.tdiv_eq_ediv_of_nonneg, Int.tmod_eq_emod_of_nonneg, tn_add, tn_add1, Int.toNat_natCast, Int.toNat_zero, List.drop_zero] | simp only [wrapu64m, wrapu32m])
    · have : n = 0 := by omega
      subst this
      simp only [List.drop_zero] at ht
      obtain ⟨e1, e2⟩ := div_mod hp6 ht hr0 hr1
      simp only [finR, resAs, resA, resLe, lsLe, lkS, lkM, pubs, pub, tie_sz, ti_sz, tie_ek, ti_ek, tie2_sz, tie2_ek, ti_ek2, nilAV, MM.upd, MM.set, AV.part, AV.cells, AV.agg, List.tail, List.headD, Nat.reduceAdd, Nat.reduceEqDiff, Nat.reduceLT, ↓reduceIte, and_true, true_and, and_self, reduceCtorEq]
      refine ⟨AVle_lst ?_, AVle_lst ?_⟩
      · rw [List.replicate_zero, List.nil_append, trim_hd hQ, e1]
      · rw [trim_hd (okH_cons (by omega) okH_nil), ← e2]
        simp [hv]
  all_goals
    refine run_loop (ι := Nat × List Int × Int) (fun s => ⟨[(10, vi ((s.1 : Int) - 1)), (9, .lst .i64 (hd s.2.2)), (6, .row 0), (0, .lst .i64 a), (1, .lst .i64 b)], [(0, some (.row 3 .i64 (List.replicate s.1 0 ++ s.2.1) false))], 1⟩)
      (fun s => s.1 + s.2.1.length = a.length ∧ okH s.2.1 ∧ 0 ≤ s.2.2 ∧ s.2.2 < hv b ∧ hv (a.drop s.1) = hv s.2.1 * hv b + s.2.2) (fun s => s.1) (a.length, [], 0) ⟨by simp, okH_nil, Int.le_refl 0, hp6, by simp [hv]⟩ ?_ ?_
    · dsimp only
      rw [List.append_nil, hd_zero]
      first | ((refine AS.le_ren [(0, some 9)] ?_ ?_ rfl <;> simp only [slLeR, memLeR, entLeR, rn, entLe, lkS, lkM, Nat.reduceEqDiff, Nat.reduceLT, Nat.reduceAdd, or_true, true_or, reduceCtorEq, ↓reduceIte, and_true, true_and] <;> (repeat' with_reducible apply And.intro) <;> (try (first | exact AV.leR_ptr (Nat.le_of_ble_eq_true rfl) rfl | exact AV.leR_row (Nat.le_of_ble_eq_true rfl) rfl | exact AV.leR_nil (Nat.le_of_ble_eq_true rfl) rfl | exact AV.leR_ep (Nat.le_of_ble_eq_true rfl) rfl | ((with_reducible refine AV.leR_of rfl ?_); try (first | ((with_reducible refine AV.le_refl ?_); rfl) | with_reducible exact AV.le_junk | with_reducible exact AV.le_nil | ((with_reducible refine AV.le_int ?_); omega) | (with_reducible refine AV.le_int ?_) | (with_reducible refine AV.le_bool ?_) | ((with_reducible refine AV.le_lst ?_); try rfl) | (with_reducible refine AV.le_q ?_ ?_ ?_) | exact fun _ _ h => h | (with_reducible refine RC_qle ?_ ?_ ?_))) | exact fun _ _ h => h))); done) | ((refine AS.le_ren [(0, some 12)] ?_ ?_ rfl <;> simp only [slLeR, memLeR, entLeR, rn, entLe, lkS, lkM, Nat.reduceEqDiff, Nat.reduceLT, Nat.reduceAdd, or_true, true_or, reduceCtorEq, ↓reduceIte, and_true, true_and] <;> (repeat' with_reducible apply And.intro) <;> (try (first | exact AV.leR_ptr (Nat.le_of_ble_eq_true rfl) rfl | exact AV.leR_row (Nat.le_of_ble_eq_true rfl) rfl | exact AV.leR_nil (Nat.le_of_ble_eq_true rfl) rfl | exact AV.leR_ep (Nat.le_of_ble_eq_true rfl) rfl | ((with_reducible refine AV.leR_of rfl ?_); try (first | ((with_reducible refine AV.le_refl ?_); rfl) | with_reducible exact AV.le_junk | with_reducible exact AV.le_nil | ((with_reducible refine AV.le_int ?_); omega) | (with_reducible refine AV.le_int ?_) | (with_reducible refine AV.le_bool ?_) | ((with_reducible refine AV.le_lst ?_); try rfl) | (with_reducible refine AV.le_q ?_ ?_ ?_) | exact fun _ _ h => h | (with_reducible refine RC_qle ?_ ?_ ?_))) | exact fun _ _ h => h))); done)
    rintro ⟨n, Qs, r⟩ ⟨hl, hQ, hr0, hr1, ht⟩
    dsimp only at hl hQ hr0 hr1 ht ⊢
    have hxa := okH_getD hp3 (n - 1)
    have hbl := hv_lt hp4
    have hr2 : hv (a.getD (n - 1) 0 :: hd r) = a.getD (n - 1) 0 + 65536 * r := by simp only [hv, hv_hd hr0]
    have htr : trimL (a.getD (n - 1) 0 :: hd r) = hd (a.getD (n - 1) 0 + 65536 * r) := by rw [trim_hd (okH_cons hxa (okH_hd _)), hr2]
    have hL0 : (hd r).length ≤ b.length := hd_lenp (by omega)
    have hlen1 : (hd (a.getD (n - 1) 0 + 65536 * r)).length < b.length → a.getD (n - 1) 0 + 65536 * r < hv b := by
      intro h
      rw [← hd_eq hp4 hp5] at h
      by_cases hx : hv b ≤ a.getD (n - 1) 0 + 65536 * r
      · have := hd_mono hx; omega
      · omega
    repeat' (first | with_reducible refine run_seq ?_ | with_reducible refine run_block ?_ | with_reducible refine step_code ?_ | with_reducible refine step_blk ?_ | with_reducible refine run_skip ?_ | with_reducible refine run_exit ?_ | with_reducible refine exits_code ?_ | with_reducible refine exits_here ?_ | with_reducible refine exits_blk rfl ?_ | with_reducible refine exits_lp ?_ | with_reducible refine run_ret ?_ | ((first | with_reducible refine run_region ?_ | with_reducible refine run_draw (by kernel_rfl) ?_); simp only [↓guardP_tt, ↓guardP_tf, ↓guardP_ft, ↓guardP_ff, guardP_t, guardP_f, evalQ, evalR, effQ, effR, skipS, opEff, evO, plainV, lkS, lkM, updL, putS, tie_sz, tie_zero, tie_zeroB, tie_fld, tie_ek, tie_int, tie_isb, tie_eq2, tie_f1, tie_ms, tie2_sz, tie2_zero, tie2_zeroB, tie2_fld, tie2_ek, tie2_int, tie2_isb, tie2_eq2, tie2_f1, tie2_ms, ti_ek2, ti_f1, ti_ms, ti_sz, ti_zero, ti_zeroB, ti_fld, ti_ek, ti_int, ti_isb, ti_eq2, binA, binI, intOp, funOf_v, cloOf_v, calIds, appEff, frE, foldB, foldS, castL_self, K.enc, K.dec, K.zero, K.es, K.bytes, AV.part, AV.setPart, AV.cells, AV.agg, AV.nth, Bool.false_eq_true, callEff, pubs, pub, nilAV, MM.upd, MM.set, argS, gdst, opIds, lids, AV.ids, List.getD_cons_succ, List.getD_cons_zero, List.map, List.tail, List.headD, List.nil_append, List.append_nil, List.cons_append, List.length_nil, List.length_cons, List.zip_cons_cons, List.zip_nil_right, List.set_cons_zero, List.set_cons_succ, List.replicate, Option.isSome_some, Option.map_some, Bool.not_true, Bool.not_false, forall_const, false_implies, Nat.reduceAdd, Nat.reduceEqDiff, Nat.reduceLT, Nat.reduceSub, Nat.reduceMul, Nat.reduceLeDiff, ↓reduceIte, and_true, true_and, and_self, false_and, and_false, reduceCtorEq, envR53, ctTrimH, tnm1, htr]) | (with_reducible refine run_cond (by with_unfolding_all exact rfl) ?_ ?_ <;> intro hc <;> (try simp only [vb, decide_eq_true_eq, decide_eq_false_iff_not, beq_iff_eq, beq_eq_false_iff_ne, bne_iff_ne, bne_eq_false_iff_eq, Bool.not_eq_true', Bool.not_eq_false', reduceCtorEq] at hc) <;> (try (first | simp (disch := omega) only [wrap64, wrapu64, wrapu32, sh32, fdiv32, Int.tdiv_eq_ediv_of_nonneg, Int.tmod_eq_emod_of_nonneg, tn_add, tn_add1, Int.toNat_natCast, Int.toNat_zero, List.drop_zero] at hc | simp only [wrapu64m, wrapu32m] at hc))) | ((with_reducible refine compat_ok ?_); kernel_rfl) | with_reducible apply And.intro | (first | simp (disch := omega) only [wrap64, wrapu64, wrapu32, sh32, fdiv32, Int.tdiv_eq_ediv_of_nonneg, Int.tmod_eq_emod_of_nonneg, tn_add, tn_add1, Int.toNat_natCast, Int.toNat_zero, List.drop_zero] | simp only [wrapu64m, wrapu32m]) | (with_reducible intro hg; (try simp only [vb, decide_eq_true_eq, decide_eq_false_iff_not, beq_iff_eq, beq_eq_false_iff_ne, bne_iff_ne, bne_eq_false_iff_eq, Bool.not_eq_true', Bool.not_eq_false', reduceCtorEq] at hg); (try (first | simp (disch := omega) only [wrap64, wrapu64, wrapu32, sh32, fdiv32, Int.tdiv_eq_ediv_of_nonneg, Int.tmod_eq_emod_of_nonneg, tn_add, tn_add1, Int.toNat_natCast, Int.toNat_zero, List.drop_zero] at hg | simp only [wrapu64m, wrapu32m] at hg))))
    all_goals try first | omega | (simp only [List.length_append, List.length_replicate]; omega)
    rotate_right
    · have : n = 0 := by omega
      subst this
      simp only [List.drop_zero] at ht
      obtain ⟨e1, e2⟩ := div_mod hp6 ht hr0 hr1
      simp only [finR, resAs, resA, resLe, lsLe, lkS, lkM, pubs, pub, tie_sz, ti_sz, tie_ek, ti_ek, tie2_sz, tie2_ek, ti_ek2, nilAV, MM.upd, MM.set, AV.part, AV.cells, AV.agg, List.tail, List.headD, Nat.reduceAdd, Nat.reduceEqDiff, Nat.reduceLT, ↓reduceIte, and_true, true_and, and_self, reduceCtorEq]
      refine ⟨AVle_lst ?_, AVle_lst ?_⟩
      · rw [List.replicate_zero, List.nil_append, trim_hd hQ, e1]
      · rw [e2]
    · have hHB := hlen1 (by omega)
      refine run_loop (ι := Int × Int) (fun s => ⟨[(12, vi s.2), (11, vi s.1), (9, .lst .i64 (hd (a.getD (n - 1) 0 + 65536 * r))), (10, vi ((n : Int) - 1)), (6, .row 0), (0, .lst .i64 a), (1, .lst .i64 b)], [(0, some (.row 3 .i64 (List.replicate n 0 ++ Qs) false))], 1⟩)
        (fun s => 0 ≤ s.1 ∧ s.1 < s.2 ∧ s.2 ≤ 65536 ∧ hv b * s.1 ≤ a.getD (n - 1) 0 + 65536 * r ∧ a.getD (n - 1) 0 + 65536 * r < hv b * s.2) (fun s => (s.2 - s.1).toNat) (0, 1) ⟨by decide, by decide, by decide, by simp only [Int.mul_zero]; omega, (by dsimp only; omega)⟩ ?_ ?_
      · dsimp only
        (refine AS.le_of ?_ ?_ <;> simp only [slLe, memLe, entLe, lkS, lkM, Nat.reduceEqDiff, Nat.reduceLT, or_true, true_or, reduceCtorEq, ↓reduceIte, and_true, true_and] <;> (repeat' with_reducible apply And.intro) <;> (try (first | ((with_reducible refine AV.le_refl ?_); rfl) | with_reducible exact AV.le_junk | with_reducible exact AV.le_nil | ((with_reducible refine AV.le_int ?_); omega) | (with_reducible refine AV.le_int ?_) | (with_reducible refine AV.le_bool ?_) | ((with_reducible refine AV.le_lst ?_); try rfl) | (with_reducible refine AV.le_q ?_ ?_ ?_) | exact fun _ _ h => h | (with_reducible refine RC_qle ?_ ?_ ?_))))
      rintro ⟨lo, hi⟩ ⟨hl0, hlh, hhi, hlR, hRh⟩
      dsimp only at hl0 hlh hhi hlR hRh ⊢
      have hmid : 0 ≤ hv b * ((lo + hi) / 2) := Int.mul_nonneg (by omega) (by omega)
      have hmlo : 0 ≤ hv b * lo := Int.mul_nonneg (by omega) hl0
      have hR0 : 0 ≤ a.getD (n - 1) 0 + 65536 * r := by omega
      have hm1 : hv b * ((lo + hi) / 2) ≤ hv b * 65536 := Int.mul_le_mul_of_nonneg_left (by omega) (by omega)
      have hm2 : hv b * lo ≤ hv b * 65536 := Int.mul_le_mul_of_nonneg_left (by omega) (by omega)
      have hL1 : (hd (hv b * ((lo + hi) / 2))).length ≤ b.length + 1 := hd_lenp (by rw [Int.pow_succ]; omega)
      have hL2 : (hd (hv b * lo)).length ≤ b.length + 1 := hd_lenp (by rw [Int.pow_succ]; omega)
      have hL3 : (hd (a.getD (n - 1) 0 + 65536 * r)).length ≤ b.length + 1 := hd_lenp (by rw [Int.pow_succ]; omega)
      have hcm : cmpI (hv (hd (hv b * ((lo + hi) / 2)))) (a.getD (n - 1) 0 + 65536 * r) ≤ 0 ↔ hv b * ((lo + hi) / 2) ≤ a.getD (n - 1) 0 + 65536 * r := by rw [hv_hd hmid]; unfold cmpI; split <;> (try split) <;> omega
      repeat' (first | with_reducible refine run_seq ?_ | with_reducible refine run_block ?_ | with_reducible refine step_code ?_ | with_reducible refine step_blk ?_ | with_reducible refine run_skip ?_ | with_reducible refine run_exit ?_ | with_reducible refine exits_code ?_ | with_reducible refine exits_here ?_ | with_reducible refine exits_blk rfl ?_ | with_reducible refine exits_lp ?_ | with_reducible refine run_ret ?_ | ((first | with_reducible refine run_region ?_ | with_reducible refine run_draw (by kernel_rfl) ?_); simp only [↓guardP_tt, ↓guardP_tf, ↓guardP_ft, ↓guardP_ff, guardP_t, guardP_f, evalQ, evalR, effQ, effR, skipS, opEff, evO, plainV, lkS, lkM, updL, putS, tie_sz, tie_zero, tie_zeroB, tie_fld, tie_ek, tie_int, tie_isb, tie_eq2, tie_f1, tie_ms, tie2_sz, tie2_zero, tie2_zeroB, tie2_fld, tie2_ek, tie2_int, tie2_isb, tie2_eq2, tie2_f1, tie2_ms, ti_ek2, ti_f1, ti_ms, ti_sz, ti_zero, ti_zeroB, ti_fld, ti_ek, ti_int, ti_isb, ti_eq2, binA, binI, intOp, funOf_v, cloOf_v, calIds, appEff, frE, foldB, foldS, castL_self, K.enc, K.dec, K.zero, K.es, K.bytes, AV.part, AV.setPart, AV.cells, AV.agg, AV.nth, Bool.false_eq_true, callEff, pubs, pub, nilAV, MM.upd, MM.set, argS, gdst, opIds, lids, AV.ids, List.getD_cons_succ, List.getD_cons_zero, List.map, List.tail, List.headD, List.nil_append, List.append_nil, List.cons_append, List.length_nil, List.length_cons, List.zip_cons_cons, List.zip_nil_right, List.set_cons_zero, List.set_cons_succ, List.replicate, Option.isSome_some, Option.map_some, Bool.not_true, Bool.not_false, forall_const, false_implies, Nat.reduceAdd, Nat.reduceEqDiff, Nat.reduceLT, Nat.reduceSub, Nat.reduceMul, Nat.reduceLeDiff, ↓reduceIte, and_true, true_and, and_self, false_and, and_false, reduceCtorEq, envR53, ctTimesH, ctCmpH, ctSubH, ctTrimH, tnm1, hv_hd hmid, hv_hd hmlo, hv_hd hR0]) | (with_reducible refine run_cond (by with_unfolding_all exact rfl) ?_ ?_ <;> intro hc <;> (try simp only [vb, decide_eq_true_eq, decide_eq_false_iff_not, beq_iff_eq, beq_eq_false_iff_ne, bne_iff_ne, bne_eq_false_iff_eq, Bool.not_eq_true', Bool.not_eq_false', reduceCtorEq] at hc) <;> (try (first | simp (disch := omega) only [wrap64, wrapu64, wrapu32, sh32, fdiv32, Int.tdiv_eq_ediv_of_nonneg, Int.tmod_eq_emod_of_nonneg, tn_add, tn_add1, Int.toNat_natCast, Int.toNat_zero, List.drop_zero] at hc | simp only [wrapu64m, wrapu32m] at hc))) | ((with_reducible refine compat_ok ?_); kernel_rfl) | with_reducible apply And.intro | (first | simp (disch := omega) only [wrap64, wrapu64, wrapu32, sh32, fdiv32, Int.tdiv_eq_ediv_of_nonneg, Int.tmod_eq_emod_of_nonneg, tn_add, tn_add1, Int.toNat_natCast, Int.toNat_zero, List.drop_zero] | simp only [wrapu64m, wrapu32m]) | (with_reducible intro hg; (try simp only [vb, decide_eq_true_eq, decide_eq_false_iff_not, beq_iff_eq, beq_eq_false_iff_ne, bne_iff_ne, bne_eq_false_iff_eq, Bool.not_eq_true', Bool.not_eq_false', reduceCtorEq] at hg); (try (first | simp (disch := omega) only [wrap64, wrapu64, wrapu32, sh32, fdiv32, Int.tdiv_eq_ediv_of_nonneg, Int.tmod_eq_emod_of_nonneg, tn_add, tn_add1, Int.toNat_natCast, Int.toNat_zero, List.drop_zero] at hg | simp only [wrapu64m, wrapu32m] at hg))))
      all_goals try first | omega | exact okH_hd _ | (simp only [List.length_append, List.length_replicate]; omega)
      · refine step_lp ⟨((lo + hi) / 2, hi), ⟨by dsimp only; omega, by dsimp only; omega, by dsimp only; omega, hcm.1 hc, hRh⟩, by dsimp only; omega, ?_⟩
        dsimp only
        (refine AS.le_of ?_ ?_ <;> simp only [slLe, memLe, entLe, lkS, lkM, Nat.reduceEqDiff, Nat.reduceLT, or_true, true_or, reduceCtorEq, ↓reduceIte, and_true, true_and] <;> (repeat' with_reducible apply And.intro) <;> (try (first | ((with_reducible refine AV.le_refl ?_); rfl) | with_reducible exact AV.le_junk | with_reducible exact AV.le_nil | ((with_reducible refine AV.le_int ?_); omega) | (with_reducible refine AV.le_int ?_) | (with_reducible refine AV.le_bool ?_) | ((with_reducible refine AV.le_lst ?_); try rfl) | (with_reducible refine AV.le_q ?_ ?_ ?_) | exact fun _ _ h => h | (with_reducible refine RC_qle ?_ ?_ ?_))))
      · refine step_lp ⟨(lo, (lo + hi) / 2), ⟨by dsimp only; omega, by dsimp only; omega, by dsimp only; omega, hlR, by dsimp only; have := fun h => hc (hcm.2 h); omega⟩, by dsimp only; omega, ?_⟩
        dsimp only
        (refine AS.le_of ?_ ?_ <;> simp only [slLe, memLe, entLe, lkS, lkM, Nat.reduceEqDiff, Nat.reduceLT, or_true, true_or, reduceCtorEq, ↓reduceIte, and_true, true_and] <;> (repeat' with_reducible apply And.intro) <;> (try (first | ((with_reducible refine AV.le_refl ?_); rfl) | with_reducible exact AV.le_junk | with_reducible exact AV.le_nil | ((with_reducible refine AV.le_int ?_); omega) | (with_reducible refine AV.le_int ?_) | (with_reducible refine AV.le_bool ?_) | ((with_reducible refine AV.le_lst ?_); try rfl) | (with_reducible refine AV.le_q ?_ ?_ ?_) | exact fun _ _ h => h | (with_reducible refine RC_qle ?_ ?_ ?_))))
      · have hlh1 : hi = lo + 1 := by omega
        rw [hlh1, Int.mul_add, Int.mul_one] at hRh
        obtain ⟨m, rfl⟩ : ∃ m, n = m + 1 := ⟨n - 1, by omega⟩
        simp only [Nat.add_sub_cancel] at *
        refine step_lp ⟨(m, lo :: Qs, a.getD m 0 + 65536 * r - hv b * lo), ⟨by dsimp only [List.length_cons]; omega, okH_cons (by omega) hQ, by dsimp only; omega, by dsimp only; omega, ?_⟩, by dsimp only; omega, ?_⟩
        · dsimp only [hv]
          rw [hv_drop a m, ht, Int.add_mul, Int.mul_assoc, Int.mul_comm lo (hv b), Int.mul_add]
          omega
        dsimp only
        rw [rep_set]
        (refine AS.le_of ?_ ?_ <;> simp only [slLe, memLe, entLe, lkS, lkM, Nat.reduceEqDiff, Nat.reduceLT, or_true, true_or, reduceCtorEq, ↓reduceIte, and_true, true_and] <;> (repeat' with_reducible apply And.intro) <;> (try (first | ((with_reducible refine AV.le_refl ?_); rfl) | with_reducible exact AV.le_junk | with_reducible exact AV.le_nil | ((with_reducible refine AV.le_int ?_); omega) | (with_reducible refine AV.le_int ?_) | (with_reducible refine AV.le_bool ?_) | ((with_reducible refine AV.le_lst ?_); try rfl) | (with_reducible refine AV.le_q ?_ ?_ ?_) | exact fun _ _ h => h | (with_reducible refine RC_qle ?_ ?_ ?_))))
    · skip
      refine run_loop (ι := Int × Int) (fun s => ⟨[(12, vi s.2), (11, vi s.1), (9, .lst .i64 (hd (a.getD (n - 1) 0 + 65536 * r))), (10, vi ((n : Int) - 1)), (6, .row 0), (0, .lst .i64 a), (1, .lst .i64 b)], [(0, some (.row 3 .i64 (List.replicate n 0 ++ Qs) false))], 1⟩)
        (fun s => 0 ≤ s.1 ∧ s.1 < s.2 ∧ s.2 ≤ 65536 ∧ hv b * s.1 ≤ a.getD (n - 1) 0 + 65536 * r ∧ a.getD (n - 1) 0 + 65536 * r < hv b * s.2) (fun s => (s.2 - s.1).toNat) (0, 65536) ⟨by decide, by decide, by decide, by simp only [Int.mul_zero]; omega, (by dsimp only; omega)⟩ ?_ ?_
      · dsimp only
        (refine AS.le_of ?_ ?_ <;> simp only [slLe, memLe, entLe, lkS, lkM, Nat.reduceEqDiff, Nat.reduceLT, or_true, true_or, reduceCtorEq, ↓reduceIte, and_true, true_and] <;> (repeat' with_reducible apply And.intro) <;> (try (first | ((with_reducible refine AV.le_refl ?_); rfl) | with_reducible exact AV.le_junk | with_reducible exact AV.le_nil | ((with_reducible refine AV.le_int ?_); omega) | (with_reducible refine AV.le_int ?_) | (with_reducible refine AV.le_bool ?_) | ((with_reducible refine AV.le_lst ?_); try rfl) | (with_reducible refine AV.le_q ?_ ?_ ?_) | exact fun _ _ h => h | (with_reducible refine RC_qle ?_ ?_ ?_))))
      rintro ⟨lo, hi⟩ ⟨hl0, hlh, hhi, hlR, hRh⟩
      dsimp only at hl0 hlh hhi hlR hRh ⊢
      have hmid : 0 ≤ hv b * ((lo + hi) / 2) := Int.mul_nonneg (by omega) (by omega)
      have hmlo : 0 ≤ hv b * lo := Int.mul_nonneg (by omega) hl0
      have hR0 : 0 ≤ a.getD (n - 1) 0 + 65536 * r := by omega
      have hm1 : hv b * ((lo + hi) / 2) ≤ hv b * 65536 := Int.mul_le_mul_of_nonneg_left (by omega) (by omega)
      have hm2 : hv b * lo ≤ hv b * 65536 := Int.mul_le_mul_of_nonneg_left (by omega) (by omega)
      have hL1 : (hd (hv b * ((lo + hi) / 2))).length ≤ b.length + 1 := hd_lenp (by rw [Int.pow_succ]; omega)
      have hL2 : (hd (hv b * lo)).length ≤ b.length + 1 := hd_lenp (by rw [Int.pow_succ]; omega)
      have hL3 : (hd (a.getD (n - 1) 0 + 65536 * r)).length ≤ b.length + 1 := hd_lenp (by rw [Int.pow_succ]; omega)
      have hcm : cmpI (hv (hd (hv b * ((lo + hi) / 2)))) (a.getD (n - 1) 0 + 65536 * r) ≤ 0 ↔ hv b * ((lo + hi) / 2) ≤ a.getD (n - 1) 0 + 65536 * r := by rw [hv_hd hmid]; unfold cmpI; split <;> (try split) <;> omega
      repeat' (first | with_reducible refine run_seq ?_ | with_reducible refine run_block ?_ | with_reducible refine step_code ?_ | with_reducible refine step_blk ?_ | with_reducible refine run_skip ?_ | with_reducible refine run_exit ?_ | with_reducible refine exits_code ?_ | with_reducible refine exits_here ?_ | with_reducible refine exits_blk rfl ?_ | with_reducible refine exits_lp ?_ | with_reducible refine run_ret ?_ | ((first | with_reducible refine run_region ?_ | with_reducible refine run_draw (by kernel_rfl) ?_); simp only [↓guardP_tt, ↓guardP_tf, ↓guardP_ft, ↓guardP_ff, guardP_t, guardP_f, evalQ, evalR, effQ, effR, skipS, opEff, evO, plainV, lkS, lkM, updL, putS, tie_sz, tie_zero, tie_zeroB, tie_fld, tie_ek, tie_int, tie_isb, tie_eq2, tie_f1, tie_ms, tie2_sz, tie2_zero, tie2_zeroB, tie2_fld, tie2_ek, tie2_int, tie2_isb, tie2_eq2, tie2_f1, tie2_ms, ti_ek2, ti_f1, ti_ms, ti_sz, ti_zero, ti_zeroB, ti_fld, ti_ek, ti_int, ti_isb, ti_eq2, binA, binI, intOp, funOf_v, cloOf_v, calIds, appEff, frE, foldB, foldS, castL_self, K.enc, K.dec, K.zero, K.es, K.bytes, AV.part, AV.setPart, AV.cells, AV.agg, AV.nth, Bool.false_eq_true, callEff, pubs, pub, nilAV, MM.upd, MM.set, argS, gdst, opIds, lids, AV.ids, List.getD_cons_succ, List.getD_cons_zero, List.map, List.tail, List.headD, List.nil_append, List.append_nil, List.cons_append, List.length_nil, List.length_cons, List.zip_cons_cons, List.zip_nil_right, List.set_cons_zero, List.set_cons_succ, List.replicate, Option.isSome_some, Option.map_some, Bool.not_true, Bool.not_false, forall_const, false_implies, Nat.reduceAdd, Nat.reduceEqDiff, Nat.reduceLT, Nat.reduceSub, Nat.reduceMul, Nat.reduceLeDiff, ↓reduceIte, and_true, true_and, and_self, false_and, and_false, reduceCtorEq, envR53, ctTimesH, ctCmpH, ctSubH, ctTrimH, tnm1, hv_hd hmid, hv_hd hmlo, hv_hd hR0]) | (with_reducible refine run_cond (by with_unfolding_all exact rfl) ?_ ?_ <;> intro hc <;> (try simp only [vb, decide_eq_true_eq, decide_eq_false_iff_not, beq_iff_eq, beq_eq_false_iff_ne, bne_iff_ne, bne_eq_false_iff_eq, Bool.not_eq_true', Bool.not_eq_false', reduceCtorEq] at hc) <;> (try (first | simp (disch := omega) only [wrap64, wrapu64, wrapu32, sh32, fdiv32, Int.tdiv_eq_ediv_of_nonneg, Int.tmod_eq_emod_of_nonneg, tn_add, tn_add1, Int.toNat_natCast, Int.toNat_zero, List.drop_zero] at hc | simp only [wrapu64m, wrapu32m] at hc))) | ((with_reducible refine compat_ok ?_); kernel_rfl) | with_reducible apply And.intro | (first | simp (disch := omega) only [wrap64, wrapu64, wrapu32, sh32, fdiv32, Int.tdiv_eq_ediv_of_nonneg, Int.tmod_eq_emod_of_nonneg, tn_add, tn_add1, Int.toNat_natCast, Int.toNat_zero, List.drop_zero] | simp only [wrapu64m, wrapu32m]) | (with_reducible intro hg; (try simp only [vb, decide_eq_true_eq, decide_eq_false_iff_not, beq_iff_eq, beq_eq_false_iff_ne, bne_iff_ne, bne_eq_false_iff_eq, Bool.not_eq_true', Bool.not_eq_false', reduceCtorEq] at hg); (try (first | simp (disch := omega) only [wrap64, wrapu64, wrapu32, sh32, fdiv32, Int.tdiv_eq_ediv_of_nonneg, Int.tmod_eq_emod_of_nonneg, tn_add, tn_add1, Int.toNat_natCast, Int.toNat_zero, List.drop_zero] at hg | simp only [wrapu64m, wrapu32m] at hg))))
      all_goals try first | omega | exact okH_hd _ | (simp only [List.length_append, List.length_replicate]; omega)
      · refine step_lp ⟨((lo + hi) / 2, hi), ⟨by dsimp only; omega, by dsimp only; omega, by dsimp only; omega, hcm.1 hc, hRh⟩, by dsimp only; omega, ?_⟩
        dsimp only
        (refine AS.le_of ?_ ?_ <;> simp only [slLe, memLe, entLe, lkS, lkM, Nat.reduceEqDiff, Nat.reduceLT, or_true, true_or, reduceCtorEq, ↓reduceIte, and_true, true_and] <;> (repeat' with_reducible apply And.intro) <;> (try (first | ((with_reducible refine AV.le_refl ?_); rfl) | with_reducible exact AV.le_junk | with_reducible exact AV.le_nil | ((with_reducible refine AV.le_int ?_); omega) | (with_reducible refine AV.le_int ?_) | (with_reducible refine AV.le_bool ?_) | ((with_reducible refine AV.le_lst ?_); try rfl) | (with_reducible refine AV.le_q ?_ ?_ ?_) | exact fun _ _ h => h | (with_reducible refine RC_qle ?_ ?_ ?_))))
      · refine step_lp ⟨(lo, (lo + hi) / 2), ⟨by dsimp only; omega, by dsimp only; omega, by dsimp only; omega, hlR, by dsimp only; have := fun h => hc (hcm.2 h); omega⟩, by dsimp only; omega, ?_⟩
        dsimp only
        (refine AS.le_of ?_ ?_ <;> simp only [slLe, memLe, entLe, lkS, lkM, Nat.reduceEqDiff, Nat.reduceLT, or_true, true_or, reduceCtorEq, ↓reduceIte, and_true, true_and] <;> (repeat' with_reducible apply And.intro) <;> (try (first | ((with_reducible refine AV.le_refl ?_); rfl) | with_reducible exact AV.le_junk | with_reducible exact AV.le_nil | ((with_reducible refine AV.le_int ?_); omega) | (with_reducible refine AV.le_int ?_) | (with_reducible refine AV.le_bool ?_) | ((with_reducible refine AV.le_lst ?_); try rfl) | (with_reducible refine AV.le_q ?_ ?_ ?_) | exact fun _ _ h => h | (with_reducible refine RC_qle ?_ ?_ ?_))))
      · have hlh1 : hi = lo + 1 := by omega
        rw [hlh1, Int.mul_add, Int.mul_one] at hRh
        obtain ⟨m, rfl⟩ : ∃ m, n = m + 1 := ⟨n - 1, by omega⟩
        simp only [Nat.add_sub_cancel] at *
        refine step_lp ⟨(m, lo :: Qs, a.getD m 0 + 65536 * r - hv b * lo), ⟨by dsimp only [List.length_cons]; omega, okH_cons (by omega) hQ, by dsimp only; omega, by dsimp only; omega, ?_⟩, by dsimp only; omega, ?_⟩
        · dsimp only [hv]
          rw [hv_drop a m, ht, Int.add_mul, Int.mul_assoc, Int.mul_comm lo (hv b), Int.mul_add]
          omega
        dsimp only
        rw [rep_set]
        (refine AS.le_of ?_ ?_ <;> simp only [slLe, memLe, entLe, lkS, lkM, Nat.reduceEqDiff, Nat.reduceLT, or_true, true_or, reduceCtorEq, ↓reduceIte, and_true, true_and] <;> (repeat' with_reducible apply And.intro) <;> (try (first | ((with_reducible refine AV.le_refl ?_); rfl) | with_reducible exact AV.le_junk | with_reducible exact AV.le_nil | ((with_reducible refine AV.le_int ?_); omega) | (with_reducible refine AV.le_int ?_) | (with_reducible refine AV.le_bool ?_) | ((with_reducible refine AV.le_lst ?_); try rfl) | (with_reducible refine AV.le_q ?_ ?_ ?_) | exact fun _ _ h => h | (with_reducible refine RC_qle ?_ ?_ ?_))))
end Go.AE

/- Contracts: the reference's integers. -/
namespace Go.AE
open Go.Proofs Go.RowKit
set_option linter.unusedVariables false
set_option linter.unusedSimpArgs false
set_option maxRecDepth 20000

theorem halK_hd {ws : List Int} (h : okW ws) : halK ws = hd (wv ws) := by
  obtain ⟨h1, h2, h3⟩ := hv_halvL h
  unfold halK
  rw [trim_hd h2, h1]
theorem halK_len {ws : List Int} (h : okW ws) : (hd (wv ws)).length ≤ 2 * ws.length := by
  obtain ⟨h1, h2, h3⟩ := hv_halvL h
  rw [← halK_hd h]
  have := trimL_length (halvL ws)
  unfold halK; omega
def envR54 : Env := fun g => match g with | 118 => some ctHalves | _ => none
theorem envR54_ok : EnvOk Tryz.prog envR54 := by
  intro g ct h
  simp only [envR54] at h
  split at h <;> first | (cases h; exact ok118) | cases h
def ctSignZ : Ct := fun l => match l with
  | [a] => match zA a with
    | some (x, s) => some (s ≤ 268435456, vi x.sign)
    | none => none
  | _ => none
theorem ok89 : Sound Tryz.prog 89 ctSignZ := by
  refine sound_of (fn := Tryz.f89) rfl rfl rfl tiOk envR54_ok mix ?_ (by intro l p r h; unfold ctSignZ at h; split at h <;> first | cases h | (split at h <;> cases h; exact Nat.le_of_ble_eq_true rfl))
  intro l p r h hp F vs hvl
  unfold ctSignZ at h
  split at h
  rotate_left
  · cases h
  split at h <;> cases h
  rename_i az _ x s ha
  obtain ⟨v0, r0, rfl, a0, hvl⟩ := hvl
  obtain ⟨n0, w0, a0, ok0, len0, val0⟩ := zA_open ha a0
  refine ⟨[_], ⟨_, _, rfl, a0, hvl⟩, ?_⟩
  clear hvl
  have k0 := halK_hd ok0
  have p0 := wv_nonneg ok0
  have e0 := hv_hd p0
  have l0 := halK_len ok0
  have z0 := hd_len0 p0
  show Run Tryz.prog ti envR54 10 (finR ti [.tmp 2] _) _ _ _
  repeat' (first | with_reducible refine run_seq ?_ | with_reducible refine run_block ?_ | with_reducible refine step_code ?_ | with_reducible refine step_blk ?_ | with_reducible refine run_skip ?_ | with_reducible refine run_exit ?_ | with_reducible refine exits_code ?_ | with_reducible refine exits_here ?_ | with_reducible refine exits_blk rfl ?_ | with_reducible refine exits_lp ?_ | with_reducible refine run_ret ?_ | ((first | with_reducible refine run_region ?_ | with_reducible refine run_draw (by kernel_rfl) ?_); simp only [↓guardP_tt, ↓guardP_tf, ↓guardP_ft, ↓guardP_ff, guardP_t, guardP_f, evalQ, evalR, effQ, effR, skipS, opEff, evO, plainV, lkS, lkM, updL, putS, tie_sz, tie_zero, tie_zeroB, tie_fld, tie_ek, tie_int, tie_isb, tie_eq2, tie_f1, tie_ms, tie2_sz, tie2_zero, tie2_zeroB, tie2_fld, tie2_ek, tie2_int, tie2_isb, tie2_eq2, tie2_f1, tie2_ms, ti_ek2, ti_f1, ti_ms, ti_sz, ti_zero, ti_zeroB, ti_fld, ti_ek, ti_int, ti_isb, ti_eq2, binA, binI, intOp, funOf_v, cloOf_v, calIds, appEff, frE, foldB, foldS, castL_self, K.enc, K.dec, K.zero, K.es, K.bytes, AV.part, AV.setPart, AV.cells, AV.agg, AV.nth, Bool.false_eq_true, callEff, pubs, pub, nilAV, MM.upd, MM.set, argS, gdst, opIds, lids, AV.ids, List.getD_cons_succ, List.getD_cons_zero, List.map, List.tail, List.headD, List.nil_append, List.append_nil, List.cons_append, List.length_nil, List.length_cons, List.zip_cons_cons, List.zip_nil_right, List.set_cons_zero, List.set_cons_succ, List.replicate, Option.isSome_some, Option.map_some, Bool.not_true, Bool.not_false, forall_const, false_implies, Nat.reduceAdd, Nat.reduceEqDiff, Nat.reduceLT, Nat.reduceSub, Nat.reduceMul, Nat.reduceLeDiff, ↓reduceIte, and_true, true_and, and_self, false_and, and_false, reduceCtorEq, envR54, ctHalves, k0]) | (with_reducible refine run_cond (by with_unfolding_all exact rfl) ?_ ?_ <;> intro hc <;> (try simp only [vb, decide_eq_true_eq, decide_eq_false_iff_not, beq_iff_eq, beq_eq_false_iff_ne, bne_iff_ne, bne_eq_false_iff_eq, Bool.not_eq_true', Bool.not_eq_false', reduceCtorEq] at hc) <;> (try (first | simp (disch := omega) only [wrap64, wrapu64, wrapu32, sh32, fdiv32, Int.tdiv_eq_ediv_of_nonneg, Int.tmod_eq_emod_of_nonneg, tn_add, tn_add1, Int.toNat_natCast, Int.toNat_zero, List.drop_zero] at hc | simp only [wrapu64m, wrapu32m] at hc))) | ((with_reducible refine compat_ok ?_); kernel_rfl) | with_reducible apply And.intro | (first | simp (disch := omega) only [wrap64, wrapu64, wrapu32, sh32, fdiv32, Int.tdiv_eq_ediv_of_nonneg, Int.tmod_eq_emod_of_nonneg, tn_add, tn_add1, Int.toNat_natCast, Int.toNat_zero, List.drop_zero] | simp only [wrapu64m, wrapu32m]) | (with_reducible intro hg; (try simp only [vb, decide_eq_true_eq, decide_eq_false_iff_not, beq_iff_eq, beq_eq_false_iff_ne, bne_iff_ne, bne_eq_false_iff_eq, Bool.not_eq_true', Bool.not_eq_false', reduceCtorEq] at hg); (try (first | simp (disch := omega) only [wrap64, wrapu64, wrapu32, sh32, fdiv32, Int.tdiv_eq_ediv_of_nonneg, Int.tmod_eq_emod_of_nonneg, tn_add, tn_add1, Int.toNat_natCast, Int.toNat_zero, List.drop_zero] at hg | simp only [wrapu64m, wrapu32m] at hg))))
  all_goals try omega
  · simp only [finR, resAs, resA, resLe, lsLe, lkS, lkM, pubs, pub, tie_sz, ti_sz, tie_ek, ti_ek, tie2_sz, tie2_ek, ti_ek2, nilAV, MM.upd, MM.set, AV.part, AV.cells, AV.agg, List.tail, List.headD, Nat.reduceAdd, Nat.reduceEqDiff, Nat.reduceLT, ↓reduceIte, and_true, true_and, and_self, reduceCtorEq]
    refine AVle_int ?_
    rw [val0]
    have hz := z0.1 (by omega)
    cases n0 <;> simp [zval, hz]
  · rename_i hg
    have hp : 0 < wv w0 := by
      have : ¬ wv w0 = 0 := fun h => hg (by rw [z0.2 h]; rfl)
      omega
    simp only [finR, resAs, resA, resLe, lsLe, lkS, lkM, pubs, pub, tie_sz, ti_sz, tie_ek, ti_ek, tie2_sz, tie2_ek, ti_ek2, nilAV, MM.upd, MM.set, AV.part, AV.cells, AV.agg, List.tail, List.headD, Nat.reduceAdd, Nat.reduceEqDiff, Nat.reduceLT, ↓reduceIte, and_true, true_and, and_self, reduceCtorEq]
    refine AVle_int ?_
    rw [val0, hc, zval, if_pos rfl, Int.sign_neg, Int.sign_eq_one_of_pos hp]
  · rename_i hg
    have hp : 0 < wv w0 := by
      have : ¬ wv w0 = 0 := fun h => hg (by rw [z0.2 h]; rfl)
      omega
    simp only [finR, resAs, resA, resLe, lsLe, lkS, lkM, pubs, pub, tie_sz, ti_sz, tie_ek, ti_ek, tie2_sz, tie2_ek, ti_ek2, nilAV, MM.upd, MM.set, AV.part, AV.cells, AV.agg, List.tail, List.headD, Nat.reduceAdd, Nat.reduceEqDiff, Nat.reduceLT, ↓reduceIte, and_true, true_and, and_self, reduceCtorEq]
    refine AVle_int ?_
    rw [val0, hc, zval, if_neg (by simp), Int.sign_eq_one_of_pos hp]
def envR55 : Env := fun g => match g with | 118 => some ctHalves | 125 => some ctOfH | _ => none
theorem envR55_ok : EnvOk Tryz.prog envR55 := by
  intro g ct h
  simp only [envR55] at h
  split at h <;> first | (cases h; exact ok118) | (cases h; exact ok125) | cases h
def ctNegR : Ct := fun l => match l with
  | [a] => match zA a with
    | some (x, s) => some (s ≤ 268435456, .z (-x) true s)
    | none => none
  | _ => none
theorem ok119 : Sound Tryz.prog 119 ctNegR := by
  refine sound_of (fn := Tryz.f119) rfl rfl rfl tiOk envR55_ok mix ?_ (by intro l p r h; unfold ctNegR at h; split at h <;> first | cases h | (split at h <;> cases h; exact Nat.le_of_ble_eq_true rfl))
  intro l p r h hp F vs hvl
  unfold ctNegR at h
  split at h
  rotate_left
  · cases h
  split at h <;> cases h
  rename_i az _ x s ha
  obtain ⟨v0, r0, rfl, a0, hvl⟩ := hvl
  obtain ⟨n0, w0, a0, ok0, len0, val0⟩ := zA_open ha a0
  refine ⟨[_], ⟨_, _, rfl, a0, hvl⟩, ?_⟩
  clear hvl
  have k0 := halK_hd ok0
  have p0 := wv_nonneg ok0
  have e0 := hv_hd p0
  have l0 := halK_len ok0
  show Run Tryz.prog ti envR55 10 (finR ti [.cell 2 25] _) _ _ _
  repeat' (first | with_reducible refine run_seq ?_ | with_reducible refine run_block ?_ | with_reducible refine step_code ?_ | with_reducible refine step_blk ?_ | with_reducible refine run_skip ?_ | with_reducible refine run_exit ?_ | with_reducible refine exits_code ?_ | with_reducible refine exits_here ?_ | with_reducible refine exits_blk rfl ?_ | with_reducible refine exits_lp ?_ | with_reducible refine run_ret ?_ | ((first | with_reducible refine run_region ?_ | with_reducible refine run_draw (by kernel_rfl) ?_); simp only [↓guardP_tt, ↓guardP_tf, ↓guardP_ft, ↓guardP_ff, guardP_t, guardP_f, evalQ, evalR, effQ, effR, skipS, opEff, evO, plainV, lkS, lkM, updL, putS, tie_sz, tie_zero, tie_zeroB, tie_fld, tie_ek, tie_int, tie_isb, tie_eq2, tie_f1, tie_ms, tie2_sz, tie2_zero, tie2_zeroB, tie2_fld, tie2_ek, tie2_int, tie2_isb, tie2_eq2, tie2_f1, tie2_ms, ti_ek2, ti_f1, ti_ms, ti_sz, ti_zero, ti_zeroB, ti_fld, ti_ek, ti_int, ti_isb, ti_eq2, binA, binI, intOp, funOf_v, cloOf_v, calIds, appEff, frE, foldB, foldS, castL_self, K.enc, K.dec, K.zero, K.es, K.bytes, AV.part, AV.setPart, AV.cells, AV.agg, AV.nth, Bool.false_eq_true, callEff, pubs, pub, nilAV, MM.upd, MM.set, argS, gdst, opIds, lids, AV.ids, List.getD_cons_succ, List.getD_cons_zero, List.map, List.tail, List.headD, List.nil_append, List.append_nil, List.cons_append, List.length_nil, List.length_cons, List.zip_cons_cons, List.zip_nil_right, List.set_cons_zero, List.set_cons_succ, List.replicate, Option.isSome_some, Option.map_some, Bool.not_true, Bool.not_false, forall_const, false_implies, Nat.reduceAdd, Nat.reduceEqDiff, Nat.reduceLT, Nat.reduceSub, Nat.reduceMul, Nat.reduceLeDiff, ↓reduceIte, and_true, true_and, and_self, false_and, and_false, reduceCtorEq, envR55, ctHalves, ctOfH, k0, e0]) | (with_reducible refine run_cond (by with_unfolding_all exact rfl) ?_ ?_ <;> intro hc <;> (try simp only [vb, decide_eq_true_eq, decide_eq_false_iff_not, beq_iff_eq, beq_eq_false_iff_ne, bne_iff_ne, bne_eq_false_iff_eq, Bool.not_eq_true', Bool.not_eq_false', reduceCtorEq] at hc) <;> (try (first | simp (disch := omega) only [wrap64, wrapu64, wrapu32, sh32, fdiv32, Int.tdiv_eq_ediv_of_nonneg, Int.tmod_eq_emod_of_nonneg, tn_add, tn_add1, Int.toNat_natCast, Int.toNat_zero, List.drop_zero] at hc | simp only [wrapu64m, wrapu32m] at hc))) | ((with_reducible refine compat_ok ?_); kernel_rfl) | with_reducible apply And.intro | (first | simp (disch := omega) only [wrap64, wrapu64, wrapu32, sh32, fdiv32, Int.tdiv_eq_ediv_of_nonneg, Int.tmod_eq_emod_of_nonneg, tn_add, tn_add1, Int.toNat_natCast, Int.toNat_zero, List.drop_zero] | simp only [wrapu64m, wrapu32m]) | (with_reducible intro hg; (try simp only [vb, decide_eq_true_eq, decide_eq_false_iff_not, beq_iff_eq, beq_eq_false_iff_ne, bne_iff_ne, bne_eq_false_iff_eq, Bool.not_eq_true', Bool.not_eq_false', reduceCtorEq] at hg); (try (first | simp (disch := omega) only [wrap64, wrapu64, wrapu32, sh32, fdiv32, Int.tdiv_eq_ediv_of_nonneg, Int.tmod_eq_emod_of_nonneg, tn_add, tn_add1, Int.toNat_natCast, Int.toNat_zero, List.drop_zero] at hg | simp only [wrapu64m, wrapu32m] at hg))))
  all_goals try omega
  · exact okH_hd _
  · simp only [finR, resAs, resA, resLe, lsLe, lkS, lkM, pubs, pub, tie_sz, ti_sz, tie_ek, ti_ek, tie2_sz, tie2_ek, ti_ek2, nilAV, MM.upd, MM.set, AV.part, AV.cells, AV.agg, List.tail, List.headD, Nat.reduceAdd, Nat.reduceEqDiff, Nat.reduceLT, ↓reduceIte, and_true, true_and, and_self, reduceCtorEq]
    refine AVle_zz ?_ (by omega) (fun h => h)
    rw [val0]
    cases n0 <;> simp [zval]
def ctAbsR : Ct := fun l => match l with
  | [a] => match zA a with
    | some (x, s) => some (s ≤ 268435456, .z (x.natAbs : Int) true s)
    | none => none
  | _ => none
theorem ok124 : Sound Tryz.prog 124 ctAbsR := by
  refine sound_of (fn := Tryz.f124) rfl rfl rfl tiOk envR55_ok mix ?_ (by intro l p r h; unfold ctAbsR at h; split at h <;> first | cases h | (split at h <;> cases h; exact Nat.le_of_ble_eq_true rfl))
  intro l p r h hp F vs hvl
  unfold ctAbsR at h
  split at h
  rotate_left
  · cases h
  split at h <;> cases h
  rename_i az _ x s ha
  obtain ⟨v0, r0, rfl, a0, hvl⟩ := hvl
  obtain ⟨n0, w0, a0, ok0, len0, val0⟩ := zA_open ha a0
  refine ⟨[_], ⟨_, _, rfl, a0, hvl⟩, ?_⟩
  clear hvl
  have k0 := halK_hd ok0
  have p0 := wv_nonneg ok0
  have e0 := hv_hd p0
  have l0 := halK_len ok0
  show Run Tryz.prog ti envR55 7 (finR ti [.cell 2 25] _) _ _ _
  repeat' (first | with_reducible refine run_seq ?_ | with_reducible refine run_block ?_ | with_reducible refine step_code ?_ | with_reducible refine step_blk ?_ | with_reducible refine run_skip ?_ | with_reducible refine run_exit ?_ | with_reducible refine exits_code ?_ | with_reducible refine exits_here ?_ | with_reducible refine exits_blk rfl ?_ | with_reducible refine exits_lp ?_ | with_reducible refine run_ret ?_ | ((first | with_reducible refine run_region ?_ | with_reducible refine run_draw (by kernel_rfl) ?_); simp only [↓guardP_tt, ↓guardP_tf, ↓guardP_ft, ↓guardP_ff, guardP_t, guardP_f, evalQ, evalR, effQ, effR, skipS, opEff, evO, plainV, lkS, lkM, updL, putS, tie_sz, tie_zero, tie_zeroB, tie_fld, tie_ek, tie_int, tie_isb, tie_eq2, tie_f1, tie_ms, tie2_sz, tie2_zero, tie2_zeroB, tie2_fld, tie2_ek, tie2_int, tie2_isb, tie2_eq2, tie2_f1, tie2_ms, ti_ek2, ti_f1, ti_ms, ti_sz, ti_zero, ti_zeroB, ti_fld, ti_ek, ti_int, ti_isb, ti_eq2, binA, binI, intOp, funOf_v, cloOf_v, calIds, appEff, frE, foldB, foldS, castL_self, K.enc, K.dec, K.zero, K.es, K.bytes, AV.part, AV.setPart, AV.cells, AV.agg, AV.nth, Bool.false_eq_true, callEff, pubs, pub, nilAV, MM.upd, MM.set, argS, gdst, opIds, lids, AV.ids, List.getD_cons_succ, List.getD_cons_zero, List.map, List.tail, List.headD, List.nil_append, List.append_nil, List.cons_append, List.length_nil, List.length_cons, List.zip_cons_cons, List.zip_nil_right, List.set_cons_zero, List.set_cons_succ, List.replicate, Option.isSome_some, Option.map_some, Bool.not_true, Bool.not_false, forall_const, false_implies, Nat.reduceAdd, Nat.reduceEqDiff, Nat.reduceLT, Nat.reduceSub, Nat.reduceMul, Nat.reduceLeDiff, ↓reduceIte, and_true, true_and, and_self, false_and, and_false, reduceCtorEq, envR55, ctHalves, ctOfH, k0, e0]) | (with_reducible refine run_cond (by with_unfolding_all exact rfl) ?_ ?_ <;> intro hc <;> (try simp only [vb, decide_eq_true_eq, decide_eq_false_iff_not, beq_iff_eq, beq_eq_false_iff_ne, bne_iff_ne, bne_eq_false_iff_eq, Bool.not_eq_true', Bool.not_eq_false', reduceCtorEq] at hc) <;> (try (first | simp (disch := omega) only [wrap64, wrapu64, wrapu32, sh32, fdiv32, Int.tdiv_eq_ediv_of_nonneg, Int.tmod_eq_emod_of_nonneg, tn_add, tn_add1, Int.toNat_natCast, Int.toNat_zero, List.drop_zero] at hc | simp only [wrapu64m, wrapu32m] at hc))) | ((with_reducible refine compat_ok ?_); kernel_rfl) | with_reducible apply And.intro | (first | simp (disch := omega) only [wrap64, wrapu64, wrapu32, sh32, fdiv32, Int.tdiv_eq_ediv_of_nonneg, Int.tmod_eq_emod_of_nonneg, tn_add, tn_add1, Int.toNat_natCast, Int.toNat_zero, List.drop_zero] | simp only [wrapu64m, wrapu32m]) | (with_reducible intro hg; (try simp only [vb, decide_eq_true_eq, decide_eq_false_iff_not, beq_iff_eq, beq_eq_false_iff_ne, bne_iff_ne, bne_eq_false_iff_eq, Bool.not_eq_true', Bool.not_eq_false', reduceCtorEq] at hg); (try (first | simp (disch := omega) only [wrap64, wrapu64, wrapu32, sh32, fdiv32, Int.tdiv_eq_ediv_of_nonneg, Int.tmod_eq_emod_of_nonneg, tn_add, tn_add1, Int.toNat_natCast, Int.toNat_zero, List.drop_zero] at hg | simp only [wrapu64m, wrapu32m] at hg))))
  all_goals try omega
  · exact okH_hd _
  · simp only [finR, resAs, resA, resLe, lsLe, lkS, lkM, pubs, pub, tie_sz, ti_sz, tie_ek, ti_ek, tie2_sz, tie2_ek, ti_ek2, nilAV, MM.upd, MM.set, AV.part, AV.cells, AV.agg, List.tail, List.headD, Nat.reduceAdd, Nat.reduceEqDiff, Nat.reduceLT, ↓reduceIte, and_true, true_and, and_self, reduceCtorEq]
    refine AVle_zz ?_ (by omega) (fun h => h)
    rw [val0]
    cases n0 <;> simp [zval] <;> omega
def envR56 : Env := fun g => match g with | 118 => some ctHalves | 89 => some ctSignZ | 128 => some ctCmpH | _ => none
theorem envR56_ok : EnvOk Tryz.prog envR56 := by
  intro g ct h
  simp only [envR56] at h
  split at h <;> first | (cases h; exact ok118) | (cases h; exact ok89) | (cases h; exact ok128) | cases h
def ctCmpR : Ct := fun l => match l with
  | [a, b] => match zA a, zA b with
    | some (x, s), some (y, t) => some (s ≤ 268435456 ∧ t ≤ 268435456, vi (cmpI x y))
    | _, _ => none
  | _ => none
theorem sgn3 (x : Int) : (x < 0 ∧ x.sign = -1) ∨ (x = 0 ∧ x.sign = 0) ∨ (0 < x ∧ x.sign = 1) := by
  rcases Int.lt_trichotomy x 0 with hx | hx | hx
  · exact .inl ⟨hx, Int.sign_eq_neg_one_of_neg hx⟩
  · subst hx; exact .inr (.inl ⟨rfl, rfl⟩)
  · exact .inr (.inr ⟨hx, Int.sign_eq_one_of_pos hx⟩)
theorem cmpI_bd (x y : Int) : -1 ≤ cmpI x y ∧ cmpI x y ≤ 1 := by unfold cmpI; (repeat' split) <;> decide
theorem cmp_sign {x y : Int} (h : x.sign ≠ y.sign) : cmpI x y = if x.sign < y.sign then -1 else 1 := by
  have h1 := sgn3 x
  have h2 := sgn3 y
  unfold cmpI
  (repeat' split) <;> omega
theorem cmp_halves {n m : Bool} {a b : Int} (ha : 0 ≤ a) (hb : 0 ≤ b) (x y : Int) (hx : x = if n = true then -a else a) (hy : y = if m = true then -b else b) (h : x.sign = y.sign) :
    cmpI x y = if x.sign < 0 then - cmpI a b else cmpI a b := by
  have h1 := sgn3 x
  have h2 := sgn3 y
  unfold cmpI
  cases n <;> cases m <;> simp only [Bool.false_eq_true, ↓reduceIte] at hx hy <;> (repeat' split) <;> omega
theorem ok122 : Sound Tryz.prog 122 ctCmpR := by
  refine sound_of (fn := Tryz.f122) rfl rfl rfl tiOk envR56_ok mix ?_ (by intro l p r h; unfold ctCmpR at h; split at h <;> first | cases h | (split at h <;> cases h; exact Nat.le_of_ble_eq_true rfl))
  intro l p r h hp F vs hvl
  unfold ctCmpR at h
  split at h
  rotate_left
  · cases h
  split at h <;> cases h
  rename_i az bz _ _ x s y t ha hb
  obtain ⟨v0, r0, rfl, a0, v1, r1, rfl, a1, hvl⟩ := hvl
  obtain ⟨n0, w0, a0, ok0, len0, val0⟩ := zA_open ha a0
  obtain ⟨n1, w1, a1, ok1, len1, val1⟩ := zA_open hb a1
  refine ⟨[_, _], ⟨_, _, rfl, a0, _, _, rfl, a1, hvl⟩, ?_⟩
  clear hvl
  have k0 := halK_hd ok0
  have k1 := halK_hd ok1
  have p0 := wv_nonneg ok0
  have p1 := wv_nonneg ok1
  have e0 := hv_hd p0
  have e1 := hv_hd p1
  have l0 := halK_len ok0
  have l1 := halK_len ok1
  have hs := cmp_sign (x := x) (y := y)
  have ch := cmp_halves (n := n0) (m := n1) p0 p1 x y (by rw [val0, zval]) (by rw [val1, zval])
  rw [val0, val1] at hs ch
  show Run Tryz.prog ti envR56 29 (finR ti [.tmp 4] _) _ _ _
  repeat' (first | with_reducible refine run_seq ?_ | with_reducible refine run_block ?_ | with_reducible refine step_code ?_ | with_reducible refine step_blk ?_ | with_reducible refine run_skip ?_ | with_reducible refine run_exit ?_ | with_reducible refine exits_code ?_ | with_reducible refine exits_here ?_ | with_reducible refine exits_blk rfl ?_ | with_reducible refine exits_lp ?_ | with_reducible refine run_ret ?_ | ((first | with_reducible refine run_region ?_ | with_reducible refine run_draw (by kernel_rfl) ?_); simp only [↓guardP_tt, ↓guardP_tf, ↓guardP_ft, ↓guardP_ff, guardP_t, guardP_f, evalQ, evalR, effQ, effR, skipS, opEff, evO, plainV, lkS, lkM, updL, putS, tie_sz, tie_zero, tie_zeroB, tie_fld, tie_ek, tie_int, tie_isb, tie_eq2, tie_f1, tie_ms, tie2_sz, tie2_zero, tie2_zeroB, tie2_fld, tie2_ek, tie2_int, tie2_isb, tie2_eq2, tie2_f1, tie2_ms, ti_ek2, ti_f1, ti_ms, ti_sz, ti_zero, ti_zeroB, ti_fld, ti_ek, ti_int, ti_isb, ti_eq2, binA, binI, intOp, funOf_v, cloOf_v, calIds, appEff, frE, foldB, foldS, castL_self, K.enc, K.dec, K.zero, K.es, K.bytes, AV.part, AV.setPart, AV.cells, AV.agg, AV.nth, Bool.false_eq_true, callEff, pubs, pub, nilAV, MM.upd, MM.set, argS, gdst, opIds, lids, AV.ids, List.getD_cons_succ, List.getD_cons_zero, List.map, List.tail, List.headD, List.nil_append, List.append_nil, List.cons_append, List.length_nil, List.length_cons, List.zip_cons_cons, List.zip_nil_right, List.set_cons_zero, List.set_cons_succ, List.replicate, Option.isSome_some, Option.map_some, Bool.not_true, Bool.not_false, forall_const, false_implies, Nat.reduceAdd, Nat.reduceEqDiff, Nat.reduceLT, Nat.reduceSub, Nat.reduceMul, Nat.reduceLeDiff, ↓reduceIte, and_true, true_and, and_self, false_and, and_false, reduceCtorEq, envR56, ctHalves, ctSignZ, ctCmpH, zA, k0, k1, e0, e1]) | (with_reducible refine run_cond (by with_unfolding_all exact rfl) ?_ ?_ <;> intro hc <;> (try simp only [vb, decide_eq_true_eq, decide_eq_false_iff_not, beq_iff_eq, beq_eq_false_iff_ne, bne_iff_ne, bne_eq_false_iff_eq, Bool.not_eq_true', Bool.not_eq_false', reduceCtorEq] at hc) <;> (try (first | simp (disch := omega) only [wrap64, wrapu64, wrapu32, sh32, fdiv32, Int.tdiv_eq_ediv_of_nonneg, Int.tmod_eq_emod_of_nonneg, tn_add, tn_add1, Int.toNat_natCast, Int.toNat_zero, List.drop_zero] at hc | simp only [wrapu64m, wrapu32m] at hc))) | ((with_reducible refine compat_ok ?_); kernel_rfl) | with_reducible apply And.intro | (first | simp (disch := omega) only [wrap64, wrapu64, wrapu32, sh32, fdiv32, Int.tdiv_eq_ediv_of_nonneg, Int.tmod_eq_emod_of_nonneg, tn_add, tn_add1, Int.toNat_natCast, Int.toNat_zero, List.drop_zero] | simp only [wrapu64m, wrapu32m]) | (with_reducible intro hg; (try simp only [vb, decide_eq_true_eq, decide_eq_false_iff_not, beq_iff_eq, beq_eq_false_iff_ne, bne_iff_ne, bne_eq_false_iff_eq, Bool.not_eq_true', Bool.not_eq_false', reduceCtorEq] at hg); (try (first | simp (disch := omega) only [wrap64, wrapu64, wrapu32, sh32, fdiv32, Int.tdiv_eq_ediv_of_nonneg, Int.tmod_eq_emod_of_nonneg, tn_add, tn_add1, Int.toNat_natCast, Int.toNat_zero, List.drop_zero] at hg | simp only [wrapu64m, wrapu32m] at hg))))
  all_goals try omega
  · simp only [finR, resAs, resA, resLe, lsLe, lkS, lkM, pubs, pub, tie_sz, ti_sz, tie_ek, ti_ek, tie2_sz, tie2_ek, ti_ek2, nilAV, MM.upd, MM.set, AV.part, AV.cells, AV.agg, List.tail, List.headD, Nat.reduceAdd, Nat.reduceEqDiff, Nat.reduceLT, ↓reduceIte, and_true, true_and, and_self, reduceCtorEq]
    exact AVle_int (by rw [val0, val1, hs ‹_›, if_pos hc])
  · simp only [finR, resAs, resA, resLe, lsLe, lkS, lkM, pubs, pub, tie_sz, ti_sz, tie_ek, ti_ek, tie2_sz, tie2_ek, ti_ek2, nilAV, MM.upd, MM.set, AV.part, AV.cells, AV.agg, List.tail, List.headD, Nat.reduceAdd, Nat.reduceEqDiff, Nat.reduceLT, ↓reduceIte, and_true, true_and, and_self, reduceCtorEq]
    exact AVle_int (by rw [val0, val1, hs ‹_›, if_neg hc])
  · exact okH_hd _
  · exact okH_hd _
  · have := cmpI_bd (wv w0) (wv w1)
    simp only [finR, resAs, resA, resLe, lsLe, lkS, lkM, pubs, pub, tie_sz, ti_sz, tie_ek, ti_ek, tie2_sz, tie2_ek, ti_ek2, nilAV, MM.upd, MM.set, AV.part, AV.cells, AV.agg, List.tail, List.headD, Nat.reduceAdd, Nat.reduceEqDiff, Nat.reduceLT, ↓reduceIte, and_true, true_and, and_self, reduceCtorEq]
    refine AVle_int ?_
    (first | simp (disch := omega) only [wrap64, wrapu64, wrapu32, sh32, fdiv32, Int.tdiv_eq_ediv_of_nonneg, Int.tmod_eq_emod_of_nonneg, tn_add, tn_add1, Int.toNat_natCast, Int.toNat_zero, List.drop_zero] | simp only [wrapu64m, wrapu32m])
    rw [val0, val1, ch ‹_›, if_pos hc]
  · simp only [finR, resAs, resA, resLe, lsLe, lkS, lkM, pubs, pub, tie_sz, ti_sz, tie_ek, ti_ek, tie2_sz, tie2_ek, ti_ek2, nilAV, MM.upd, MM.set, AV.part, AV.cells, AV.agg, List.tail, List.headD, Nat.reduceAdd, Nat.reduceEqDiff, Nat.reduceLT, ↓reduceIte, and_true, true_and, and_self, reduceCtorEq]
    exact AVle_int (by rw [val0, val1, ch ‹_›, if_neg hc])
def envR57 : Env := fun g => match g with | 118 => some ctHalves | 125 => some ctOfH | 143 => some ctDivH | _ => none
theorem envR57_ok : EnvOk Tryz.prog envR57 := by
  intro g ct h
  simp only [envR57] at h
  split at h <;> first | (cases h; exact ok118) | (cases h; exact ok125) | (cases h; exact ok143) | cases h
def ctGcdR : Ct := fun l => match l with
  | [a, b] => match zA a, zA b with
    | some (x, s), some (y, t) => some (s ≤ 400000 ∧ t ≤ 400000, .z (Int.gcd x y) true (max s t))
    | _, _ => none
  | _ => none
theorem ok120 : Sound Tryz.prog 120 ctGcdR := by
  refine sound_of (fn := Tryz.f120) rfl rfl rfl tiOk envR57_ok mix ?_ (by intro l p r h; unfold ctGcdR at h; split at h <;> first | cases h | (split at h <;> cases h; exact Nat.le_of_ble_eq_true rfl))
  intro l p r h hp F vs hvl
  unfold ctGcdR at h
  split at h
  rotate_left
  · cases h
  split at h <;> cases h
  rename_i az bz _ _ x s y t ha hb
  obtain ⟨v0, r0, rfl, a0, v1, r1, rfl, a1, hvl⟩ := hvl
  obtain ⟨n0, w0, a0, ok0, len0, val0⟩ := zA_open ha a0
  obtain ⟨n1, w1, a1, ok1, len1, val1⟩ := zA_open hb a1
  refine ⟨[_, _], ⟨_, _, rfl, a0, _, _, rfl, a1, hvl⟩, ?_⟩
  clear hvl
  have k0 := halK_hd ok0
  have k1 := halK_hd ok1
  have p0 := wv_nonneg ok0
  have p1 := wv_nonneg ok1
  have e0 := hv_hd p0
  have e1 := hv_hd p1
  have l0 := halK_len ok0
  have l1 := halK_len ok1
  show Run Tryz.prog ti envR57 28 (finR ti [.cell 4 25] _) _ _ _
  repeat' (first | with_reducible refine run_seq ?_ | with_reducible refine run_block ?_ | with_reducible refine step_code ?_ | with_reducible refine step_blk ?_ | with_reducible refine run_skip ?_ | with_reducible refine run_exit ?_ | with_reducible refine exits_code ?_ | with_reducible refine exits_here ?_ | with_reducible refine exits_blk rfl ?_ | with_reducible refine exits_lp ?_ | with_reducible refine run_ret ?_ | ((first | with_reducible refine run_region ?_ | with_reducible refine run_draw (by kernel_rfl) ?_); simp only [↓guardP_tt, ↓guardP_tf, ↓guardP_ft, ↓guardP_ff, guardP_t, guardP_f, evalQ, evalR, effQ, effR, skipS, opEff, evO, plainV, lkS, lkM, updL, putS, tie_sz, tie_zero, tie_zeroB, tie_fld, tie_ek, tie_int, tie_isb, tie_eq2, tie_f1, tie_ms, tie2_sz, tie2_zero, tie2_zeroB, tie2_fld, tie2_ek, tie2_int, tie2_isb, tie2_eq2, tie2_f1, tie2_ms, ti_ek2, ti_f1, ti_ms, ti_sz, ti_zero, ti_zeroB, ti_fld, ti_ek, ti_int, ti_isb, ti_eq2, binA, binI, intOp, funOf_v, cloOf_v, calIds, appEff, frE, foldB, foldS, castL_self, K.enc, K.dec, K.zero, K.es, K.bytes, AV.part, AV.setPart, AV.cells, AV.agg, AV.nth, Bool.false_eq_true, callEff, pubs, pub, nilAV, MM.upd, MM.set, argS, gdst, opIds, lids, AV.ids, List.getD_cons_succ, List.getD_cons_zero, List.map, List.tail, List.headD, List.nil_append, List.append_nil, List.cons_append, List.length_nil, List.length_cons, List.zip_cons_cons, List.zip_nil_right, List.set_cons_zero, List.set_cons_succ, List.replicate, Option.isSome_some, Option.map_some, Bool.not_true, Bool.not_false, forall_const, false_implies, Nat.reduceAdd, Nat.reduceEqDiff, Nat.reduceLT, Nat.reduceSub, Nat.reduceMul, Nat.reduceLeDiff, ↓reduceIte, and_true, true_and, and_self, false_and, and_false, reduceCtorEq, envR57, ctHalves, k0, k1]) | (with_reducible refine run_cond (by with_unfolding_all exact rfl) ?_ ?_ <;> intro hc <;> (try simp only [vb, decide_eq_true_eq, decide_eq_false_iff_not, beq_iff_eq, beq_eq_false_iff_ne, bne_iff_ne, bne_eq_false_iff_eq, Bool.not_eq_true', Bool.not_eq_false', reduceCtorEq] at hc) <;> (try (first | simp (disch := omega) only [wrap64, wrapu64, wrapu32, sh32, fdiv32, Int.tdiv_eq_ediv_of_nonneg, Int.tmod_eq_emod_of_nonneg, tn_add, tn_add1, Int.toNat_natCast, Int.toNat_zero, List.drop_zero] at hc | simp only [wrapu64m, wrapu32m] at hc))) | ((with_reducible refine compat_ok ?_); kernel_rfl) | with_reducible apply And.intro | (first | simp (disch := omega) only [wrap64, wrapu64, wrapu32, sh32, fdiv32, Int.tdiv_eq_ediv_of_nonneg, Int.tmod_eq_emod_of_nonneg, tn_add, tn_add1, Int.toNat_natCast, Int.toNat_zero, List.drop_zero] | simp only [wrapu64m, wrapu32m]) | (with_reducible intro hg; (try simp only [vb, decide_eq_true_eq, decide_eq_false_iff_not, beq_iff_eq, beq_eq_false_iff_ne, bne_iff_ne, bne_eq_false_iff_eq, Bool.not_eq_true', Bool.not_eq_false', reduceCtorEq] at hg); (try (first | simp (disch := omega) only [wrap64, wrapu64, wrapu32, sh32, fdiv32, Int.tdiv_eq_ediv_of_nonneg, Int.tmod_eq_emod_of_nonneg, tn_add, tn_add1, Int.toNat_natCast, Int.toNat_zero, List.drop_zero] at hg | simp only [wrapu64m, wrapu32m] at hg))))
  all_goals try omega
  refine run_loop (ι := Int × Int) (fun q => ⟨[(5, .lst .i64 (hd q.1)), (6, .lst .i64 (hd q.2)), (4, .ptr 2 0)], [(2, some (.box 25 (.pair (vb false) (.lst .u32 []))))], 3⟩)
    (fun q => 0 ≤ q.1 ∧ 0 ≤ q.2 ∧ (hd q.1).length ≤ 2 * max s t ∧ (hd q.2).length ≤ 2 * max s t ∧ Int.gcd q.1 q.2 = Int.gcd x y) (fun q => q.2.toNat) (wv w0, wv w1)
    ⟨p0, p1, by dsimp only; omega, by dsimp only; omega, by simp only [val0, val1, gcd_zval]⟩ ?_ ?_
  · dsimp only
    (refine AS.le_of ?_ ?_ <;> simp only [slLe, memLe, entLe, lkS, lkM, Nat.reduceEqDiff, Nat.reduceLT, or_true, true_or, reduceCtorEq, ↓reduceIte, and_true, true_and] <;> (repeat' with_reducible apply And.intro) <;> (try (first | ((with_reducible refine AV.le_refl ?_); rfl) | with_reducible exact AV.le_junk | with_reducible exact AV.le_nil | ((with_reducible refine AV.le_int ?_); omega) | (with_reducible refine AV.le_int ?_) | (with_reducible refine AV.le_bool ?_) | ((with_reducible refine AV.le_lst ?_); try rfl) | (with_reducible refine AV.le_q ?_ ?_ ?_) | exact fun _ _ h => h | (with_reducible refine RC_qle ?_ ?_ ?_))))
  rintro ⟨a, b⟩ ⟨h1, h2, h3, h4, h5⟩
  dsimp only at h1 h2 h3 h4 h5 ⊢
  have hb0 := hd_len0 h2
  have hea := hv_hd h1
  have heb := hv_hd h2
  repeat' (first | with_reducible refine run_seq ?_ | with_reducible refine run_block ?_ | with_reducible refine step_code ?_ | with_reducible refine step_blk ?_ | with_reducible refine run_skip ?_ | with_reducible refine run_exit ?_ | with_reducible refine exits_code ?_ | with_reducible refine exits_here ?_ | with_reducible refine exits_blk rfl ?_ | with_reducible refine exits_lp ?_ | with_reducible refine run_ret ?_ | ((first | with_reducible refine run_region ?_ | with_reducible refine run_draw (by kernel_rfl) ?_); simp only [↓guardP_tt, ↓guardP_tf, ↓guardP_ft, ↓guardP_ff, guardP_t, guardP_f, evalQ, evalR, effQ, effR, skipS, opEff, evO, plainV, lkS, lkM, updL, putS, tie_sz, tie_zero, tie_zeroB, tie_fld, tie_ek, tie_int, tie_isb, tie_eq2, tie_f1, tie_ms, tie2_sz, tie2_zero, tie2_zeroB, tie2_fld, tie2_ek, tie2_int, tie2_isb, tie2_eq2, tie2_f1, tie2_ms, ti_ek2, ti_f1, ti_ms, ti_sz, ti_zero, ti_zeroB, ti_fld, ti_ek, ti_int, ti_isb, ti_eq2, binA, binI, intOp, funOf_v, cloOf_v, calIds, appEff, frE, foldB, foldS, castL_self, K.enc, K.dec, K.zero, K.es, K.bytes, AV.part, AV.setPart, AV.cells, AV.agg, AV.nth, Bool.false_eq_true, callEff, pubs, pub, nilAV, MM.upd, MM.set, argS, gdst, opIds, lids, AV.ids, List.getD_cons_succ, List.getD_cons_zero, List.map, List.tail, List.headD, List.nil_append, List.append_nil, List.cons_append, List.length_nil, List.length_cons, List.zip_cons_cons, List.zip_nil_right, List.set_cons_zero, List.set_cons_succ, List.replicate, Option.isSome_some, Option.map_some, Bool.not_true, Bool.not_false, forall_const, false_implies, Nat.reduceAdd, Nat.reduceEqDiff, Nat.reduceLT, Nat.reduceSub, Nat.reduceMul, Nat.reduceLeDiff, ↓reduceIte, and_true, true_and, and_self, false_and, and_false, reduceCtorEq, envR57, ctOfH, ctDivH, hea, heb]) | (with_reducible refine run_cond (by with_unfolding_all exact rfl) ?_ ?_ <;> intro hc <;> (try simp only [vb, decide_eq_true_eq, decide_eq_false_iff_not, beq_iff_eq, beq_eq_false_iff_ne, bne_iff_ne, bne_eq_false_iff_eq, Bool.not_eq_true', Bool.not_eq_false', reduceCtorEq] at hc) <;> (try (first | simp (disch := omega) only [wrap64, wrapu64, wrapu32, sh32, fdiv32, Int.tdiv_eq_ediv_of_nonneg, Int.tmod_eq_emod_of_nonneg, tn_add, tn_add1, Int.toNat_natCast, Int.toNat_zero, List.drop_zero] at hc | simp only [wrapu64m, wrapu32m] at hc))) | ((with_reducible refine compat_ok ?_); kernel_rfl) | with_reducible apply And.intro | (first | simp (disch := omega) only [wrap64, wrapu64, wrapu32, sh32, fdiv32, Int.tdiv_eq_ediv_of_nonneg, Int.tmod_eq_emod_of_nonneg, tn_add, tn_add1, Int.toNat_natCast, Int.toNat_zero, List.drop_zero] | simp only [wrapu64m, wrapu32m]) | (with_reducible intro hg; (try simp only [vb, decide_eq_true_eq, decide_eq_false_iff_not, beq_iff_eq, beq_eq_false_iff_ne, bne_iff_ne, bne_eq_false_iff_eq, Bool.not_eq_true', Bool.not_eq_false', reduceCtorEq] at hg); (try (first | simp (disch := omega) only [wrap64, wrapu64, wrapu32, sh32, fdiv32, Int.tdiv_eq_ediv_of_nonneg, Int.tmod_eq_emod_of_nonneg, tn_add, tn_add1, Int.toNat_natCast, Int.toNat_zero, List.drop_zero] at hg | simp only [wrapu64m, wrapu32m] at hg))))
  all_goals try omega
  all_goals try first | exact okH_hd _ | exact hd_canon _
  · have hbp : 0 < b := by
      have : ¬ b = 0 := fun h => by rw [hb0.2 h] at hc; simp at hc
      omega
    have m0 := Int.emod_nonneg a (show b ≠ 0 by omega)
    have m1 := Int.emod_lt_of_pos a hbp
    have m2 := hd_mono (show a % b ≤ b by omega)
    refine step_lp ⟨(b, a % b), ⟨h2, m0, h4, by dsimp only; omega, by dsimp only; rw [gcd_step h1 h2, h5]⟩, by dsimp only; omega, ?_⟩
    dsimp only
    (refine AS.le_of ?_ ?_ <;> simp only [slLe, memLe, entLe, lkS, lkM, Nat.reduceEqDiff, Nat.reduceLT, or_true, true_or, reduceCtorEq, ↓reduceIte, and_true, true_and] <;> (repeat' with_reducible apply And.intro) <;> (try (first | ((with_reducible refine AV.le_refl ?_); rfl) | with_reducible exact AV.le_junk | with_reducible exact AV.le_nil | ((with_reducible refine AV.le_int ?_); omega) | (with_reducible refine AV.le_int ?_) | (with_reducible refine AV.le_bool ?_) | ((with_reducible refine AV.le_lst ?_); try rfl) | (with_reducible refine AV.le_q ?_ ?_ ?_) | exact fun _ _ h => h | (with_reducible refine RC_qle ?_ ?_ ?_))))
  · have hbz : b = 0 := hb0.1 (by omega)
    rw [hbz, Int.gcd_zero_right] at h5
    simp only [finR, resAs, resA, resLe, lsLe, lkS, lkM, pubs, pub, tie_sz, ti_sz, tie_ek, ti_ek, tie2_sz, tie2_ek, ti_ek2, nilAV, MM.upd, MM.set, AV.part, AV.cells, AV.agg, List.tail, List.headD, Nat.reduceAdd, Nat.reduceEqDiff, Nat.reduceLT, ↓reduceIte, and_true, true_and, and_self, reduceCtorEq]
    exact AVle_zz (by rw [← h5]; omega) (by omega) (fun h => h)
def envR58 : Env := fun g => match g with | 118 => some ctHalves | 125 => some ctOfH | 143 => some ctDivH | 127 => some ctAddH | 129 => some ctSubH | _ => none
theorem envR58_ok : EnvOk Tryz.prog envR58 := by
  intro g ct h
  simp only [envR58] at h
  split at h <;> first | (cases h; exact ok118) | (cases h; exact ok125) | (cases h; exact ok143) | (cases h; exact ok127) | (cases h; exact ok129) | cases h
def ctDivR : Ct := fun l => match l with
  | [a, b] => match zA a, zA b with
    | some (x, s), some (y, t) => some (s ≤ 400000 ∧ t ≤ 400000 ∧ y ≠ 0, .tup (.tc (.z (x / y) true (s + 2)) (.tc (.z (x % y) true (t + 1)) (.tc (vi 0) .tn))))
    | _, _ => none
  | _ => none
theorem ok121 : Sound Tryz.prog 121 ctDivR := by
  refine sound_of (fn := Tryz.f121) rfl rfl rfl tiOk envR58_ok mix ?_ (by intro l p r h; unfold ctDivR at h; split at h <;> first | cases h | (split at h <;> cases h; exact Nat.le_of_ble_eq_true rfl))
  intro l p r h hp F vs hvl
  unfold ctDivR at h
  split at h
  rotate_left
  · cases h
  split at h <;> cases h
  rename_i az bz _ _ x s y t ha hb
  obtain ⟨v0, r0, rfl, a0, v1, r1, rfl, a1, hvl⟩ := hvl
  obtain ⟨n0, w0, a0, ok0, len0, val0⟩ := zA_open ha a0
  obtain ⟨n1, w1, a1, ok1, len1, val1⟩ := zA_open hb a1
  refine ⟨[_, _], ⟨_, _, rfl, a0, _, _, rfl, a1, hvl⟩, ?_⟩
  clear hvl
  have k0 := halK_hd ok0
  have k1 := halK_hd ok1
  have p0 := wv_nonneg ok0
  have p1 := wv_nonneg ok1
  have e0 := hv_hd p0
  have e1 := hv_hd p1
  have l0 := halK_len ok0
  have l1 := halK_len ok1
  have hy0 : wv w1 ≠ 0 := by intro h; apply hp.2.2; rw [val1]; cases n1 <;> simp [zval, h]
  have hy : 0 < wv w1 := by omega
  have z1 := hd_len0 p1
  have m0 := Int.emod_nonneg (wv w0) hy0
  have m1 := Int.emod_lt_of_pos (wv w0) hy
  have q0 := Int.ediv_nonneg p0 p1
  have q1 := Int.ediv_le_self (wv w1) p0
  have lq := hd_mono q1
  have lm := hd_mono (show wv w0 % wv w1 ≤ wv w1 by omega)
  have zm := hd_len0 m0
  have eq0 := hv_hd q0
  have em0 := hv_hd m0
  have eq1 : hv (hd (wv w0 / wv w1 + 1)) = wv w0 / wv w1 + 1 := hv_hd (by omega)
  have em1 : hv (hd (wv w1 - wv w0 % wv w1)) = wv w1 - wv w0 % wv w1 := hv_hd (by omega)
  have hone : hv [1] = 1 := rfl
  have ho1 : okH [1] := okH_cons (by decide) okH_nil
  have lq1 : (hd (wv w0 / wv w1 + 1)).length ≤ 2 * w0.length + 1 := by
    have h1 := hd_len_lt (x := wv w0) p0
    refine Nat.le_trans (hd_lenp (k := (hd (wv w0)).length + 1) (by rw [Int.pow_succ]; omega)) (by omega)
  have lm1 := hd_mono (show wv w1 - wv w0 % wv w1 ≤ wv w1 by omega)
  show Run Tryz.prog ti envR58 50 (finR ti [.cell 4 25, .cell 5 25, .tmp 6] _) _ _ _
  repeat' (first | with_reducible refine run_seq ?_ | with_reducible refine run_block ?_ | with_reducible refine step_code ?_ | with_reducible refine step_blk ?_ | with_reducible refine run_skip ?_ | with_reducible refine run_exit ?_ | with_reducible refine exits_code ?_ | with_reducible refine exits_here ?_ | with_reducible refine exits_blk rfl ?_ | with_reducible refine exits_lp ?_ | with_reducible refine run_ret ?_ | ((first | with_reducible refine run_region ?_ | with_reducible refine run_draw (by kernel_rfl) ?_); simp only [↓guardP_tt, ↓guardP_tf, ↓guardP_ft, ↓guardP_ff, guardP_t, guardP_f, evalQ, evalR, effQ, effR, skipS, opEff, evO, plainV, lkS, lkM, updL, putS, tie_sz, tie_zero, tie_zeroB, tie_fld, tie_ek, tie_int, tie_isb, tie_eq2, tie_f1, tie_ms, tie2_sz, tie2_zero, tie2_zeroB, tie2_fld, tie2_ek, tie2_int, tie2_isb, tie2_eq2, tie2_f1, tie2_ms, ti_ek2, ti_f1, ti_ms, ti_sz, ti_zero, ti_zeroB, ti_fld, ti_ek, ti_int, ti_isb, ti_eq2, binA, binI, intOp, funOf_v, cloOf_v, calIds, appEff, frE, foldB, foldS, castL_self, K.enc, K.dec, K.zero, K.es, K.bytes, AV.part, AV.setPart, AV.cells, AV.agg, AV.nth, Bool.false_eq_true, callEff, pubs, pub, nilAV, MM.upd, MM.set, argS, gdst, opIds, lids, AV.ids, List.getD_cons_succ, List.getD_cons_zero, List.map, List.tail, List.headD, List.nil_append, List.append_nil, List.cons_append, List.length_nil, List.length_cons, List.zip_cons_cons, List.zip_nil_right, List.set_cons_zero, List.set_cons_succ, List.replicate, Option.isSome_some, Option.map_some, Bool.not_true, Bool.not_false, forall_const, false_implies, Nat.reduceAdd, Nat.reduceEqDiff, Nat.reduceLT, Nat.reduceSub, Nat.reduceMul, Nat.reduceLeDiff, ↓reduceIte, and_true, true_and, and_self, false_and, and_false, reduceCtorEq, envR58, ctHalves, ctOfH, ctDivH, ctAddH, ctSubH, k0, k1, e0, e1, eq0, em0, eq1, em1, hone]) | (with_reducible refine run_cond (by with_unfolding_all exact rfl) ?_ ?_ <;> intro hc <;> (try simp only [vb, decide_eq_true_eq, decide_eq_false_iff_not, beq_iff_eq, beq_eq_false_iff_ne, bne_iff_ne, bne_eq_false_iff_eq, Bool.not_eq_true', Bool.not_eq_false', reduceCtorEq] at hc) <;> (try (first | simp (disch := omega) only [wrap64, wrapu64, wrapu32, sh32, fdiv32, Int.tdiv_eq_ediv_of_nonneg, Int.tmod_eq_emod_of_nonneg, tn_add, tn_add1, Int.toNat_natCast, Int.toNat_zero, List.drop_zero] at hc | simp only [wrapu64m, wrapu32m] at hc))) | ((with_reducible refine compat_ok ?_); kernel_rfl) | with_reducible apply And.intro | (first | simp (disch := omega) only [wrap64, wrapu64, wrapu32, sh32, fdiv32, Int.tdiv_eq_ediv_of_nonneg, Int.tmod_eq_emod_of_nonneg, tn_add, tn_add1, Int.toNat_natCast, Int.toNat_zero, List.drop_zero] | simp only [wrapu64m, wrapu32m]) | (with_reducible intro hg; (try simp only [vb, decide_eq_true_eq, decide_eq_false_iff_not, beq_iff_eq, beq_eq_false_iff_ne, bne_iff_ne, bne_eq_false_iff_eq, Bool.not_eq_true', Bool.not_eq_false', reduceCtorEq] at hg); (try (first | simp (disch := omega) only [wrap64, wrapu64, wrapu32, sh32, fdiv32, Int.tdiv_eq_ediv_of_nonneg, Int.tmod_eq_emod_of_nonneg, tn_add, tn_add1, Int.toNat_natCast, Int.toNat_zero, List.drop_zero] at hg | simp only [wrapu64m, wrapu32m] at hg))))
  all_goals try omega
  all_goals try first | exact okH_hd _ | exact hd_canon _ | exact ho1
  · have hne : wv w0 % wv w1 ≠ 0 := by
      intro h
      rw [zm.2 h] at hc
      simp at hc
    obtain ⟨k1, k2⟩ := neg_div hy hne
    simp only [finR, resAs, resA, resLe, lsLe, lkS, lkM, pubs, pub, tie_sz, ti_sz, tie_ek, ti_ek, tie2_sz, tie2_ek, ti_ek2, nilAV, MM.upd, MM.set, AV.part, AV.cells, AV.agg, List.tail, List.headD, Nat.reduceAdd, Nat.reduceEqDiff, Nat.reduceLT, ↓reduceIte, and_true, true_and, and_self, reduceCtorEq]
    refine ⟨AVle_zz ?_ (by omega) (fun h => h), AVle_zz ?_ (by omega) (fun h => h), AVle.rfl⟩
    · rw [val0, val1, hg]
      cases n1 <;> simp [zval, k1, Int.ediv_neg] <;> omega
    · rw [val0, val1, hg]
      cases n1 <;> simp [zval, k2, Int.emod_neg]
  · have hz : wv w0 % wv w1 = 0 := zm.1 (by omega)
    obtain ⟨k1, k2⟩ := neg_div0 hy hz
    simp only [finR, resAs, resA, resLe, lsLe, lkS, lkM, pubs, pub, tie_sz, ti_sz, tie_ek, ti_ek, tie2_sz, tie2_ek, ti_ek2, nilAV, MM.upd, MM.set, AV.part, AV.cells, AV.agg, List.tail, List.headD, Nat.reduceAdd, Nat.reduceEqDiff, Nat.reduceLT, ↓reduceIte, and_true, true_and, and_self, reduceCtorEq]
    refine ⟨AVle_zz ?_ (by omega) (fun h => h), AVle_zz ?_ (by omega) (fun h => h), AVle.rfl⟩
    · rw [val0, val1, hg]
      cases n1 <;> simp [zval, k1, Int.ediv_neg]
    · rw [val0, val1, hg]
      cases n1 <;> simp [zval, k2, hz, Int.emod_neg]
  · simp only [finR, resAs, resA, resLe, lsLe, lkS, lkM, pubs, pub, tie_sz, ti_sz, tie_ek, ti_ek, tie2_sz, tie2_ek, ti_ek2, nilAV, MM.upd, MM.set, AV.part, AV.cells, AV.agg, List.tail, List.headD, Nat.reduceAdd, Nat.reduceEqDiff, Nat.reduceLT, ↓reduceIte, and_true, true_and, and_self, reduceCtorEq]
    refine ⟨AVle_zz ?_ (by omega) (fun h => h), AVle_zz ?_ (by omega) (fun h => h), AVle.rfl⟩
    · rw [val0, val1, hg]
      cases n1 <;> simp [zval, Int.ediv_neg]
    · rw [val0, val1, hg]
      cases n1 <;> simp [zval, Int.emod_neg]
end Go.AE

/- Contracts: the reference's rationals in least form. -/
namespace Go.AE
open Go.Proofs Go.RowKit
set_option linter.unusedVariables false
set_option linter.unusedSimpArgs false
set_option maxRecDepth 20000

def ctOneR : Ct := fun l => match l with
  | [] => some (True, .z 1 true 2)
  | _ => none
def envR60 : Env := fun g => match g with | 88 => some ctFromI | _ => none
theorem envR60_ok : EnvOk Tryz.prog envR60 := by
  intro g ct h
  simp only [envR60] at h
  split at h <;> first | (cases h; exact ok88) | cases h
theorem ok123 : Sound Tryz.prog 123 ctOneR := by
  refine sound_of (fn := Tryz.f123) rfl rfl rfl tiOk envR60_ok mix ?_ (by intro l p r h; unfold ctOneR at h; split at h <;> cases h <;> exact Nat.le_of_ble_eq_true rfl)
  intro l p r h hp F vs hv
  unfold ctOneR at h
  split at h <;> cases h
  refine ⟨[], hv, ?_⟩
  show Run Tryz.prog ti envR60 2 (finR ti [.cell 0 25] _) _ _ _
  repeat' (first | with_reducible refine run_seq ?_ | with_reducible refine run_block ?_ | with_reducible refine step_code ?_ | with_reducible refine step_blk ?_ | with_reducible refine run_skip ?_ | with_reducible refine run_exit ?_ | with_reducible refine exits_code ?_ | with_reducible refine exits_here ?_ | with_reducible refine exits_blk rfl ?_ | with_reducible refine exits_lp ?_ | with_reducible refine run_ret ?_ | ((first | with_reducible refine run_region ?_ | with_reducible refine run_draw (by kernel_rfl) ?_); simp only [↓guardP_tt, ↓guardP_tf, ↓guardP_ft, ↓guardP_ff, guardP_t, guardP_f, evalQ, evalR, effQ, effR, skipS, opEff, evO, plainV, lkS, lkM, updL, putS, tie_sz, tie_zero, tie_zeroB, tie_fld, tie_ek, tie_int, tie_isb, tie_eq2, tie_f1, tie_ms, tie2_sz, tie2_zero, tie2_zeroB, tie2_fld, tie2_ek, tie2_int, tie2_isb, tie2_eq2, tie2_f1, tie2_ms, ti_ek2, ti_f1, ti_ms, ti_sz, ti_zero, ti_zeroB, ti_fld, ti_ek, ti_int, ti_isb, ti_eq2, binA, binI, intOp, funOf_v, cloOf_v, calIds, appEff, frE, foldB, foldS, castL_self, K.enc, K.dec, K.zero, K.es, K.bytes, AV.part, AV.setPart, AV.cells, AV.agg, AV.nth, Bool.false_eq_true, callEff, pubs, pub, nilAV, MM.upd, MM.set, argS, gdst, opIds, lids, AV.ids, List.getD_cons_succ, List.getD_cons_zero, List.map, List.tail, List.headD, List.nil_append, List.append_nil, List.cons_append, List.length_nil, List.length_cons, List.zip_cons_cons, List.zip_nil_right, List.set_cons_zero, List.set_cons_succ, List.replicate, Option.isSome_some, Option.map_some, Bool.not_true, Bool.not_false, forall_const, false_implies, Nat.reduceAdd, Nat.reduceEqDiff, Nat.reduceLT, Nat.reduceSub, Nat.reduceMul, Nat.reduceLeDiff, ↓reduceIte, and_true, true_and, and_self, false_and, and_false, reduceCtorEq, envR60, ctFromI]) | (with_reducible refine run_cond (by with_unfolding_all exact rfl) ?_ ?_ <;> intro hc <;> (try simp only [vb, decide_eq_true_eq, decide_eq_false_iff_not, beq_iff_eq, beq_eq_false_iff_ne, bne_iff_ne, bne_eq_false_iff_eq, Bool.not_eq_true', Bool.not_eq_false', reduceCtorEq] at hc) <;> (try (first | simp (disch := omega) only [wrap64, wrapu64, wrapu32, sh32, fdiv32, Int.tdiv_eq_ediv_of_nonneg, Int.tmod_eq_emod_of_nonneg, tn_add, tn_add1, Int.toNat_natCast, Int.toNat_zero, List.drop_zero] at hc | simp only [wrapu64m, wrapu32m] at hc))) | ((with_reducible refine compat_ok ?_); kernel_rfl) | with_reducible apply And.intro | (first | simp (disch := omega) only [wrap64, wrapu64, wrapu32, sh32, fdiv32, Int.tdiv_eq_ediv_of_nonneg, Int.tmod_eq_emod_of_nonneg, tn_add, tn_add1, Int.toNat_natCast, Int.toNat_zero, List.drop_zero] | simp only [wrapu64m, wrapu32m]) | (with_reducible intro hg; (try simp only [vb, decide_eq_true_eq, decide_eq_false_iff_not, beq_iff_eq, beq_eq_false_iff_ne, bne_iff_ne, bne_eq_false_iff_eq, Bool.not_eq_true', Bool.not_eq_false', reduceCtorEq] at hg); (try (first | simp (disch := omega) only [wrap64, wrapu64, wrapu32, sh32, fdiv32, Int.tdiv_eq_ediv_of_nonneg, Int.tmod_eq_emod_of_nonneg, tn_add, tn_add1, Int.toNat_natCast, Int.toNat_zero, List.drop_zero] at hg | simp only [wrapu64m, wrapu32m] at hg))))
  all_goals try omega
  simp only [finR, resAs, resA, resLe, lsLe, lkS, lkM, pubs, pub, tie_sz, ti_sz, tie_ek, ti_ek, tie2_sz, tie2_ek, ti_ek2, nilAV, MM.upd, MM.set, AV.part, AV.cells, AV.agg, List.tail, List.headD, Nat.reduceAdd, Nat.reduceEqDiff, Nat.reduceLT, ↓reduceIte, and_true, true_and, and_self, reduceCtorEq]
  exact AVle.rfl
def envR61 : Env := fun g => match g with | 89 => some ctSignZ | 119 => some ctNegR | 117 => some ctLeastZ | 123 => some ctOneR | 124 => some ctAbsR | _ => none
theorem envR61_ok : EnvOk Tryz.prog envR61 := by
  intro g ct h
  simp only [envR61] at h
  split at h <;> first | (cases h; exact ok89) | (cases h; exact ok119) | (cases h; exact ok117) | (cases h; exact ok123) | (cases h; exact ok124) | cases h
def ctNumR : Ct := fun l => match l with
  | [.pair (.z n cn s) (.z d cd t)] => some (s ≤ 268435456 ∧ t ≤ 268435456, .z (ofN n d) true s)
  | _ => none
theorem ok90 : Sound Tryz.prog 90 ctNumR := by
  refine sound_of (fn := Tryz.f90) rfl rfl rfl tiOk envR61_ok mix ?_ (by intro l p r h; unfold ctNumR at h; split at h <;> cases h <;> exact Nat.le_of_ble_eq_true rfl)
  intro l p r h hp F vs hv
  unfold ctNumR at h
  split at h <;> cases h
  rename_i n cn s d cd t
  obtain ⟨v0, rest0, rfl, a0, hv⟩ := hv
  refine ⟨[_], ⟨_, _, rfl, a0, hv⟩, ?_⟩
  have hs := sgn3 d
  show Run Tryz.prog ti envR61 13 (finR ti [.cell 2 25] _) _ _ _
  repeat' (first | with_reducible refine run_seq ?_ | with_reducible refine run_block ?_ | with_reducible refine step_code ?_ | with_reducible refine step_blk ?_ | with_reducible refine run_skip ?_ | with_reducible refine run_exit ?_ | with_reducible refine exits_code ?_ | with_reducible refine exits_here ?_ | with_reducible refine exits_blk rfl ?_ | with_reducible refine exits_lp ?_ | with_reducible refine run_ret ?_ | ((first | with_reducible refine run_region ?_ | with_reducible refine run_draw (by kernel_rfl) ?_); simp only [↓guardP_tt, ↓guardP_tf, ↓guardP_ft, ↓guardP_ff, guardP_t, guardP_f, evalQ, evalR, effQ, effR, skipS, opEff, evO, plainV, lkS, lkM, updL, putS, tie_sz, tie_zero, tie_zeroB, tie_fld, tie_ek, tie_int, tie_isb, tie_eq2, tie_f1, tie_ms, tie2_sz, tie2_zero, tie2_zeroB, tie2_fld, tie2_ek, tie2_int, tie2_isb, tie2_eq2, tie2_f1, tie2_ms, ti_ek2, ti_f1, ti_ms, ti_sz, ti_zero, ti_zeroB, ti_fld, ti_ek, ti_int, ti_isb, ti_eq2, binA, binI, intOp, funOf_v, cloOf_v, calIds, appEff, frE, foldB, foldS, castL_self, K.enc, K.dec, K.zero, K.es, K.bytes, AV.part, AV.setPart, AV.cells, AV.agg, AV.nth, Bool.false_eq_true, callEff, pubs, pub, nilAV, MM.upd, MM.set, argS, gdst, opIds, lids, AV.ids, List.getD_cons_succ, List.getD_cons_zero, List.map, List.tail, List.headD, List.nil_append, List.append_nil, List.cons_append, List.length_nil, List.length_cons, List.zip_cons_cons, List.zip_nil_right, List.set_cons_zero, List.set_cons_succ, List.replicate, Option.isSome_some, Option.map_some, Bool.not_true, Bool.not_false, forall_const, false_implies, Nat.reduceAdd, Nat.reduceEqDiff, Nat.reduceLT, Nat.reduceSub, Nat.reduceMul, Nat.reduceLeDiff, ↓reduceIte, and_true, true_and, and_self, false_and, and_false, reduceCtorEq, envR61, ctSignZ, ctNegR, ctLeastZ, zA]) | (with_reducible refine run_cond (by with_unfolding_all exact rfl) ?_ ?_ <;> intro hc <;> (try simp only [vb, decide_eq_true_eq, decide_eq_false_iff_not, beq_iff_eq, beq_eq_false_iff_ne, bne_iff_ne, bne_eq_false_iff_eq, Bool.not_eq_true', Bool.not_eq_false', reduceCtorEq] at hc) <;> (try (first | simp (disch := omega) only [wrap64, wrapu64, wrapu32, sh32, fdiv32, Int.tdiv_eq_ediv_of_nonneg, Int.tmod_eq_emod_of_nonneg, tn_add, tn_add1, Int.toNat_natCast, Int.toNat_zero, List.drop_zero] at hc | simp only [wrapu64m, wrapu32m] at hc))) | ((with_reducible refine compat_ok ?_); kernel_rfl) | with_reducible apply And.intro | (first | simp (disch := omega) only [wrap64, wrapu64, wrapu32, sh32, fdiv32, Int.tdiv_eq_ediv_of_nonneg, Int.tmod_eq_emod_of_nonneg, tn_add, tn_add1, Int.toNat_natCast, Int.toNat_zero, List.drop_zero] | simp only [wrapu64m, wrapu32m]) | (with_reducible intro hg; (try simp only [vb, decide_eq_true_eq, decide_eq_false_iff_not, beq_iff_eq, beq_eq_false_iff_ne, bne_iff_ne, bne_eq_false_iff_eq, Bool.not_eq_true', Bool.not_eq_false', reduceCtorEq] at hg); (try (first | simp (disch := omega) only [wrap64, wrapu64, wrapu32, sh32, fdiv32, Int.tdiv_eq_ediv_of_nonneg, Int.tmod_eq_emod_of_nonneg, tn_add, tn_add1, Int.toNat_natCast, Int.toNat_zero, List.drop_zero] at hg | simp only [wrapu64m, wrapu32m] at hg))))
  all_goals try omega
  · simp only [finR, resAs, resA, resLe, lsLe, lkS, lkM, pubs, pub, tie_sz, ti_sz, tie_ek, ti_ek, tie2_sz, tie2_ek, ti_ek2, nilAV, MM.upd, MM.set, AV.part, AV.cells, AV.agg, List.tail, List.headD, Nat.reduceAdd, Nat.reduceEqDiff, Nat.reduceLT, ↓reduceIte, and_true, true_and, and_self, reduceCtorEq]
    exact AVle_zz (by rw [ofN, if_pos (by omega)]) (by omega) (fun h => h)
  · simp only [finR, resAs, resA, resLe, lsLe, lkS, lkM, pubs, pub, tie_sz, ti_sz, tie_ek, ti_ek, tie2_sz, tie2_ek, ti_ek2, nilAV, MM.upd, MM.set, AV.part, AV.cells, AV.agg, List.tail, List.headD, Nat.reduceAdd, Nat.reduceEqDiff, Nat.reduceLT, ↓reduceIte, and_true, true_and, and_self, reduceCtorEq]
    exact AVle_zz (by rw [ofN, if_neg (by omega)]) (by omega) (fun h => h)
def ctDenR : Ct := fun l => match l with
  | [.pair (.z n cn s) (.z d cd t)] => some (s ≤ 268435456 ∧ t ≤ 268435456, .z (ofD d) true (t + 2))
  | _ => none
theorem ok92 : Sound Tryz.prog 92 ctDenR := by
  refine sound_of (fn := Tryz.f92) rfl rfl rfl tiOk envR61_ok mix ?_ (by intro l p r h; unfold ctDenR at h; split at h <;> cases h <;> exact Nat.le_of_ble_eq_true rfl)
  intro l p r h hp F vs hv
  unfold ctDenR at h
  split at h <;> cases h
  rename_i n cn s d cd t
  obtain ⟨v0, rest0, rfl, a0, hv⟩ := hv
  refine ⟨[_], ⟨_, _, rfl, a0, hv⟩, ?_⟩
  have hs := sgn3 d
  show Run Tryz.prog ti envR61 11 (finR ti [.cell 2 25] _) _ _ _
  repeat' (first | with_reducible refine run_seq ?_ | with_reducible refine run_block ?_ | with_reducible refine step_code ?_ | with_reducible refine step_blk ?_ | with_reducible refine run_skip ?_ | with_reducible refine run_exit ?_ | with_reducible refine exits_code ?_ | with_reducible refine exits_here ?_ | with_reducible refine exits_blk rfl ?_ | with_reducible refine exits_lp ?_ | with_reducible refine run_ret ?_ | ((first | with_reducible refine run_region ?_ | with_reducible refine run_draw (by kernel_rfl) ?_); simp only [↓guardP_tt, ↓guardP_tf, ↓guardP_ft, ↓guardP_ff, guardP_t, guardP_f, evalQ, evalR, effQ, effR, skipS, opEff, evO, plainV, lkS, lkM, updL, putS, tie_sz, tie_zero, tie_zeroB, tie_fld, tie_ek, tie_int, tie_isb, tie_eq2, tie_f1, tie_ms, tie2_sz, tie2_zero, tie2_zeroB, tie2_fld, tie2_ek, tie2_int, tie2_isb, tie2_eq2, tie2_f1, tie2_ms, ti_ek2, ti_f1, ti_ms, ti_sz, ti_zero, ti_zeroB, ti_fld, ti_ek, ti_int, ti_isb, ti_eq2, binA, binI, intOp, funOf_v, cloOf_v, calIds, appEff, frE, foldB, foldS, castL_self, K.enc, K.dec, K.zero, K.es, K.bytes, AV.part, AV.setPart, AV.cells, AV.agg, AV.nth, Bool.false_eq_true, callEff, pubs, pub, nilAV, MM.upd, MM.set, argS, gdst, opIds, lids, AV.ids, List.getD_cons_succ, List.getD_cons_zero, List.map, List.tail, List.headD, List.nil_append, List.append_nil, List.cons_append, List.length_nil, List.length_cons, List.zip_cons_cons, List.zip_nil_right, List.set_cons_zero, List.set_cons_succ, List.replicate, Option.isSome_some, Option.map_some, Bool.not_true, Bool.not_false, forall_const, false_implies, Nat.reduceAdd, Nat.reduceEqDiff, Nat.reduceLT, Nat.reduceSub, Nat.reduceMul, Nat.reduceLeDiff, ↓reduceIte, and_true, true_and, and_self, false_and, and_false, reduceCtorEq, envR61, ctSignZ, ctOneR, ctAbsR, zA]) | (with_reducible refine run_cond (by with_unfolding_all exact rfl) ?_ ?_ <;> intro hc <;> (try simp only [vb, decide_eq_true_eq, decide_eq_false_iff_not, beq_iff_eq, beq_eq_false_iff_ne, bne_iff_ne, bne_eq_false_iff_eq, Bool.not_eq_true', Bool.not_eq_false', reduceCtorEq] at hc) <;> (try (first | simp (disch := omega) only [wrap64, wrapu64, wrapu32, sh32, fdiv32, Int.tdiv_eq_ediv_of_nonneg, Int.tmod_eq_emod_of_nonneg, tn_add, tn_add1, Int.toNat_natCast, Int.toNat_zero, List.drop_zero] at hc | simp only [wrapu64m, wrapu32m] at hc))) | ((with_reducible refine compat_ok ?_); kernel_rfl) | with_reducible apply And.intro | (first | simp (disch := omega) only [wrap64, wrapu64, wrapu32, sh32, fdiv32, Int.tdiv_eq_ediv_of_nonneg, Int.tmod_eq_emod_of_nonneg, tn_add, tn_add1, Int.toNat_natCast, Int.toNat_zero, List.drop_zero] | simp only [wrapu64m, wrapu32m]) | (with_reducible intro hg; (try simp only [vb, decide_eq_true_eq, decide_eq_false_iff_not, beq_iff_eq, beq_eq_false_iff_ne, bne_iff_ne, bne_eq_false_iff_eq, Bool.not_eq_true', Bool.not_eq_false', reduceCtorEq] at hg); (try (first | simp (disch := omega) only [wrap64, wrapu64, wrapu32, sh32, fdiv32, Int.tdiv_eq_ediv_of_nonneg, Int.tmod_eq_emod_of_nonneg, tn_add, tn_add1, Int.toNat_natCast, Int.toNat_zero, List.drop_zero] at hg | simp only [wrapu64m, wrapu32m] at hg))))
  all_goals try omega
  · simp only [finR, resAs, resA, resLe, lsLe, lkS, lkM, pubs, pub, tie_sz, ti_sz, tie_ek, ti_ek, tie2_sz, tie2_ek, ti_ek2, nilAV, MM.upd, MM.set, AV.part, AV.cells, AV.agg, List.tail, List.headD, Nat.reduceAdd, Nat.reduceEqDiff, Nat.reduceLT, ↓reduceIte, and_true, true_and, and_self, reduceCtorEq]
    exact AVle_zz (by rw [ofD, if_pos (by omega)]) (by omega) (fun h => h)
  · simp only [finR, resAs, resA, resLe, lsLe, lkS, lkM, pubs, pub, tie_sz, ti_sz, tie_ek, ti_ek, tie2_sz, tie2_ek, ti_ek2, nilAV, MM.upd, MM.set, AV.part, AV.cells, AV.agg, List.tail, List.headD, Nat.reduceAdd, Nat.reduceEqDiff, Nat.reduceLT, ↓reduceIte, and_true, true_and, and_self, reduceCtorEq]
    refine AVle_zz ?_ (by omega) (fun h => h)
    rw [ofD, if_neg (by omega)]
    split <;> omega
def envR62 : Env := fun g => match g with | 120 => some ctGcdR | 121 => some ctDivR | 123 => some ctOneR | 122 => some ctCmpR | _ => none
theorem envR62_ok : EnvOk Tryz.prog envR62 := by
  intro g ct h
  simp only [envR62] at h
  split at h <;> first | (cases h; exact ok120) | (cases h; exact ok121) | (cases h; exact ok123) | (cases h; exact ok122) | cases h
def ctOverR : Ct := fun l => match l with
  | [a, b] => match zA a, zA b with
    | some (n, s), some (d, t) => some (s ≤ 400000 ∧ t ≤ 400000 ∧ 0 < d, .q ((n : Rat) / (d : Rat)) true (max s t + 2))
    | _, _ => none
  | _ => none
theorem cmpI_zero {x y : Int} : cmpI x y = 0 ↔ x = y := by
  unfold cmpI; split <;> (try split) <;> omega
theorem ok91 : Sound Tryz.prog 91 ctOverR := by
  refine sound_of (fn := Tryz.f91) rfl rfl rfl tiOk envR62_ok mix ?_ (by intro l p r h; unfold ctOverR at h; split at h <;> first | cases h | (split at h <;> cases h; exact Nat.le_of_ble_eq_true rfl))
  intro l p r h hp F vs hvl
  unfold ctOverR at h
  split at h
  rotate_left
  · cases h
  split at h <;> cases h
  rename_i az bz _ _ x s y t ha hb
  obtain ⟨v0, r0, rfl, a0, v1, r1, rfl, a1, hvl⟩ := hvl
  obtain ⟨n0, w0, a0, ok0, len0, val0⟩ := zA_open ha a0
  obtain ⟨n1, w1, a1, ok1, len1, val1⟩ := zA_open hb a1
  refine ⟨[_, _], ⟨_, _, rfl, a0, _, _, rfl, a1, hvl⟩, ?_⟩
  clear hvl
  have k0 := halK_hd ok0
  have k1 := halK_hd ok1
  have p0 := wv_nonneg ok0
  have p1 := wv_nonneg ok1
  have e0 := hv_hd p0
  have e1 := hv_hd p1
  have l0 := halK_len ok0
  have l1 := halK_len ok1
  have hp3 := hp.2.2
  rw [val1] at hp3
  obtain ⟨k1, k2, k3, k4, k5⟩ := least_split (n := zval n0 w0) hp3
  show Run Tryz.prog ti envR62 38 (finR ti [.cell 4 27] _) _ _ _
  repeat' (first | with_reducible refine run_seq ?_ | with_reducible refine run_block ?_ | with_reducible refine step_code ?_ | with_reducible refine step_blk ?_ | with_reducible refine run_skip ?_ | with_reducible refine run_exit ?_ | with_reducible refine exits_code ?_ | with_reducible refine exits_here ?_ | with_reducible refine exits_blk rfl ?_ | with_reducible refine exits_lp ?_ | with_reducible refine run_ret ?_ | ((first | with_reducible refine run_region ?_ | with_reducible refine run_draw (by kernel_rfl) ?_); simp only [↓guardP_tt, ↓guardP_tf, ↓guardP_ft, ↓guardP_ff, guardP_t, guardP_f, evalQ, evalR, effQ, effR, skipS, opEff, evO, plainV, lkS, lkM, updL, putS, tie_sz, tie_zero, tie_zeroB, tie_fld, tie_ek, tie_int, tie_isb, tie_eq2, tie_f1, tie_ms, tie2_sz, tie2_zero, tie2_zeroB, tie2_fld, tie2_ek, tie2_int, tie2_isb, tie2_eq2, tie2_f1, tie2_ms, ti_ek2, ti_f1, ti_ms, ti_sz, ti_zero, ti_zeroB, ti_fld, ti_ek, ti_int, ti_isb, ti_eq2, binA, binI, intOp, funOf_v, cloOf_v, calIds, appEff, frE, foldB, foldS, castL_self, K.enc, K.dec, K.zero, K.es, K.bytes, AV.part, AV.setPart, AV.cells, AV.agg, AV.nth, Bool.false_eq_true, callEff, pubs, pub, nilAV, MM.upd, MM.set, argS, gdst, opIds, lids, AV.ids, List.getD_cons_succ, List.getD_cons_zero, List.map, List.tail, List.headD, List.nil_append, List.append_nil, List.cons_append, List.length_nil, List.length_cons, List.zip_cons_cons, List.zip_nil_right, List.set_cons_zero, List.set_cons_succ, List.replicate, Option.isSome_some, Option.map_some, Bool.not_true, Bool.not_false, forall_const, false_implies, Nat.reduceAdd, Nat.reduceEqDiff, Nat.reduceLT, Nat.reduceSub, Nat.reduceMul, Nat.reduceLeDiff, ↓reduceIte, and_true, true_and, and_self, false_and, and_false, reduceCtorEq, envR62, ctGcdR, ctDivR, ctOneR, ctCmpR, zA]) | (with_reducible refine run_cond (by with_unfolding_all exact rfl) ?_ ?_ <;> intro hc <;> (try simp only [vb, decide_eq_true_eq, decide_eq_false_iff_not, beq_iff_eq, beq_eq_false_iff_ne, bne_iff_ne, bne_eq_false_iff_eq, Bool.not_eq_true', Bool.not_eq_false', reduceCtorEq] at hc) <;> (try (first | simp (disch := omega) only [wrap64, wrapu64, wrapu32, sh32, fdiv32, Int.tdiv_eq_ediv_of_nonneg, Int.tmod_eq_emod_of_nonneg, tn_add, tn_add1, Int.toNat_natCast, Int.toNat_zero, List.drop_zero] at hc | simp only [wrapu64m, wrapu32m] at hc))) | ((with_reducible refine compat_ok ?_); kernel_rfl) | with_reducible apply And.intro | (first | simp (disch := omega) only [wrap64, wrapu64, wrapu32, sh32, fdiv32, Int.tdiv_eq_ediv_of_nonneg, Int.tmod_eq_emod_of_nonneg, tn_add, tn_add1, Int.toNat_natCast, Int.toNat_zero, List.drop_zero] | simp only [wrapu64m, wrapu32m]) | (with_reducible intro hg; (try simp only [vb, decide_eq_true_eq, decide_eq_false_iff_not, beq_iff_eq, beq_eq_false_iff_ne, bne_iff_ne, bne_eq_false_iff_eq, Bool.not_eq_true', Bool.not_eq_false', reduceCtorEq] at hg); (try (first | simp (disch := omega) only [wrap64, wrapu64, wrapu32, sh32, fdiv32, Int.tdiv_eq_ediv_of_nonneg, Int.tmod_eq_emod_of_nonneg, tn_add, tn_add1, Int.toNat_natCast, Int.toNat_zero, List.drop_zero] at hg | simp only [wrapu64m, wrapu32m] at hg))))
  all_goals try omega
  · have h1 := cmpI_zero.1 hc
    simp only [finR, resAs, resA, resLe, lsLe, lkS, lkM, pubs, pub, tie_sz, ti_sz, tie_ek, ti_ek, tie2_sz, tie2_ek, ti_ek2, nilAV, MM.upd, MM.set, AV.part, AV.cells, AV.agg, List.tail, List.headD, Nat.reduceAdd, Nat.reduceEqDiff, Nat.reduceLT, ↓reduceIte, and_true, true_and, and_self, reduceCtorEq]
    refine AVle_q (by omega) (by omega) ?_ (fun _ => ⟨rfl, rfl, .inl rfl⟩)
    rw [val0, val1]
    rw [← rat_div_of (show (Int.gcd (zval n0 w0) (zval n1 w1) : Int) ≠ 0 by omega) (show zval n1 w1 ≠ 0 by omega) k2 k3, h1]
    simp [qval]
    grind
  · have h1 : ¬ (zval n1 w1 / (Int.gcd (zval n0 w0) (zval n1 w1) : Int) = 1) := fun h => hc (cmpI_zero.2 h)
    simp only [finR, resAs, resA, resLe, lsLe, lkS, lkM, pubs, pub, tie_sz, ti_sz, tie_ek, ti_ek, tie2_sz, tie2_ek, ti_ek2, nilAV, MM.upd, MM.set, AV.part, AV.cells, AV.agg, List.tail, List.headD, Nat.reduceAdd, Nat.reduceEqDiff, Nat.reduceLT, ↓reduceIte, and_true, true_and, and_self, reduceCtorEq]
    refine AVle_q (by omega) (by omega) ?_ (fun _ => ⟨rfl, rfl, .inr ⟨by omega, k5⟩⟩)
    rw [val0, val1, qval, if_neg (by omega), rat_div_of (show (Int.gcd (zval n0 w0) (zval n1 w1) : Int) ≠ 0 by omega) (show zval n1 w1 ≠ 0 by omega) k2 k3]
def envR63 : Env := fun g => match g with | 90 => some ctNumR | 92 => some ctDenR | 91 => some ctOverR | _ => none
theorem envR63_ok : EnvOk Tryz.prog envR63 := by
  intro g ct h
  simp only [envR63] at h
  split at h <;> first | (cases h; exact ok90) | (cases h; exact ok92) | (cases h; exact ok91) | cases h
def ctLeastR : Ct := fun l => match l with
  | [a] => match qA a with
    | some (x, s) => some (s ≤ 300000, .q x true (s + 4))
    | none => none
  | _ => none
theorem ok52 : Sound Tryz.prog 52 ctLeastR := by
  refine sound_of (fn := Tryz.f52) rfl rfl rfl tiOk envR63_ok mix ?_ (by intro l p r h; unfold ctLeastR at h; split at h <;> first | cases h | (split at h <;> cases h; exact Nat.le_of_ble_eq_true rfl))
  intro l p r h hp F vs hv
  unfold ctLeastR at h
  split at h
  rotate_left
  · cases h
  split at h <;> cases h
  rename_i az _ x s ha
  obtain ⟨v0, r0, rfl, a0, hv⟩ := hv
  obtain ⟨n0, d0, cn0, cd0, a0, val0⟩ := open_qA ha a0
  refine ⟨[_], ⟨_, _, rfl, a0, hv⟩, ?_⟩
  have hd := ofD_pos d0
  show Run Tryz.prog ti envR63 8 (finR ti [.cell 2 27] _) _ _ _
  repeat' (first | with_reducible refine run_seq ?_ | with_reducible refine run_block ?_ | with_reducible refine step_code ?_ | with_reducible refine step_blk ?_ | with_reducible refine run_skip ?_ | with_reducible refine run_exit ?_ | with_reducible refine exits_code ?_ | with_reducible refine exits_here ?_ | with_reducible refine exits_blk rfl ?_ | with_reducible refine exits_lp ?_ | with_reducible refine run_ret ?_ | ((first | with_reducible refine run_region ?_ | with_reducible refine run_draw (by kernel_rfl) ?_); simp only [↓guardP_tt, ↓guardP_tf, ↓guardP_ft, ↓guardP_ff, guardP_t, guardP_f, evalQ, evalR, effQ, effR, skipS, opEff, evO, plainV, lkS, lkM, updL, putS, tie_sz, tie_zero, tie_zeroB, tie_fld, tie_ek, tie_int, tie_isb, tie_eq2, tie_f1, tie_ms, tie2_sz, tie2_zero, tie2_zeroB, tie2_fld, tie2_ek, tie2_int, tie2_isb, tie2_eq2, tie2_f1, tie2_ms, ti_ek2, ti_f1, ti_ms, ti_sz, ti_zero, ti_zeroB, ti_fld, ti_ek, ti_int, ti_isb, ti_eq2, binA, binI, intOp, funOf_v, cloOf_v, calIds, appEff, frE, foldB, foldS, castL_self, K.enc, K.dec, K.zero, K.es, K.bytes, AV.part, AV.setPart, AV.cells, AV.agg, AV.nth, Bool.false_eq_true, callEff, pubs, pub, nilAV, MM.upd, MM.set, argS, gdst, opIds, lids, AV.ids, List.getD_cons_succ, List.getD_cons_zero, List.map, List.tail, List.headD, List.nil_append, List.append_nil, List.cons_append, List.length_nil, List.length_cons, List.zip_cons_cons, List.zip_nil_right, List.set_cons_zero, List.set_cons_succ, List.replicate, Option.isSome_some, Option.map_some, Bool.not_true, Bool.not_false, forall_const, false_implies, Nat.reduceAdd, Nat.reduceEqDiff, Nat.reduceLT, Nat.reduceSub, Nat.reduceMul, Nat.reduceLeDiff, ↓reduceIte, and_true, true_and, and_self, false_and, and_false, reduceCtorEq, envR63, ctNumR, ctDenR, ctOverR, zA]) | (with_reducible refine run_cond (by with_unfolding_all exact rfl) ?_ ?_ <;> intro hc <;> (try simp only [vb, decide_eq_true_eq, decide_eq_false_iff_not, beq_iff_eq, beq_eq_false_iff_ne, bne_iff_ne, bne_eq_false_iff_eq, Bool.not_eq_true', Bool.not_eq_false', reduceCtorEq] at hc) <;> (try (first | simp (disch := omega) only [wrap64, wrapu64, wrapu32, sh32, fdiv32, Int.tdiv_eq_ediv_of_nonneg, Int.tmod_eq_emod_of_nonneg, tn_add, tn_add1, Int.toNat_natCast, Int.toNat_zero, List.drop_zero] at hc | simp only [wrapu64m, wrapu32m] at hc))) | ((with_reducible refine compat_ok ?_); kernel_rfl) | with_reducible apply And.intro | (first | simp (disch := omega) only [wrap64, wrapu64, wrapu32, sh32, fdiv32, Int.tdiv_eq_ediv_of_nonneg, Int.tmod_eq_emod_of_nonneg, tn_add, tn_add1, Int.toNat_natCast, Int.toNat_zero, List.drop_zero] | simp only [wrapu64m, wrapu32m]) | (with_reducible intro hg; (try simp only [vb, decide_eq_true_eq, decide_eq_false_iff_not, beq_iff_eq, beq_eq_false_iff_ne, bne_iff_ne, bne_eq_false_iff_eq, Bool.not_eq_true', Bool.not_eq_false', reduceCtorEq] at hg); (try (first | simp (disch := omega) only [wrap64, wrapu64, wrapu32, sh32, fdiv32, Int.tdiv_eq_ediv_of_nonneg, Int.tmod_eq_emod_of_nonneg, tn_add, tn_add1, Int.toNat_natCast, Int.toNat_zero, List.drop_zero] at hg | simp only [wrapu64m, wrapu32m] at hg))))
  all_goals try omega
  simp only [finR, resAs, resA, resLe, lsLe, lkS, lkM, pubs, pub, tie_sz, ti_sz, tie_ek, ti_ek, tie2_sz, tie2_ek, ti_ek2, nilAV, MM.upd, MM.set, AV.part, AV.cells, AV.agg, List.tail, List.headD, Nat.reduceAdd, Nat.reduceEqDiff, Nat.reduceLT, ↓reduceIte, and_true, true_and, and_self, reduceCtorEq]
  exact AVle_qq (by rw [val0, of_val]) (by omega) (fun h => h)
def envR64 : Env := fun g => match g with | 88 => some ctFromI | 52 => some ctLeastR | _ => none
theorem envR64_ok : EnvOk Tryz.prog envR64 := by
  intro g ct h
  simp only [envR64] at h
  split at h <;> first | (cases h; exact ok88) | (cases h; exact ok52) | cases h
def ctOfR : Ct := fun l => match l with
  | [.v (.int .i64 n), .v (.int .i64 d)] => some (-9223372036854775808 ≤ n ∧ n < 9223372036854775808 ∧ -9223372036854775808 ≤ d ∧ d < 9223372036854775808, .q (qval n d) true 6)
  | _ => none
theorem ok44 : Sound Tryz.prog 44 ctOfR := by
  refine sound_of (fn := Tryz.f44) rfl rfl rfl tiOk envR64_ok mix ?_ (by intro l p r h; unfold ctOfR at h; split at h <;> cases h <;> exact Nat.le_of_ble_eq_true rfl)
  intro l p r h hp F vs hv
  unfold ctOfR at h
  split at h <;> cases h
  rename_i n d
  obtain ⟨v0, rest0, rfl, a0, hv⟩ := hv
  obtain ⟨v1, rest1, rfl, a1, hv⟩ := hv
  refine ⟨[_, _], ⟨_, _, rfl, a0, _, _, rfl, a1, hv⟩, ?_⟩
  show Run Tryz.prog ti envR64 11 (finR ti [.cell 4 27] _) _ _ _
  repeat' (first | with_reducible refine run_seq ?_ | with_reducible refine run_block ?_ | with_reducible refine step_code ?_ | with_reducible refine step_blk ?_ | with_reducible refine run_skip ?_ | with_reducible refine run_exit ?_ | with_reducible refine exits_code ?_ | with_reducible refine exits_here ?_ | with_reducible refine exits_blk rfl ?_ | with_reducible refine exits_lp ?_ | with_reducible refine run_ret ?_ | ((first | with_reducible refine run_region ?_ | with_reducible refine run_draw (by kernel_rfl) ?_); simp only [↓guardP_tt, ↓guardP_tf, ↓guardP_ft, ↓guardP_ff, guardP_t, guardP_f, evalQ, evalR, effQ, effR, skipS, opEff, evO, plainV, lkS, lkM, updL, putS, tie_sz, tie_zero, tie_zeroB, tie_fld, tie_ek, tie_int, tie_isb, tie_eq2, tie_f1, tie_ms, tie2_sz, tie2_zero, tie2_zeroB, tie2_fld, tie2_ek, tie2_int, tie2_isb, tie2_eq2, tie2_f1, tie2_ms, ti_ek2, ti_f1, ti_ms, ti_sz, ti_zero, ti_zeroB, ti_fld, ti_ek, ti_int, ti_isb, ti_eq2, binA, binI, intOp, funOf_v, cloOf_v, calIds, appEff, frE, foldB, foldS, castL_self, K.enc, K.dec, K.zero, K.es, K.bytes, AV.part, AV.setPart, AV.cells, AV.agg, AV.nth, Bool.false_eq_true, callEff, pubs, pub, nilAV, MM.upd, MM.set, argS, gdst, opIds, lids, AV.ids, List.getD_cons_succ, List.getD_cons_zero, List.map, List.tail, List.headD, List.nil_append, List.append_nil, List.cons_append, List.length_nil, List.length_cons, List.zip_cons_cons, List.zip_nil_right, List.set_cons_zero, List.set_cons_succ, List.replicate, Option.isSome_some, Option.map_some, Bool.not_true, Bool.not_false, forall_const, false_implies, Nat.reduceAdd, Nat.reduceEqDiff, Nat.reduceLT, Nat.reduceSub, Nat.reduceMul, Nat.reduceLeDiff, ↓reduceIte, and_true, true_and, and_self, false_and, and_false, reduceCtorEq, envR64, ctFromI, ctLeastR, qA]) | (with_reducible refine run_cond (by with_unfolding_all exact rfl) ?_ ?_ <;> intro hc <;> (try simp only [vb, decide_eq_true_eq, decide_eq_false_iff_not, beq_iff_eq, beq_eq_false_iff_ne, bne_iff_ne, bne_eq_false_iff_eq, Bool.not_eq_true', Bool.not_eq_false', reduceCtorEq] at hc) <;> (try (first | simp (disch := omega) only [wrap64, wrapu64, wrapu32, sh32, fdiv32, Int.tdiv_eq_ediv_of_nonneg, Int.tmod_eq_emod_of_nonneg, tn_add, tn_add1, Int.toNat_natCast, Int.toNat_zero, List.drop_zero] at hc | simp only [wrapu64m, wrapu32m] at hc))) | ((with_reducible refine compat_ok ?_); kernel_rfl) | with_reducible apply And.intro | (first | simp (disch := omega) only [wrap64, wrapu64, wrapu32, sh32, fdiv32, Int.tdiv_eq_ediv_of_nonneg, Int.tmod_eq_emod_of_nonneg, tn_add, tn_add1, Int.toNat_natCast, Int.toNat_zero, List.drop_zero] | simp only [wrapu64m, wrapu32m]) | (with_reducible intro hg; (try simp only [vb, decide_eq_true_eq, decide_eq_false_iff_not, beq_iff_eq, beq_eq_false_iff_ne, bne_iff_ne, bne_eq_false_iff_eq, Bool.not_eq_true', Bool.not_eq_false', reduceCtorEq] at hg); (try (first | simp (disch := omega) only [wrap64, wrapu64, wrapu32, sh32, fdiv32, Int.tdiv_eq_ediv_of_nonneg, Int.tmod_eq_emod_of_nonneg, tn_add, tn_add1, Int.toNat_natCast, Int.toNat_zero, List.drop_zero] at hg | simp only [wrapu64m, wrapu32m] at hg))))
  all_goals try omega
  simp only [finR, resAs, resA, resLe, lsLe, lkS, lkM, pubs, pub, tie_sz, ti_sz, tie_ek, ti_ek, tie2_sz, tie2_ek, ti_ek2, nilAV, MM.upd, MM.set, AV.part, AV.cells, AV.agg, List.tail, List.headD, Nat.reduceAdd, Nat.reduceEqDiff, Nat.reduceLT, ↓reduceIte, and_true, true_and, and_self, reduceCtorEq]
  exact AVle_qq rfl (by omega) (fun h => h)
end Go.AE
