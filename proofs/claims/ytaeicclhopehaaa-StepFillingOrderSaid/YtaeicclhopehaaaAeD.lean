/- A region, in whatever order. -/
import Derived.Test.YtaeicclhopehaaaAeC
namespace Go.AE
open Go.RowKit
set_option linter.unusedVariables false
set_option linter.unusedSectionVars false

section
variable {P : Program} {ti : TI} {env : Env} {nt : Nat} {ops : Array Oper} {es : List En} {sl0 : Nat → AV} {m0 : MM} {n0 n1 : Nat} {w0 : World} {F0 : Fz}

theorem mem_opTmps {o : Oper} {t : Tmp} (h : .tmp t ∈ o.op.operands.toList) : t ∈ opTmps o := by
  unfold opTmps
  rw [List.mem_filterMap]
  exact ⟨.tmp t, h, rfl⟩

theorem evO_ok {F : Fz} {G : Gm} {sl : Nat → AV} {a : Act} (hs : ∀ t, RV F G (sl t) (a.tmps.getD t undef)) (x : Operand) : RV F G (evO sl x) (a.eval x) := by
  cases x with
  | tmp t => exact hs t
  | const v =>
    simp only [evO, Act.eval]
    split
    · rename_i h; exact ⟨h, rfl⟩
    · trivial
  | global g => trivial
  | func f => exact ⟨rfl, rfl⟩

theorem evO_congr {sl sl' : Nat → AV} {x : Operand} (h : ∀ t, x = .tmp t → sl t = sl' t) : evO sl x = evO sl' x := by
  cases x with
  | tmp t => exact h t rfl
  | _ => rfl

theorem put_getD (a : Act) (d : Tmp) (v : Value) (h : d < a.tmps.size) (t : Nat) : (a.put (some d) v).tmps.getD t undef = if t = d then v else a.tmps.getD t undef := by
  simp only [Act.put, Array.getD_eq_getD_getElem?, Array.getElem?_setIfInBounds]
  by_cases htd : t = d
  · subst htd; simp [h]
  · rw [if_neg (Ne.symm htd), if_neg htd]

/-- How it stands when the operations L have come. -/
def Jn (w0 : World) (F0 : Fz) (nt : Nat) (ops : Array Oper) (es : List En) (sl0 : Nat → AV) (m0 : MM) (n0 : Nat) (L : Nat → Bool) (a : Act) (w : World) : Prop :=
  ∃ F G, Mem w0 F0 (fun id => id < n0 ∨ ∃ k, ∃ h : k < es.length, L k = true ∧ es[k].run = true ∧ id = es[k].nid) (mAt es m0 L) F G w ∧
    (∀ t, RV F G (slAt es sl0 L t) (a.tmps.getD t undef)) ∧ a.tmps.size = nt ∧ a.defers = []

variable (hreg : regOk ops.toList = true) (tv : TV nt ti env ops.toList es sl0 m0 n0 n1) (hap : Apart ops.toList es)
include hreg tv hap

omit hap in
theorem slot_agree {L : Nat → Bool} (hc : Closed ops.toList L) {j : Nat} (hj : j < es.length) (hLj : L j = false) (hr : ∀ e ∈ (es[j].o.after).toList, Region.binds .any e = true → L e.on = true) {t : Tmp} (ht : t ∈ names (ops.toList.map (·.dst)) es[j].o) :
    slAt es sl0 L t = slAt es sl0 (lt j) t := by
  have hlen := tv.len
  have hopj := tv.op j hj
  refine lastW_agree _ (fun k hk hs => ?_)
  rw [Nat.zero_add]
  have hd : (es[k].o.dst) = some t := by
    unfold wrS at hs
    split at hs
    · assumption
    · cases hs
  have hopk := tv.op k hk
  by_cases hkj : k = j
  · subst hkj; rw [hLj]; simp [lt]
  · have := regOk_slots hreg (i := k) (j := j) (by omega) (by omega) hkj (t := t) (by rw [hopj]; exact ht) (by rw [hopk]; exact hd)
    rcases Nat.lt_or_gt_of_ne hkj with h | h
    · have hb := this.1 h
      have := anc_listed hc j (by omega) (by rw [hopj]; exact hr) k hb
      rw [this]; simp [lt, h]
    · have hb := this.2 h
      simp only [lt, show ¬ k < j by omega, decide_false]
      cases hLk : L k with
      | false => rfl
      | true =>
        have := anc_listed hc k (by omega) (hc k (by omega) hLk) j hb
        rw [hLj] at this; cases this

theorem mem_agree {L : Nat → Bool} (hc : Closed ops.toList L) {j : Nat} (hj : j < es.length) (hLj : L j = false) (hr : ∀ e ∈ (es[j].o.after).toList, Region.binds .any e = true → L e.on = true) (hrun : es[j].run = true) {id : Nat} (hid : id ∈ es[j].ri) :
    mAt es m0 L id = mAt es m0 (lt j) id := by
  have hlen := tv.len
  have hopj := tv.op j hj
  refine lastW_agree _ (fun k hk hs => ?_)
  rw [Nat.zero_add]
  have hrk : es[k].run = true ∧ id ∈ es[k].ws.map (·.1) := by
    unfold wrM at hs
    split at hs
    · rename_i h; exact ⟨h, lastOf_mem hs⟩
    · cases hs
  by_cases hkj : k = j
  · subst hkj; rw [hLj]; simp [lt]
  · rcases Nat.lt_or_gt_of_ne hkj with h | h
    · have hb := hap k j hk hj h hrk.1 hrun ⟨id, .inl ⟨hrk.2, .inl hid⟩⟩
      have := anc_listed hc j (by omega) (by rw [hopj]; exact hr) k hb
      rw [this]; simp [lt, h]
    · have hb := hap j k hj hk h hrun hrk.1 ⟨id, .inr ⟨hrk.2, hid⟩⟩
      simp only [lt, show ¬ k < j by omega, decide_false]
      cases hLk : L k with
      | false => rfl
      | true =>
        have := anc_listed hc k (by omega) (hc k (by omega) hLk) j hb
        rw [hLj] at this; cases this

omit hap in
theorem slot_ins {L L' : Nat → Bool} (hc : Closed ops.toList L) {j : Nat} (hj : j < es.length) (hLj : L j = false) (hL' : ∀ k, L' k = (L k || k == j)) (t : Nat) :
    slAt es sl0 L' t = (wrS t es[j]).getD (slAt es sl0 L t) := by
  have hlen := tv.len
  have hopj := tv.op j hj
  by_cases hw : (wrS t es[j]).isSome = true
  · have hdj : es[j].o.dst = some t := by
      unfold wrS at hw
      split at hw
      · assumption
      · cases hw
    refine lastW_ins (wrS t) hj (by simpa using hL') (fun k hk hjk hs => ?_)
    rw [Nat.zero_add]
    have hdk : es[k].o.dst = some t := by
      unfold wrS at hs
      split at hs
      · assumption
      · cases hs
    have hopk := tv.op k hk
    have := regOk_slots hreg (i := j) (j := k) (by omega) (by omega) (by omega) (t := t) (by rw [hopk]; simp [names, hdk]) (by rw [hopj]; exact hdj)
    have hb := this.1 hjk
    cases hLk : L k with
    | false => rfl
    | true =>
      have := anc_listed hc k (by omega) (hc k (by omega) hLk) j hb
      rw [hLj] at this; cases this
  · have h0 : wrS t es[j] = none := by simpa using hw
    rw [h0, Option.getD_none]
    refine lastW_agree _ (fun k hk hs => ?_)
    rw [Nat.zero_add, hL']
    by_cases hkj : k = j
    · subst hkj; rw [h0] at hs; cases hs
    · simp [hkj]

theorem mem_ins {L L' : Nat → Bool} (hc : Closed ops.toList L) {j : Nat} (hj : j < es.length) (hLj : L j = false) (hL' : ∀ k, L' k = (L k || k == j)) (id : Nat) :
    mAt es m0 L' id = (wrM id es[j]).getD (mAt es m0 L id) := by
  have hlen := tv.len
  by_cases hw : (wrM id es[j]).isSome = true
  · have hdj : es[j].run = true ∧ id ∈ es[j].ws.map (·.1) := by
      unfold wrM at hw
      split at hw
      · rename_i h; exact ⟨h, lastOf_mem hw⟩
      · cases hw
    refine lastW_ins (wrM id) hj (by simpa using hL') (fun k hk hjk hs => ?_)
    rw [Nat.zero_add]
    have hdk : es[k].run = true ∧ id ∈ es[k].ws.map (·.1) := by
      unfold wrM at hs
      split at hs
      · rename_i h; exact ⟨h, lastOf_mem hs⟩
      · cases hs
    have hb := hap j k hj hk hjk hdj.1 hdk.1 ⟨id, .inl ⟨hdj.2, .inr hdk.2⟩⟩
    cases hLk : L k with
    | false => rfl
    | true =>
      have := anc_listed hc k (by omega) (hc k (by omega) hLk) j hb
      rw [hLj] at this; cases this
  · have h0 : wrM id es[j] = none := by simpa using hw
    rw [h0, Option.getD_none]
    refine lastW_agree _ (fun k hk hs => ?_)
    rw [Nat.zero_add, hL']
    by_cases hkj : k = j
    · subst hkj; rw [h0] at hs; cases hs
    · simp [hkj]

omit hreg hap in
theorem Jn_step (ok : TIOk P ti) (henv : EnvOk P env) {Q : Exit → Act → World → Prop} {L L' : Nat → Bool} {j : Nat} (hj : j < es.length) (hLj : L j = false) (hL' : ∀ k, L' k = (L k || k == j))
    (hA1 : ∀ t ∈ names (ops.toList.map (·.dst)) es[j].o, slAt es sl0 L t = slAt es sl0 (lt j) t) (hA2 : es[j].run = true → ∀ id ∈ es[j].ri, mAt es m0 L id = mAt es m0 (lt j) id)
    (hA3 : ∀ t, slAt es sl0 L' t = (wrS t es[j]).getD (slAt es sl0 L t)) (hA4 : ∀ id, mAt es m0 L' id = (wrM id es[j]).getD (mAt es m0 L id)) {a : Act} {w : World} (hJ : Jn w0 F0 nt ops es sl0 m0 n0 L a w) {K : Act → World → Prop} (hK : ∀ a' w', Jn w0 F0 nt ops es sl0 m0 n0 L' a' w' → K a' w') : wpOp P ops Q j K a w := by
  have hlen := tv.len
  have hopj := tv.op j hj
  have hjo : ops[j]? = some es[j].o := by
    rw [← hopj]
    have : j < ops.size := by simpa using (by omega : j < ops.toList.length)
    simp [this]
  obtain ⟨F, G, hm, hs, hsz, hdf⟩ := hJ
  unfold wpOp
  rw [hjo]
  dsimp only
  -- the slots, one more having been written
  have slots : ∀ (F' : Fz) (G' : Gm) (v : Value), F.le F' → G.le G' → (∀ d, es[j].o.dst = some d → RV F' G' (if es[j].run = true then es[j].r else .un) v) → ∀ t, RV F' G' (slAt es sl0 L' t) ((a.put es[j].o.dst v).tmps.getD t undef) := by
    intro F' G' v hF hG hv t
    rw [hA3 t]
    cases hd : es[j].o.dst with
    | none =>
      have : wrS t es[j] = none := by simp [wrS, hd]
      rw [this]
      exact (hs t).mono hF hG
    | some d =>
      have hdn := tv.dst j hj d hd
      rw [put_getD _ _ _ (by rw [hsz]; exact hdn)]
      by_cases htd : t = d
      · subst htd
        rw [if_pos rfl]
        have : wrS t es[j] = some (if es[j].run = true then es[j].r else .un) := by simp [wrS, hd]
        rw [this]
        exact hv t hd
      · rw [if_neg htd]
        have : wrS t es[j] = none := by simp [wrS, hd, Ne.symm htd]
        rw [this]
        exact (hs t).mono hF hG
  have psz : ∀ v, (a.put es[j].o.dst v).tmps.size = nt ∧ (a.put es[j].o.dst v).defers = [] := by
    intro v
    cases es[j].o.dst <;> simp [Act.put, hsz, hdf]
  -- the guard
  have hw : Region.wanted es[j].o (yielded ops a.tmps) = es[j].run := by
    have hg := tv.guard j hj
    unfold gOk at hg
    unfold Region.wanted
    cases hgd : es[j].o.guard with
    | none => rw [hgd] at hg; exact hg.symm
    | some p =>
      obtain ⟨g, gb⟩ := p
      rw [hgd] at hg
      obtain ⟨d, h1, h2⟩ := hg
      have hdst : (ops[g]?).bind (·.dst) = some d := by
        simp only [gdst, List.getD_eq_getElem?_getD, List.getElem?_map] at h1
        cases hog : ops.toList[g]? with
        | none => rw [hog] at h1; cases h1
        | some og =>
          rw [hog] at h1
          have : ops[g]? = some og := by simpa using hog
          rw [this]; simpa using h1
      have hval : ∀ x, slAt es sl0 (lt j) d = x → RV F G x (a.tmps.getD d undef) := by
        intro x hx
        have := hA1 d (by simp [names, hgd, h1])
        rw [← hx, ← this]
        exact hs d
      have hy : ∀ b, a.tmps.getD d undef = .bool b → yielded ops a.tmps g = some b := by
        intro b hb
        unfold yielded
        rw [hdst]
        rw [Array.getD_eq_getD_getElem?] at hb
        cases h3 : a.tmps[d]? with
        | none => rw [h3] at hb; cases hb
        | some u => rw [h3] at hb; simp only [Option.getD_some] at hb; subst hb; simp [h3]
      rcases h2 with ⟨h3, h4⟩ | ⟨h3, h4 | h4⟩
      · have := hy gb (RV_v (hval _ h4)).1
        rw [h3]; simp [this]
      · have := hy (!gb) (RV_v (hval _ h4)).1
        rw [h3]; simp [this]
      · have hu : a.tmps.getD d undef = undef := hval _ h4
        have : yielded ops a.tmps g = none := by
          unfold yielded
          rw [hdst]
          rw [Array.getD_eq_getD_getElem?] at hu
          cases h5 : a.tmps[d]? with
          | none => simp [h5]
          | some u => rw [h5] at hu; simp only [Option.getD_some] at hu; subst hu; simp [h5, undef]
        rw [h3]; simp [this]
  rw [hw]
  cases hrun : es[j].run with
  | false =>
    simp only [Bool.false_eq_true, if_false]
    refine hK _ _ ⟨F, G, ?_, ?_, (psz _).1, (psz _).2⟩
    · have hmm : mAt es m0 L' = mAt es m0 L := by
        funext id
        rw [hA4 id]
        simp [wrM, hrun]
      rw [hmm]
      refine hm.wider (fun id h => ?_)
      rcases h with h | ⟨k, hk, h1, h2⟩
      · exact .inl h
      · exact .inr ⟨k, hk, by rw [hL', h1]; rfl, h2⟩
    · exact slots F G undef (Fz.le.refl F) (Gm.le.refl G) (fun d hd => by rw [hrun]; rfl)
  | true =>
    simp only [if_true]
    refine .inl ?_
    obtain ⟨hri, p, heff, hp⟩ := tv.eff j hj hrun
    have hcong : opEff ti env (evO (slAt es sl0 L)) (mAt es m0 L) es[j].nid es[j].o.op = some (p, es[j].r, es[j].ws) := by
      rw [← heff]
      symm
      refine opEff_congr (fun x hx => evO_congr (fun t ht => ?_)) (fun id hid => ?_)
      · subst ht
        exact (hA1 t (by simp [names, mem_opTmps hx])).symm
      · rw [← hri] at hid
        exact (hA2 hrun id hid).symm
    have hnew : ¬ (es[j].nid < n0 ∨ ∃ k, ∃ h : k < es.length, L k = true ∧ es[k].run = true ∧ es[j].nid = es[k].nid) := by
      rintro (h | ⟨k, hk, h1, h2, h3⟩)
      · have := (tv.nid j hj hrun).1; omega
      · have hkj : k ≠ j := by intro e; subst e; rw [hLj] at h1; cases h1
        rcases Nat.lt_or_gt_of_ne hkj with h | h
        · have := tv.ndist k j hk hj h h2 hrun; omega
        · have := tv.ndist j k hj hk h hrun h2; omega
    have hgoal := op_ok (o := es[j].o) ok henv hm (evO_ok hs) hnew hcong hp
    refine hgoal _ _ (fun v w' hafter => hK _ _ ?_)
    obtain ⟨F', G', hF, hG, hv, hm'⟩ := hafter
    refine ⟨F', G', ?_, slots F' G' v hF hG (fun d hd => by rw [hrun]; exact hv), (psz v).1, (psz v).2⟩
    have hmm : mAt es m0 L' = (mAt es m0 L).upd es[j].ws := by
      funext id
      rw [hA4 id, upd_last]
      simp [wrM, hrun]
    rw [hmm]
    refine hm'.wider (fun id h => ?_)
    rcases h with (h | ⟨k, hk, h1, h2⟩) | h
    · exact .inl h
    · exact .inr ⟨k, hk, by rw [hL', h1]; rfl, h2⟩
    · exact .inr ⟨j, hj, by rw [hL']; simp, hrun, h⟩
theorem ready_iff {listed : Array Bool} {j : Nat} : j ∈ Region.ready .any ops listed ↔ ∃ h : j < ops.size, listed.getD j true = false ∧ ∀ e ∈ ops[j].after.toList, Region.binds .any e = true → listed.getD e.on false = true := by
  unfold Region.ready
  rw [List.mem_filter, List.mem_range]
  constructor
  · rintro ⟨h, h1⟩
    refine ⟨h, ?_⟩
    simp only [Bool.and_eq_true, Bool.not_eq_true'] at h1
    refine ⟨h1.1, fun e he hb => ?_⟩
    have h2 := h1.2
    rw [Array.getElem?_eq_getElem h] at h2
    simp only [Option.map_some, Option.getD_some, Array.all_eq_true_iff_forall_mem] at h2
    have := h2 e (by simpa using he)
    simpa [hb] using this
  · rintro ⟨h, h1, h2⟩
    refine ⟨h, ?_⟩
    simp only [Bool.and_eq_true, Bool.not_eq_true']
    refine ⟨h1, ?_⟩
    rw [Array.getElem?_eq_getElem h]
    simp only [Option.map_some, Option.getD_some, Array.all_eq_true_iff_forall_mem]
    intro e he
    cases hb : Region.binds .any e with
    | false => simp
    | true => simpa [hb] using h2 e (by simpa using he) hb

theorem any_ok (ok : TIOk P ti) (henv : EnvOk P env) {Q : Exit → Act → World → Prop} (hQ : ∀ L a w, (∀ k, k < es.length → L k = true) → Jn w0 F0 nt ops es sl0 m0 n0 L a w → Q .normal a w) :
    ∀ (fuel : Nat) (listed : Array Bool) (a : Act) (w : World), listed.size = ops.size → Closed ops.toList (fun k => listed.getD k false) → (List.range ops.size).countP (fun k => !listed.getD k false) ≤ fuel →
      Jn w0 F0 nt ops es sl0 m0 n0 (fun k => listed.getD k false) a w → wpAny P .any ops Q fuel listed a w := by
  have hlen := tv.len
  have hend : ∀ (listed : Array Bool), listed.size = ops.size → Closed ops.toList (fun k => listed.getD k false) → Region.ready .any ops listed = [] → ∀ k, k < ops.size → listed.getD k false = true := by
    intro listed hs hc hr k
    induction k using Nat.strongRecOn with
    | _ k ih =>
      intro hk
      cases hl : listed.getD k false with
      | true => rfl
      | false =>
        have : k ∈ Region.ready .any ops listed := by
          rw [ready_iff hreg tv hap]
          refine ⟨hk, ?_, fun e he hb => ?_⟩
          · rw [Array.getD_eq_getD_getElem?, Array.getElem?_eq_getElem (by omega)] at hl ⊢; simpa using hl
          · have hlt := regOk_edges hreg (j := k) (by simpa using hk) (by simpa using he) hb
            exact ih e.on hlt (by omega)
        rw [hr] at this; cases this
  intro fuel
  induction fuel with
  | zero =>
    intro listed a w hs hc hcnt hJ
    have hall : ∀ k, k < ops.size → listed.getD k false = true := by
      intro k hk
      have h0 : (List.range ops.size).countP (fun k => !listed.getD k false) = 0 := by omega
      rw [List.countP_eq_zero] at h0
      have := h0 k (by simpa using hk)
      simpa using this
    have hr : Region.ready .any ops listed = [] := by
      apply List.eq_nil_iff_forall_not_mem.2
      intro j hj
      obtain ⟨h1, h2, _⟩ := (ready_iff hreg tv hap).1 hj
      have := hall j h1
      rw [Array.getD_eq_getD_getElem?, Array.getElem?_eq_getElem (by omega)] at this h2
      simp at this h2
      rw [this] at h2; cases h2
    exact ⟨hr, hQ _ _ _ (fun k hk => hall k (by simpa [hlen] using hk)) hJ⟩
  | succ fuel ih =>
    intro listed a w hs hc hcnt hJ
    refine ⟨fun hr => hQ _ _ _ (fun k hk => hend listed hs hc hr k (by simpa [hlen] using hk)) hJ, fun j hj => ?_⟩
    obtain ⟨h1, h2, h3⟩ := (ready_iff hreg tv hap).1 hj
    have hje : j < es.length := by rw [hlen]; simpa using h1
    have hopj := tv.op j hje
    have hopj' : ops[j] = es[j].o := by simpa using hopj
    have hLj : listed.getD j false = false := by
      rw [Array.getD_eq_getD_getElem?, Array.getElem?_eq_getElem (by omega)] at h2 ⊢; simpa using h2
    have hL' : ∀ k, (listed.setIfInBounds j true).getD k false = (listed.getD k false || k == j) := by
      intro k
      simp only [Array.getD_eq_getD_getElem?, Array.getElem?_setIfInBounds]
      by_cases hk : j = k
      · subst hk; simp [show j < listed.size by omega]
      · simp [hk, Ne.symm hk]
    have hr : ∀ e ∈ (es[j].o.after).toList, Region.binds .any e = true → listed.getD e.on false = true := by rw [← hopj']; exact h3
    refine Jn_step tv ok henv hje hLj hL' (fun t ht => slot_agree hreg tv hc hje hLj hr ht) (fun hrun id hid => mem_agree hreg tv hap hc hje hLj hr hrun hid) (fun t => slot_ins hreg tv hc hje hLj hL' t) (fun id => mem_ins hreg tv hap hc hje hLj hL' id) hJ (fun a' w' hJ' => ?_)
    refine ih (listed.setIfInBounds j true) a' w' (by simpa using hs) ?_ ?_ hJ'
    · intro k hk hLk e he hb
      simp only [hL', Bool.or_eq_true, beq_iff_eq] at hLk ⊢
      rcases hLk with hLk | rfl
      · exact .inl (hc k hk hLk e he hb)
      · exact .inl (h3 e (by simpa using he) hb)
    · have hlt : (List.range ops.size).countP (fun k => !(listed.setIfInBounds j true).getD k false) < (List.range ops.size).countP (fun k => !listed.getD k false) := by
        have hle : ∀ k ∈ List.range ops.size, (!(listed.setIfInBounds j true).getD k false) = true → (!listed.getD k false) = true := by
          intro k _ hk
          rw [hL'] at hk
          simp at hk ⊢
          exact hk.1
        have hmem : j ∈ List.range ops.size := by simpa using h1
        obtain ⟨pre, post, hsplit⟩ := List.append_of_mem hmem
        rw [hsplit] at hle ⊢
        simp only [List.countP_append, List.countP_cons]
        have e1 : (!(listed.setIfInBounds j true).getD j false) = false := by rw [hL']; simp
        have e2 : (!listed.getD j false) = true := by rw [hLj]; rfl
        rw [e1, e2]
        have a1 := List.countP_mono_left (l := pre) (p := fun k => !(listed.setIfInBounds j true).getD k false) (q := fun k => !listed.getD k false) (fun k hk h => hle k (by simp [hk]) h)
        have a2 := List.countP_mono_left (l := post) (p := fun k => !(listed.setIfInBounds j true).getD k false) (q := fun k => !listed.getD k false) (fun k hk h => hle k (by simp [hk]) h)
        simp
        simp at a1 a2
        omega
      omega
end
end Go.AE
