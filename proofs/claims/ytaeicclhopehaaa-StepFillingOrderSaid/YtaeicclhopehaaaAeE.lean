/- Regions, from the function on states. -/
import Derived.Test.YtaeicclhopehaaaAeD
namespace Go.AE
open Go.RowKit
set_option linter.unusedVariables false
set_option linter.unusedSectionVars false

section
variable {P : Program} {ti : TI} {env : Env} {nt : Nat} {ops : Array Oper} {w0 : World} {F0 : Fz}

/-- The machine stands as the state tells. -/
def Gam (w0 : World) (F0 : Fz) (nt : Nat) (σ : AS) (a : Act) (w : World) : Prop :=
  ∃ F G, Mem w0 F0 (fun id => id < σ.nx) (lkM σ.mem) F G w ∧ (∀ t, RV F G (lkS σ.sl t) (a.tmps.getD t undef)) ∧ a.tmps.size = nt ∧ a.defers = []

theorem yield_bool {g : Nat} {d : Tmp} (h : gdst (ops.toList.map (·.dst)) g = some d) {a : Act} {b : Bool} (hb : a.tmps.getD d undef = .bool b) : yielded ops a.tmps g = some b := by
  have hdst : (ops[g]?).bind (·.dst) = some d := by
    simp only [gdst, List.getD_eq_getElem?_getD, List.getElem?_map] at h
    cases hog : ops.toList[g]? with
    | none => rw [hog] at h; cases h
    | some og =>
      rw [hog] at h
      have : ops[g]? = some og := by simpa using hog
      rw [this]; simpa using h
  unfold yielded
  rw [hdst]
  rw [Array.getD_eq_getD_getElem?] at hb
  cases h3 : a.tmps[d]? with
  | none => rw [h3] at hb; cases hb
  | some u => rw [h3] at hb; simp only [Option.getD_some] at hb; subst hb; simp [h3]
theorem yield_un {g : Nat} {d : Tmp} (h : gdst (ops.toList.map (·.dst)) g = some d) {a : Act} (hb : a.tmps.getD d undef = undef) : yielded ops a.tmps g = none := by
  have hdst : (ops[g]?).bind (·.dst) = some d := by
    simp only [gdst, List.getD_eq_getElem?_getD, List.getElem?_map] at h
    cases hog : ops.toList[g]? with
    | none => rw [hog] at h; cases h
    | some og =>
      rw [hog] at h
      have : ops[g]? = some og := by simpa using hog
      rw [this]; simpa using h
  unfold yielded
  rw [hdst]
  rw [Array.getD_eq_getD_getElem?] at hb
  cases h5 : a.tmps[d]? with
  | none => simp [h5]
  | some u => rw [h5] at hb; simp only [Option.getD_some] at hb; subst hb; simp [h5, undef]

theorem lkS_refine {sl : List (Nat × AV)} {d : Tmp} {x : AV} (h : lkS sl d = x) : lkS ((d, x) :: sl) = lkS sl := by
  funext t
  simp only [lkS]
  split
  · rename_i e; subst e; exact h.symm
  · rfl

/-- One operation. -/
theorem put_slots {F F' : Fz} {G G' : Gm} {sl sl' : List (Nat × AV)} {a : Act} {o : Option Tmp} {r : AV} {v : Value} (hs : ∀ t, RV F G (lkS sl t) (a.tmps.getD t undef)) (hsz : a.tmps.size = nt) (hp : putS nt sl o r = some sl') (hF : F.le F') (hG : G.le G') (hv : RV F' G' r v) :
    ∀ t, RV F' G' (lkS sl' t) ((a.put o v).tmps.getD t undef) := by
  intro t
  cases o with
  | none => simp only [putS, Option.some.injEq] at hp; subst hp; exact (hs t).mono hF hG
  | some d =>
    simp only [putS] at hp
    split at hp
    · rename_i hd
      simp only [Option.some.injEq] at hp
      subst hp
      rw [put_getD _ _ _ (by rw [hsz]; exact hd)]
      simp only [lkS]
      by_cases htd : t = d
      · subst htd; simpa using hv
      · rw [if_neg htd, if_neg (Ne.symm htd)]
        exact (hs t).mono hF hG
    · cases hp

theorem put_keeps {a : Act} (o : Option Tmp) (v : Value) (hsz : a.tmps.size = nt) (hdf : a.defers = []) : (a.put o v).tmps.size = nt ∧ (a.put o v).defers = [] := by
  cases o <;> simp [Act.put, hsz, hdf]

theorem run_one (ok : TIOk P ti) (henv : EnvOk P env) {o : Oper} {σ σ' : AS} {p : Prop} (h : effQ nt ti env σ o = some (p, σ')) (hp : p) {a : Act} {w : World} (hg : Gam w0 F0 nt σ a w) :
    OpGoal P o a w (fun v w' => Gam w0 F0 nt σ' (a.put o.dst v) w') := by
  obtain ⟨F, G, hm, hs, hsz, hdf⟩ := hg
  unfold effQ at h
  split at h
  · rename_i p' r ws he
    split at h
    · rename_i sl hput
      simp only [Option.some.injEq, Prod.mk.injEq] at h
      obtain ⟨rfl, rfl⟩ := h
      intro next Q hn
      refine op_ok (o := o) ok henv hm (evO_ok hs) (by simp : ¬ σ.nx < σ.nx) he hp next Q (fun v w' hafter => hn v w' ?_)
      obtain ⟨F', G', hF, hG, hv, hm'⟩ := hafter
      refine ⟨F', G', ?_, put_slots hs hsz hput hF hG hv, (put_keeps _ _ hsz hdf).1, (put_keeps _ _ hsz hdf).2⟩
      rw [lkM_updL]
      exact hm'.wider (fun i hi => by rcases hi with hi | rfl <;> (show _ < σ.nx + 1; omega))
    · cases h
  · cases h

theorem skip_one {o : Oper} {σ σ' : AS} (h : skipS nt σ o = some σ') {a : Act} {w : World} (hg : Gam w0 F0 nt σ a w) : Gam w0 F0 nt σ' (a.put o.dst undef) w := by
  obtain ⟨F, G, hm, hs, hsz, hdf⟩ := hg
  unfold skipS at h
  split at h
  · rename_i sl hput
    simp only [Option.some.injEq] at h
    subst h
    exact ⟨F, G, hm, put_slots hs hsz hput (Fz.le.refl F) (Gm.le.refl G) rfl, (put_keeps _ _ hsz hdf).1, (put_keeps _ _ hsz hdf).2⟩
  · cases h

theorem Gam.refine {σ : AS} {d : Tmp} {x : AV} (h : lkS σ.sl d = x) {a : Act} {w : World} (hg : Gam w0 F0 nt σ a w) : Gam w0 F0 nt ⟨(d, x) :: σ.sl, σ.mem, σ.nx⟩ a w := by
  obtain ⟨F, G, hm, hs, hsz, hdf⟩ := hg
  exact ⟨F, G, hm, fun t => by rw [show lkS ((d, x) :: σ.sl) t = lkS σ.sl t from congrFun (lkS_refine h) t]; exact hs t, hsz, hdf⟩

theorem seq_ok (ok : TIOk P ti) (henv : EnvOk P env) {Q : Exit → Act → World → Prop} {K : AS → Prop} (hQ : ∀ τ a w, Gam w0 F0 nt τ a w → K τ → Q .normal a w) :
    ∀ (r pre : List Oper) (σ : AS) (a : Act) (w : World), ops.toList = pre ++ r → evalQ nt ti env (ops.toList.map (·.dst)) r σ K → Gam w0 F0 nt σ a w → wpOps P ops Q (List.range' pre.length r.length) a w := by
  intro r
  induction r with
  | nil => intro pre σ a w he h hg; exact hQ σ a w hg h
  | cons o r ih =>
    intro pre σ a w he h hg
    have hi : ops[pre.length]? = some o := by
      have : ops.toList[pre.length]? = some o := by rw [he]; simp
      simpa using this
    rw [List.length_cons, List.range'_succ]
    simp only [wpOps, hi]
    have next : ∀ σ' a' w', evalQ nt ti env (ops.toList.map (·.dst)) r σ' K → Gam w0 F0 nt σ' a' w' → wpOps P ops Q (List.range' (pre.length + 1) r.length) a' w' := by
      intro σ' a' w' h' hg'
      have := ih (pre ++ [o]) σ' a' w' (by rw [he]; simp) h' hg'
      simpa using this
    simp only [evalQ] at h
    split at h
    · rename_i hgd
      have hw : Region.wanted o (yielded ops a.tmps) = true := by simp [Region.wanted, hgd]
      rw [hw, if_pos rfl]
      split at h
      · rename_i p σ' heff
        exact .inl (run_one ok henv heff h.1 hg _ _ (fun v w' hg' => next σ' _ _ h.2 hg'))
      · exact h.elim
    · rename_i j gb hgd
      split at h
      · exact h.elim
      · rename_i d hd
        split at h
        · rename_i b hb
          have hval : a.tmps.getD d undef = .bool b := by
            obtain ⟨F, G, hm, hs, _⟩ := hg
            have := hs d
            rw [hb] at this
            exact (RV_v this).1
          have hy := yield_bool hd hval
          by_cases hbg : b = gb
          · have h1 := h.1 hbg
            have hw : Region.wanted o (yielded ops a.tmps) = true := by simp [Region.wanted, hgd, hy, hbg]
            rw [hw, if_pos rfl]
            split at h1
            · rename_i p σ' heff
              exact .inl (run_one ok henv heff h1.1 (hg.refine (by rw [hb, hbg])) _ _ (fun v w' hg' => next σ' _ _ h1.2 hg'))
            · exact h1.elim
          · have hbn : b = !gb := by cases b <;> cases gb <;> simp_all
            have h1 := h.2 hbn
            have hw : Region.wanted o (yielded ops a.tmps) = false := by simp [Region.wanted, hgd, hy]; exact hbg
            rw [hw]
            simp only [Bool.false_eq_true, if_false]
            split at h1
            · rename_i σ' hskip
              exact next σ' _ _ h1 (skip_one hskip (hg.refine (by rw [hb, hbn])))
            · exact h1.elim
        · rename_i hb
          have hval : a.tmps.getD d undef = undef := by
            obtain ⟨F, G, hm, hs, _⟩ := hg
            have := hs d
            rw [hb] at this
            exact this
          have hy := yield_un hd hval
          have hw : Region.wanted o (yielded ops a.tmps) = false := by simp [Region.wanted, hgd, hy]
          rw [hw]
          simp only [Bool.false_eq_true, if_false]
          split at h
          · rename_i σ' hskip
            exact next σ' _ _ h (skip_one hskip hg)
          · exact h.elim
        · exact h.elim

theorem region_seq (ok : TIOk P ti) (henv : EnvOk P env) {Q : Exit → Act → World → Prop} {K : AS → Prop} {id : Nat} {σ : AS} (h : evalQ nt ti env (ops.toList.map (·.dst)) ops.toList σ K) {a : Act} {w : World} (hg : Gam w0 F0 nt σ a w)
    (hQ : ∀ τ a w, Gam w0 F0 nt τ a w → K τ → Q .normal a w) : (Code.region id ops false).wp P Q a w := by
  refine wp_region ?_
  have := seq_ok ok henv hQ ops.toList [] σ a w rfl h hg
  rw [List.range_eq_range']
  simpa using this

/-! ### In whatever order -/
def efsOf : Nat → List En → List Ef
  | _, [] => []
  | i, e :: r => if e.run = true then ⟨i, e.ri, e.ws.map (·.1)⟩ :: efsOf (i + 1) r else efsOf (i + 1) r
theorem efsOf_append : ∀ (a : List En) (i : Nat) (b : List En), efsOf i (a ++ b) = efsOf i a ++ efsOf (i + a.length) b := by
  intro a
  induction a with
  | nil => intro i b; simp [efsOf]
  | cons e r ih =>
    intro i b
    simp only [List.cons_append, efsOf, ih]
    split <;> simp [Nat.add_assoc, Nat.add_comm 1]
theorem efsOf_mem : ∀ {es : List En} {i j : Nat} (hj : j < es.length), es[j].run = true → (⟨i + j, es[j].ri, es[j].ws.map (·.1)⟩ : Ef) ∈ efsOf i es := by
  intro es
  induction es with
  | nil => intro i j hj; simp at hj
  | cons e r ih =>
    intro i j hj hr
    cases j with
    | zero => simp only [List.getElem_cons_zero] at hr ⊢; simp [efsOf, hr]
    | succ j =>
      have := ih (i := i + 1) (j := j) (by simpa using hj) (by simpa using hr)
      simp only [efsOf, List.getElem_cons_succ]
      rw [show i + (j + 1) = i + 1 + j by omega]
      split
      · exact List.mem_cons_of_mem _ this
      · exact this
theorem apart_of {es : List En} (h : compat ops.toList (efsOf 0 es) = true) : Apart ops.toList es := by
  intro i j hi hj hij hri hrj hex
  simp only [compat, List.all_eq_true] at h
  have := h _ (efsOf_mem hi hri) _ (efsOf_mem hj hrj)
  simp only [Nat.zero_add, hij, decide_true, Bool.not_true, Bool.false_or, Bool.or_eq_true, Bool.not_eq_true'] at this
  rcases this with h1 | h1
  · exfalso
    obtain ⟨x, ⟨h2, h3⟩ | ⟨h2, h3⟩⟩ := hex
    · have : clash ⟨i, es[i].ri, es[i].ws.map (·.1)⟩ ⟨j, es[j].ri, es[j].ws.map (·.1)⟩ = true := by
        simp only [clash, Bool.or_eq_true, List.any_eq_true]
        refine .inl ⟨x, h2, ?_⟩
        simp only [List.contains_iff_mem]
        exact h3
      rw [h1] at this; cases this
    · have : clash ⟨i, es[i].ri, es[i].ws.map (·.1)⟩ ⟨j, es[j].ri, es[j].ws.map (·.1)⟩ = true := by
        simp only [clash, Bool.or_eq_true, List.any_eq_true]
        refine .inr ⟨x, h2, ?_⟩
        simpa [List.contains_iff_mem] using h3
      rw [h1] at this; cases this
  · exact h1

theorem lastW_snoc {E V : Type} (wr : E → Option V) : ∀ (es : List E) (i : Nat) (e : E) (v : V), lastW wr (fun _ => true) i (es ++ [e]) v = (wr e).getD (lastW wr (fun _ => true) i es v) := by
  intro es
  induction es with
  | nil => intro i e v; simp [lastW]
  | cons x r ih => intro i e v; simp only [List.cons_append, lastW]; exact ih _ _ _
theorem lastW_take {E V : Type} (wr : E → Option V) : ∀ (es : List E) (i j : Nat) (v : V), lastW wr (lt (i + j)) i es v = lastW wr (fun _ => true) i (es.take j) v := by
  intro es
  induction es with
  | nil => intro i j v; simp [lastW]
  | cons x r ih =>
    intro i j v
    cases j with
    | zero =>
      simp only [List.take_zero, lastW]
      rw [show lt (i + 0) i = false by simp [lt]]
      simp only [Bool.false_eq_true, if_false]
      exact lastW_none wr (fun k hk _ => by simp [lt]; omega)
    | succ j =>
      simp only [List.take_succ_cons, lastW]
      rw [show lt (i + (j + 1)) i = true by simp [lt]]
      rw [show i + (j + 1) = i + 1 + j by omega]
      exact ih (i + 1) j _

/-- The state behind some entries. -/
def stS (es : List En) (sl0 : Nat → AV) (t : Nat) : AV := lastW (wrS t) (fun _ => true) 0 es (sl0 t)
def stM (es : List En) (m0 : MM) : MM := fun id => lastW (wrM id) (fun _ => true) 0 es (m0 id)
structure Steps1 (nt : Nat) (ti : TI) (env : Env) (dsts : List (Option Tmp)) (sl0 : Nat → AV) (m0 : MM) (es0 es1 : List En) (r : List Oper) (a b : Nat) : Prop where
  len : es1.length = r.length
  op : ∀ j (h : j < es1.length), r[j]'(len ▸ h) = es1[j].o
  dst : ∀ j (h : j < es1.length) d, es1[j].o.dst = some d → d < nt
  guard : ∀ j (h : j < es1.length), gOk dsts (stS (es0 ++ es1.take j) sl0) es1[j]
  eff : ∀ j (h : j < es1.length), es1[j].run = true → es1[j].ri = opIds (evO (stS (es0 ++ es1.take j) sl0)) es1[j].o.op ∧ ∃ p, opEff ti env (evO (stS (es0 ++ es1.take j) sl0)) (stM (es0 ++ es1.take j) m0) es1[j].nid es1[j].o.op = some (p, es1[j].r, es1[j].ws) ∧ p
  nid : ∀ j (h : j < es1.length), es1[j].run = true → a ≤ es1[j].nid ∧ es1[j].nid < b
  le : a ≤ b
  ndist : ∀ i j (hi : i < es1.length) (hj : j < es1.length), i < j → es1[i].run = true → es1[j].run = true → es1[i].nid < es1[j].nid

theorem Steps1.cons {dsts : List (Option Tmp)} {sl0 : Nat → AV} {m0 : MM} {es0 es1 : List En} {e : En} {o : Oper} {r : List Oper} {a b c : Nat} (ho : o = e.o) (hd : ∀ d, e.o.dst = some d → d < nt) (hg : gOk dsts (stS es0 sl0) e)
    (he : e.run = true → e.ri = opIds (evO (stS es0 sl0)) e.o.op ∧ ∃ p, opEff ti env (evO (stS es0 sl0)) (stM es0 m0) e.nid e.o.op = some (p, e.r, e.ws) ∧ p) (hn : e.run = true → a ≤ e.nid ∧ e.nid < b) (hab : a ≤ b)
    (h : Steps1 nt ti env dsts sl0 m0 (es0 ++ [e]) es1 r b c) : Steps1 nt ti env dsts sl0 m0 es0 (e :: es1) (o :: r) a c := by
  have hbc := h.le
  refine ⟨by simp [h.len], ?_, ?_, ?_, ?_, ?_, by omega, ?_⟩
  · intro j hj
    cases j with
    | zero => simpa using ho
    | succ j => simpa using h.op j (by simpa using hj)
  · intro j hj d hd'
    cases j with
    | zero => exact hd d (by simpa using hd')
    | succ j => exact h.dst j (by simpa using hj) d (by simpa using hd')
  · intro j hj
    cases j with
    | zero => simpa using hg
    | succ j => have := h.guard j (by simpa using hj); simpa using this
  · intro j hj hr
    cases j with
    | zero => have := he (by simpa using hr); simpa using this
    | succ j => have := h.eff j (by simpa using hj) (by simpa using hr); simpa using this
  · intro j hj hr
    cases j with
    | zero => have := hn (by simpa using hr); simp only [List.getElem_cons_zero]; omega
    | succ j => have := h.nid j (by simpa using hj) (by simpa using hr); simp only [List.getElem_cons_succ]; omega
  · intro i j hi hj hij hri hrj
    cases j with
    | zero => omega
    | succ j =>
      have h2 := h.nid j (by simpa using hj) (by simpa using hrj)
      cases i with
      | zero => have := hn (by simpa using hri); simp only [List.getElem_cons_zero, List.getElem_cons_succ]; omega
      | succ i => have := h.ndist i j (by simpa using hi) (by simpa using hj) (by omega) (by simpa using hri) (by simpa using hrj); simpa using this

theorem evalR_run {dsts : List (Option Tmp)} {sl0 : Nat → AV} {m0 : MM} {K : AS → List Ef → Prop} : ∀ (r : List Oper) (i : Nat) (σ : AS) (efs : List Ef) (es0 : List En), evalR nt ti env dsts i r σ efs K → es0.length = i →
    lkS σ.sl = stS es0 sl0 → lkM σ.mem = stM es0 m0 → efs = efsOf 0 es0 →
    ∃ es1 τ, Steps1 nt ti env dsts sl0 m0 es0 es1 r σ.nx τ.nx ∧ lkS τ.sl = stS (es0 ++ es1) sl0 ∧ lkM τ.mem = stM (es0 ++ es1) m0 ∧ K τ (efsOf 0 (es0 ++ es1)) := by
  intro r
  induction r with
  | nil =>
    intro i σ efs es0 h hl hs hm he
    refine ⟨[], σ, ⟨rfl, fun j h => by simp at h, fun j h => by simp at h, fun j h => by simp at h, fun j h => by simp at h, fun j h => by simp at h, Nat.le_refl _, fun i j hi => by simp at hi⟩, by simpa using hs, by simpa using hm, ?_⟩
    simp only [evalR] at h
    rw [List.append_nil, ← he]; exact h
  | cons o r ih =>
    intro i σ efs es0 h hl hs hm he
    have run : ∀ (σ1 : AS), lkS σ1.sl = stS es0 sl0 → lkM σ1.mem = stM es0 m0 → σ1.nx = σ.nx → (match effR nt ti env σ1 o i with
        | some (p, σ', e) => p ∧ evalR nt ti env dsts (i + 1) r σ' (efs ++ [e]) K
        | none => False) → (∀ e : En, e.o = o → e.run = true → gOk dsts (stS es0 sl0) e) →
        ∃ es1 τ, Steps1 nt ti env dsts sl0 m0 es0 es1 (o :: r) σ.nx τ.nx ∧ lkS τ.sl = stS (es0 ++ es1) sl0 ∧ lkM τ.mem = stM (es0 ++ es1) m0 ∧ K τ (efsOf 0 (es0 ++ es1)) := by
      intro σ1 hs1 hm1 hn1 h1 hg
      split at h1
      · rename_i p σ' ef heff
        unfold effR at heff
        split at heff
        · rename_i p' rr ws hop
          split at heff
          · rename_i sl hput
            simp only [Option.some.injEq, Prod.mk.injEq] at heff
            obtain ⟨rfl, rfl, rfl⟩ := heff
            let e : En := ⟨o, true, rr, ws, σ1.nx, opIds (evO (lkS σ1.sl)) o.op⟩
            have hsl : lkS sl = stS (es0 ++ [e]) sl0 := by
              funext t
              unfold stS
              rw [lastW_snoc]
              have h0 := congrFun hs1 t
              cases hd : o.dst with
              | none =>
                rw [hd] at hput; simp only [putS, Option.some.injEq] at hput; subst hput
                have : wrS t e = none := by simp [wrS, e, hd]
                rw [this]; exact h0
              | some d =>
                rw [hd] at hput; simp only [putS] at hput
                split at hput
                · simp only [Option.some.injEq] at hput
                  subst hput
                  simp only [lkS]
                  by_cases hdt : d = t
                  · subst hdt
                    have : wrS d e = some rr := by simp [wrS, e, hd]
                    rw [this]; simp
                  · have : wrS t e = none := by simp [wrS, e, hd, hdt]
                    rw [this, if_neg hdt]; exact h0
                · cases hput
            have hmm : lkM (updL σ1.mem ws) = stM (es0 ++ [e]) m0 := by
              funext id
              rw [lkM_updL, upd_last]
              unfold stM
              rw [lastW_snoc]
              have : wrM id e = lastOf ws id := by simp [wrM, e]
              rw [this]
              congr 1
              exact congrFun hm1 id
            obtain ⟨es1, τ, h2, h3, h4, h5⟩ := ih (i + 1) _ _ (es0 ++ [e]) h1.2 (by simp [hl]) hsl hmm (by rw [efsOf_append, he, Nat.zero_add, hl]; simp [efsOf, e])
            refine ⟨e :: es1, τ, Steps1.cons (b := σ1.nx + 1) rfl (fun d hd => ?_) (hg e rfl rfl) (fun _ => ⟨by rw [← hs1], p', by rw [← hs1, ← hm1]; exact hop, h1.1⟩) (fun _ => ⟨by simp [e, hn1], by simp [e]⟩) (by omega) h2, by simpa using h3, by simpa using h4, by simpa using h5⟩
            have hd' : o.dst = some d := hd
            rw [hd'] at hput; simp only [putS] at hput
            split at hput
            · assumption
            · cases hput
          · cases heff
        · cases heff
      · exact h1.elim
    have skip : ∀ (σ1 : AS), lkS σ1.sl = stS es0 sl0 → lkM σ1.mem = stM es0 m0 → σ1.nx = σ.nx → (match skipS nt σ1 o with
        | some σ' => evalR nt ti env dsts (i + 1) r σ' efs K
        | none => False) → (∀ e : En, e.o = o → e.run = false → gOk dsts (stS es0 sl0) e) →
        ∃ es1 τ, Steps1 nt ti env dsts sl0 m0 es0 es1 (o :: r) σ.nx τ.nx ∧ lkS τ.sl = stS (es0 ++ es1) sl0 ∧ lkM τ.mem = stM (es0 ++ es1) m0 ∧ K τ (efsOf 0 (es0 ++ es1)) := by
      intro σ1 hs1 hm1 hn1 h1 hg
      split at h1
      · rename_i σ' hsk
        unfold skipS at hsk
        split at hsk
        · rename_i sl hput
          simp only [Option.some.injEq] at hsk
          subst hsk
          let e : En := ⟨o, false, .un, [], 0, []⟩
          have hsl : lkS sl = stS (es0 ++ [e]) sl0 := by
            funext t
            unfold stS
            rw [lastW_snoc]
            have h0 := congrFun hs1 t
            cases hd : o.dst with
            | none =>
              rw [hd] at hput; simp only [putS, Option.some.injEq] at hput; subst hput
              have : wrS t e = none := by simp [wrS, e, hd]
              rw [this]; exact h0
            | some d =>
              rw [hd] at hput; simp only [putS] at hput
              split at hput
              · simp only [Option.some.injEq] at hput
                subst hput
                simp only [lkS]
                by_cases hdt : d = t
                · subst hdt
                  have : wrS d e = some .un := by simp [wrS, e, hd]
                  rw [this]; simp
                · have : wrS t e = none := by simp [wrS, e, hd, hdt]
                  rw [this, if_neg hdt]; exact h0
              · cases hput
          have hmm : lkM σ1.mem = stM (es0 ++ [e]) m0 := by
            funext id
            unfold stM
            rw [lastW_snoc]
            have : wrM id e = none := by simp [wrM, e]
            rw [this]
            exact congrFun hm1 id
          obtain ⟨es1, τ, h2, h3, h4, h5⟩ := ih (i + 1) _ _ (es0 ++ [e]) h1 (by simp [hl]) hsl hmm (by rw [efsOf_append, he, Nat.zero_add, hl]; simp [efsOf, e])
          refine ⟨e :: es1, τ, Steps1.cons (b := σ.nx) rfl (fun d hd => ?_) (hg e rfl rfl) (fun h => by cases h) (fun h => by cases h) (by omega) (by rw [← hn1]; exact h2), by simpa using h3, by simpa using h4, by simpa using h5⟩
          have hd' : o.dst = some d := hd
          rw [hd'] at hput; simp only [putS] at hput
          split at hput
          · assumption
          · cases hput
        · cases hsk
      · exact h1.elim
    simp only [evalR] at h
    split at h
    · rename_i hgd
      exact run σ hs hm rfl h (fun e ho hr => by unfold gOk; rw [ho, hgd]; exact hr)
    · rename_i j gb hgd
      split at h
      · exact h.elim
      · rename_i d hd
        split at h
        · rename_i b hb
          by_cases hbg : b = gb
          · subst hbg
            exact run ⟨(d, .v (.bool b)) :: σ.sl, σ.mem, σ.nx⟩ (by rw [lkS_refine hb]; exact hs) hm rfl (h.1 rfl) (fun e ho hr => by unfold gOk; rw [ho, hgd]; exact ⟨d, hd, .inl ⟨hr, by rw [← hs]; exact hb⟩⟩)
          · have hbn : b = !gb := by cases b <;> cases gb <;> simp_all
            have h2 := h.2 hbn
            subst hbn
            exact skip ⟨(d, .v (.bool !gb)) :: σ.sl, σ.mem, σ.nx⟩ (by rw [lkS_refine hb]; exact hs) hm rfl h2 (fun e ho hr => by unfold gOk; rw [ho, hgd]; exact ⟨d, hd, .inr ⟨hr, .inl (by rw [← hs]; exact hb)⟩⟩)
        · rename_i hb
          exact skip σ hs hm rfl h (fun e ho hr => by unfold gOk; rw [ho, hgd]; exact ⟨d, hd, .inr ⟨hr, .inr (by rw [← hs]; exact hb)⟩⟩)
        · exact h.elim

theorem region_draw (ok : TIOk P ti) (henv : EnvOk P env) (hmix : P.follows .mixedOrders = true) (hreg : regOk ops.toList = true) {Q : Exit → Act → World → Prop} {K : AS → Prop} {id : Nat} {σ : AS}
    (h : evalR nt ti env (ops.toList.map (·.dst)) 0 ops.toList σ [] (fun τ efs => compat ops.toList efs = true ∧ K τ)) {a : Act} {w : World} (hg : Gam w0 F0 nt σ a w)
    (hQ : ∀ τ a w, Gam w0 F0 nt τ a w → K τ → Q .normal a w) : (Code.region id ops true).wp P Q a w := by
  obtain ⟨es, τ, h1, h2, h3, h4, h5⟩ := evalR_run (sl0 := lkS σ.sl) (m0 := lkM σ.mem) ops.toList 0 σ [] [] h rfl rfl rfl rfl
  simp only [List.nil_append] at h1 h2 h3 h4
  have hap := apart_of h4
  have htk : ∀ j t, slAt es (lkS σ.sl) (lt j) t = stS (es.take j) (lkS σ.sl) t := fun j t => by have := lastW_take (wrS t) es 0 j (lkS σ.sl t); rw [Nat.zero_add] at this; exact this
  have htm : ∀ j id, mAt es (lkM σ.mem) (lt j) id = stM (es.take j) (lkM σ.mem) id := fun j id => by have := lastW_take (wrM id) es 0 j (lkM σ.mem id); rw [Nat.zero_add] at this; exact this
  have tv : TV nt ti env ops.toList es (lkS σ.sl) (lkM σ.mem) σ.nx τ.nx := by
    refine ⟨h1.len, h1.op, h1.dst, fun j hj => ?_, fun j hj hr => ?_, h1.nid, h1.ndist⟩
    · have := h1.guard j hj
      simp only [List.nil_append] at this
      rwa [show slAt es (lkS σ.sl) (lt j) = stS (es.take j) (lkS σ.sl) from funext (htk j)]
    · have := h1.eff j hj hr
      simp only [List.nil_append] at this
      rw [show slAt es (lkS σ.sl) (lt j) = stS (es.take j) (lkS σ.sl) from funext (htk j), show mAt es (lkM σ.mem) (lt j) = stM (es.take j) (lkM σ.mem) from funext (htm j)]
      exact this
  obtain ⟨F, G, hm, hs, hsz, hdf⟩ := hg
  refine wp_region_any hmix ?_
  have hall : ∀ k, (Array.replicate ops.size false).getD k false = false := by
    intro k
    rw [Array.getD_eq_getD_getElem?, Array.getElem?_replicate]
    split <;> rfl
  refine any_ok (w0 := w0) (F0 := F0) hreg tv hap ok henv (fun L a' w' hL hJ => ?_) ops.size (Array.replicate ops.size false) a _ (by simp) ?_ ?_ ?_
  · obtain ⟨F', G', hm', hs', hsz', hdf'⟩ := hJ
    refine hQ τ a' w' ⟨F', G', ?_, fun t => ?_, hsz', hdf'⟩ h5
    · have : mAt es (lkM σ.mem) L = lkM τ.mem := by
        rw [h3]; funext id
        exact lastW_agree _ (fun k hk _ => by rw [Nat.zero_add]; exact hL k hk)
      rw [this] at hm'
      refine hm'.wider (fun id hid => ?_)
      rcases hid with hid | ⟨k, hk, _, hr, rfl⟩
      · have := h1.le; omega
      · exact (h1.nid k hk hr).2
    · have : slAt es (lkS σ.sl) L t = lkS τ.sl t := by
        rw [h2]
        exact lastW_agree _ (fun k hk _ => by rw [Nat.zero_add]; exact hL k hk)
      rw [← this]; exact hs' t
  · intro k hk hL; have hL' : (Array.replicate ops.size false).getD k false = true := hL; rw [hall k] at hL'; cases hL'
  · exact Nat.le_trans List.countP_le_length (by simp)
  · refine ⟨F, G, ?_, fun t => ?_, hsz, hdf⟩
    · have : mAt es (lkM σ.mem) (fun k => (Array.replicate ops.size false).getD k false) = lkM σ.mem := by
        funext id; exact lastW_none _ (fun k _ _ => hall _)
      rw [this]
      exact (hm.drew).wider (fun id hid => .inl hid)
    · have : slAt es (lkS σ.sl) (fun k => (Array.replicate ops.size false).getD k false) t = lkS σ.sl t := lastW_none _ (fun k _ _ => hall _)
      rw [this]; exact hs t
end
end Go.AE
