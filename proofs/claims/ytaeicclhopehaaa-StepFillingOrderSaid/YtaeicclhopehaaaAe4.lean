/- That function tells what the machine does: operation by operation. -/
import Derived.Test.YtaeicclhopehaaaAe3
import Derived.Laws.CopyRow
import Derived.Maps.AppendAt
import Derived.Conc.MuLone
namespace Go.AE
open Go.RowKit
set_option linter.unusedVariables false

section
variable {P : Program} {ti : TI} {w0 : World} {F0 : Fz} {U : Nat → Prop} {m : MM} {F : Fz} {G : Gm} {w : World}

theorem pub_ok {a a' : AV} {ws : Ws} (hp : pub m a = some (a', ws)) (hm : Mem w0 F0 U m F G w) {v : Value} (hv : RV F G a v) :
    ∃ F', F.le F' ∧ Mem w0 F0 U (m.upd ws) F' G w ∧ RVp F' a' v := by
  unfold pub at hp
  split at hp
  · rename_i id
    split at hp
    · rename_i T k l fz h0
      cases hp
      obtain ⟨F', h1, h2⟩ := hm.freeze h0
      refine ⟨F', h1, h2, ?_⟩
      have := h2.reads (id := id) (T := T) (k := k) (l := l) (by simp [MM.set]) (hv.mono h1 (Gm.le.refl G))
      exact this
    · cases hp
  all_goals first
    | (cases hp; exact ⟨F, Fz.le.refl F, hm, hv⟩)
    | cases hp

theorem nilAV_ok {t : TypeId} {a : AV} {v : Value} (hv : RVp F a v) : RVp F (nilAV ti t a) v := by
  unfold nilAV
  split
  · split
    · rename_i k h
      have hv' : RC F (.v (.slice none 0 0)) [v] := hv
      obtain ⟨_, h1⟩ := hv'
      cases h1
      exact ⟨_, rfl, none, 0, rfl, by simp, fun e => absurd rfl e⟩
    · exact hv
  · exact hv

/-- Values, one by one. -/
def RVs (F : Fz) : List AV → List Value → Prop
  | [], vs => vs = []
  | a :: r, vs => ∃ v rs, vs = v :: rs ∧ RVp F a v ∧ RVs F r rs
theorem RVs.mono {F F' : Fz} (hF : F.le F') : ∀ {l : List AV} {vs : List Value}, RVs F l vs → RVs F' l vs
  | [], _, h => h
  | a :: r, vs, ⟨v, rs, h1, h2, h3⟩ => ⟨v, rs, h1, h2.mono hF, RVs.mono hF h3⟩

theorem pubs_ok : ∀ {l : List AV} {ts : List TypeId} {m : MM} {F : Fz} {l' : List AV} {ws : Ws} {vs : List Value}, pubs ti m ts l = some (l', ws) → Mem w0 F0 U m F G w →
    (∃ hl : l.length = vs.length, ∀ i (h : i < l.length), RV F G l[i] (vs[i]'(hl ▸ h))) →
    ∃ F', F.le F' ∧ Mem w0 F0 U (m.upd ws) F' G w ∧ RVs F' l' vs := by
  intro l
  induction l with
  | nil =>
    intro ts m F l' ws vs hp hm ⟨hl, hv⟩
    simp only [pubs, Option.some.injEq, Prod.mk.injEq] at hp
    obtain ⟨rfl, rfl⟩ := hp
    have : vs = [] := List.eq_nil_of_length_eq_zero hl.symm
    exact ⟨F, Fz.le.refl F, hm, this⟩
  | cons a r ih =>
    intro ts m F l' ws vs hp hm ⟨hl, hv⟩
    cases vs with
    | nil => simp at hl
    | cons v vs =>
      simp only [pubs] at hp
      split at hp
      · rename_i a' w1 h1
        split at hp
        · rename_i r' w2 h2
          simp only [Option.some.injEq, Prod.mk.injEq] at hp
          obtain ⟨rfl, rfl⟩ := hp
          obtain ⟨F1, hF1, hm1, hv1⟩ := pub_ok h1 hm (hv 0 (by simp))
          obtain ⟨F2, hF2, hm2, hv2⟩ := ih (vs := vs) h2 hm1 ⟨by simpa using hl, fun i hi => (hv (i + 1) (by simpa using hi)).mono hF1 (Gm.le.refl G)⟩
          refine ⟨F2, hF1.trans hF2, ?_, v, vs, rfl, nilAV_ok (hv1.mono hF2), hv2⟩
          have e : ∀ (a b : Ws) (m : MM), (m.upd a).upd b = m.upd (a ++ b) := by
            intro a
            induction a with
            | nil => intro b m; rfl
            | cons x a ih => intro b m; exact ih b _
          rw [← e]
          exact hm2
        · cases hp
      · cases hp

/-- What an operation comes to. -/
def OpGoal (P : Program) (o : Oper) (a : Act) (w : World) (Ψ : Value → World → Prop) : Prop :=
  ∀ (next : Act → World → Prop) (Q : Exit → Act → World → Prop), (∀ v w', Ψ v w' → next (a.put o.dst v) w') → o.wp P a w next Q
theorem OpGoal.of_run {o : Oper} {a : Act} {w w' : World} {v : Value} {Ψ : Value → World → Prop} (h : (execOp a.eval o).run P w = .ok (.value v) w') (hΨ : Ψ v w') : OpGoal P o a w Ψ := fun next Q hn => by
  unfold Oper.wp; rw [h]; exact hn v w' hΨ
theorem OpGoal.of_skip {o : Oper} {a : Act} {w w' : World} {Ψ : Value → World → Prop} (h : (execOp a.eval o).run P w = .ok .skip w') (hΨ : Ψ undef w') : OpGoal P o a w Ψ := fun next Q hn => by
  unfold Oper.wp; rw [h]; exact hn _ w' hΨ

/-- What stands behind an operation. -/
def After (w0 : World) (F0 : Fz) (U : Nat → Prop) (m : MM) (F : Fz) (G : Gm) (nid : Nat) (r : AV) (ws : Ws) (v : Value) (w' : World) : Prop :=
  ∃ F' G', F.le F' ∧ G.le G' ∧ RV F' G' r v ∧ Mem w0 F0 (fun i => U i ∨ i = nid) (m.upd ws) F' G' w'
theorem After.same (hm : Mem w0 F0 U m F G w) {nid : Nat} {r : AV} {v : Value} (hv : RV F G r v) : After w0 F0 U m F G nid r [] v w :=
  ⟨F, G, Fz.le.refl F, Gm.le.refl G, hv, hm.wider fun _ h => .inl h⟩

theorem RVp.cells {a : AV} {v : Value} (h : RVp F a v) : RC F a v.cells.toList ∧ (a.agg = true → v = .agg v.cells) ∧ (a.agg = false → plainV v = true ∧ v.cells = #[v]) := by
  unfold RVp at h
  split at h
  · rename_i ha
    obtain ⟨cs, h1, rfl⟩ := h
    exact ⟨by simpa [Value.cells] using h1, fun _ => rfl, fun e => by rw [ha] at e; cases e⟩
  · rename_i ha
    have hp := RC.plain h v (by simp)
    have hc : v.cells = #[v] := by cases v <;> first | rfl | cases hp
    exact ⟨by rw [hc]; exact h, fun e => absurd e ha, fun _ => ⟨hp, hc⟩⟩
theorem RVp.mk {a : AV} {cs : List Value} (h : RC F a cs) {v : Value} (h1 : a.agg = true → v = .agg cs.toArray) (h2 : a.agg = false → cs = [v]) : RVp F a v := by
  unfold RVp
  split
  · rename_i ha; exact ⟨cs, h, h1 ha⟩
  · rename_i ha; rw [← h2 (by simpa using ha)]; exact h
theorem RV_of_RVp {a : AV} {v : Value} (h : RVp F a v) (hr : ∀ t, a ≠ .tup t) : RV F G a v := by
  cases a <;> first
    | exact h
    | exact absurd rfl (hr _)
    | (unfold RVp at h; simp only [AV.agg, Bool.false_eq_true, if_false] at h; exact h.elim)
/-- What has cells is a value that stays. -/
theorem RVp_of_RV {a : AV} {v : Value} (h : RV F G a v) (hp : pub m a = some (a, [])) : RVp F a v := by
  cases a <;> first
    | exact h
    | (simp only [pub] at hp; split at hp <;> cases hp)
    | cases hp

theorem load_run {t : TypeId} {n : Nat} {b : Bool} (ok : TIOk P ti) (hs : ti.sz t = some (n, b)) {x : AV} (hb : x.agg = b) {g off : Nat} {C : Array Value} {T : TypeId} {fr : Nat × Nat} (hg : w.heap[g]? = some (.cells C T fr))
    {cs : List Value} (hn : cs.length = n) (hc : ∀ k, k < cs.length → C[off + k]? = cs[k]?) (hx : RC F x cs) : ∃ v, (loadVar t ⟨g, off, none⟩).run P w = .ok v w ∧ RVp F x v := by
  obtain ⟨h1, h2⟩ := ok.sz t n b hs
  obtain ⟨i, hi, rfl⟩ := Option.map_eq_some_iff.1 h1
  obtain ⟨d, hd, rfl⟩ := Option.map_eq_some_iff.1 h2
  have hcell : ∀ j v, cs[j]? = some v → w.cell? ((⟨g, off, none⟩ : Addr).add j) = some v := by
    intro j v hj
    have hlt : j < cs.length := (List.getElem?_eq_some_iff.1 hj).1
    have hadd : (⟨g, off, none⟩ : Addr).add j = ⟨g, off + j, none⟩ := by unfold Addr.add; split <;> simp_all
    rw [hadd]
    simp [World.cell?, hg, hc j hlt, hj]
  have hl := run_loadCells_list (P := P) w ⟨g, off, none⟩ cs hcell
  cases hagg : isAggD d with
  | true =>
    refine ⟨.agg cs.toArray, ?_, RVp.mk hx (fun _ => rfl) (fun e => by rw [hb, hagg] at e; cases e)⟩
    have ha : (isAgg t).run P w = .ok true w := by cases d <;> simp [isAggD] at hagg <;> simp [isAgg, run_underlying hd]
    simp [loadVar, ha, sizeOf, typeInfo, hi, ← hn, hl]
  | false =>
    rw [hagg] at hb
    have hlen : cs.length = 1 := by
      rw [RC.length hx]
      cases x <;> first | rfl | exact False.elim hx | cases hb
    obtain ⟨v, rfl⟩ := List.length_eq_one_iff.1 hlen
    refine ⟨v, ?_, RVp.mk hx (fun e => by rw [hb] at e; cases e) (fun _ => rfl)⟩
    have ha : (isAgg t).run P w = .ok false w := by cases d <;> simp [isAggD] at hagg <;> simp [isAgg, run_underlying hd]
    have h0 := hcell 0 v rfl
    have hadd : (⟨g, off, none⟩ : Addr).add 0 = ⟨g, off, none⟩ := by simp [Addr.add]
    rw [hadd] at h0
    simp [loadVar, ha, run_load, h0]

theorem getElem?_mid {α : Type} (pre mid post : List α) (k : Nat) (h : k < mid.length) : (pre ++ mid ++ post)[pre.length + k]? = mid[k]? := by
  rw [List.append_assoc, List.getElem?_append_right (by omega), List.getElem?_append_left (by omega)]
  congr 1
  omega

theorem box_load {t : TypeId} {n : Nat} {b : Bool} (ok : TIOk P ti) (hs : ti.sz t = some (n, b)) (hm : Mem w0 F0 U m F G w) {id off : Nat} {T : TypeId} {a x : AV} (h0 : m id = some (.box T a)) (hx : a.part off n = some x) (hb : x.agg = b)
    {v : Value} (hv : RV F G (.ptr id off) v) : ∃ y, (Instr.loadAt t v).run P w = .ok y w ∧ RVp F x y := by
  obtain ⟨g, cs, h1, h2, h3, h4, h5⟩ := hm.own id _ h0
  obtain ⟨g', c', e1, rfl⟩ := hv
  rw [h1] at e1; cases e1
  obtain ⟨pre, post, mid, rfl, e2, e3, e4⟩ := AV.part_ok hx h5
  obtain ⟨y, hy, hr⟩ := load_run (w := w) ok hs hb h4 (off := off) (cs := mid) e3 (fun k hk => by rw [List.getElem?_toArray, ← e2]; exact getElem?_mid pre mid post k hk) e4
  exact ⟨y, by simpa [Instr.loadAt, Instr.sureAddr] using hy, hr⟩
end
end Go.AE
