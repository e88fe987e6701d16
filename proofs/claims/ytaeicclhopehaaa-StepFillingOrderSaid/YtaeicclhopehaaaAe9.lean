/- All operations together. -/
import Derived.Test.YtaeicclhopehaaaAe8
namespace Go.AE
open Go.RowKit
set_option linter.unusedVariables false

section
variable {P : Program} {ti : TI} {w0 : World} {F0 : Fz} {U : Nat → Prop} {m : MM} {F : Fz} {G : Gm} {w : World}

theorem RT.nth {t : AV} : ∀ {i : Nat} {a : AV} {vs : List Value}, t.nth i = some a → RT F t vs → ∃ v, vs[i]? = some v ∧ RVp F a v := by
  induction t with
  | tc x y ihx ihy =>
    rintro i a vs h ⟨v, r, rfl, h1, h2⟩
    cases i with
    | zero => simp only [AV.nth, Option.some.injEq] at h; subst h; exact ⟨v, rfl, h1⟩
    | succ i => simp only [AV.nth] at h; obtain ⟨u, h3, h4⟩ := ihy h h2; exact ⟨u, by simpa using h3, h4⟩
  | _ => intro i a vs h; cases h

theorem intOp_ok {ev : Operand → AV} {eval : Operand → Value} (hev : ∀ x, RV F G (ev x) (eval x)) {o : Option Operand} {d n : Int} (h : intOp o ev d = some n) : (o.map eval = none ∧ n = d) ∨ ∃ q, o.map eval = some (.int q n) := by
  cases o with
  | none => simp only [intOp, Option.some.injEq] at h; exact .inl ⟨rfl, h.symm⟩
  | some x =>
    simp only [intOp] at h
    split at h
    · rename_i q n' hx
      simp only [Option.some.injEq] at h
      subst h
      have := hev x
      rw [hx] at this
      exact .inr ⟨q, by rw [← (RV_v this).1]; rfl⟩
    · cases h

theorem parts_ok {ev : Operand → AV} {eval : Operand → Value} (hev : ∀ x, RV F G (ev x) (eval x)) (parts : List (Nat × Operand)) :
    ∃ hl : (parts.map fun p => ev p.2).length = (parts.map fun p => eval p.2).length, ∀ i (h : i < (parts.map fun p => ev p.2).length), RV F G (parts.map fun p => ev p.2)[i] ((parts.map fun p => eval p.2)[i]'(hl ▸ h)) :=
  ⟨by simp, fun i h => by simpa using hev _⟩
theorem args_ok {ev : Operand → AV} {eval : Operand → Value} (hev : ∀ x, RV F G (ev x) (eval x)) (l : List Operand) :
    ∃ hl : (l.map ev).length = (l.map eval).length, ∀ i (h : i < (l.map ev).length), RV F G (l.map ev)[i] ((l.map eval)[i]'(hl ▸ h)) :=
  ⟨by simp, fun i h => by simpa using hev _⟩
theorem pubs_len {ti : TI} : ∀ {l : List AV} {ts : List TypeId} {m : MM} {l' : List AV} {ws : Ws}, pubs ti m ts l = some (l', ws) → l'.length = l.length := by
  intro l
  induction l with
  | nil => intro ts m l' ws h; simp only [pubs, Option.some.injEq, Prod.mk.injEq] at h; rw [← h.1]
  | cons a r ih =>
    intro ts m l' ws h
    simp only [pubs] at h
    split at h
    · split at h
      · rename_i h2
        simp only [Option.some.injEq, Prod.mk.injEq] at h
        rw [← h.1]; simp [ih h2]
      · cases h
    · cases h

/-- What is handed on, and the entry behind it. -/
theorem After.more {m' : MM} {F' : Fz} (hF : F.le F') {ws ws' : Ws} (hm' : m' = m.upd ws) {nid : Nat} {r : AV} {v : Value} {w' : World} (h : After w0 F0 U m' F' G nid r ws' v w') : After w0 F0 U m F G nid r (ws ++ ws') v w' := by
  obtain ⟨F2, G2, h1, h2, h3, h4⟩ := h
  subst hm'
  exact ⟨F2, G2, hF.trans h1, h2, h3, by rw [MM.upd_append]; exact h4⟩
theorem RV_of_RVp' {a : AV} {v : Value} (h : RVp F a v) : RV F G a v := by
  cases a <;> first
    | exact h
    | trivial
    | exact False.elim (by unfold RVp at h; simpa [AV.agg, RC] using h)

theorem call_ok {env : Env} (ok : TIOk P ti) (henv : EnvOk P env) (hm : Mem w0 F0 U m F G w) {ev : Operand → AV} {a : Act} (hev : ∀ x, RV F G (ev x) (a.eval x)) {nid : Nat} (hn : ¬ U nid) {o : Oper} {c : Call} (hop : o.op = .call c) {p : Prop} {r : AV} {ws : Ws}
    (h : callEff ti env ev m nid c = some (p, r, ws)) (hp : p) : OpGoal P o a w (After w0 F0 U m F G nid r ws) := by
  obtain ⟨callee, args, argTypes⟩ := c
  unfold callEff at h
  split at h
  · -- len
    rename_i hc
    dsimp only at hc; subst hc
    split at h
    · rename_i x t ha ht
      split at h
      · rename_i hek
        obtain ⟨⟨e, k⟩, hk⟩ := Option.isSome_iff_exists.1 hek
        obtain ⟨hu, _⟩ := ok.ek t e k hk
        have hrun : ∀ A n cc, a.eval x = .slice A n cc → (execOp a.eval o).run P w = .ok (.value (.int .i64 n)) w := by
          intro A n cc hx
          have e1 : args = #[x] := by apply Array.ext'; simpa using ha
          have e2 : argTypes = #[t] := by apply Array.ext'; simpa using ht
          subst e1 e2
          simp [execOp, hop, resolve, invoke, builtin, Builtin.len_, run_underlying hu, hx, goInt]
        have hx := hev x
        split at h
        · rename_i k' l hx'
          rw [hx'] at hx
          simp only [Option.some.injEq, Prod.mk.injEq] at h
          obtain ⟨rfl, rfl, rfl⟩ := h
          obtain ⟨v, e1, A, cc, e2, _⟩ := (show RC F (.lst k' l) [a.eval x] from hx)
          simp only [List.cons.injEq, and_true] at e1
          rw [e2] at e1
          exact OpGoal.of_run (hrun _ _ _ e1) (After.same hm ⟨rfl, rfl⟩)
        · rename_i id hx'
          rw [hx'] at hx
          split at h
          · rename_i T k' l fz h0
            simp only [Option.some.injEq, Prod.mk.injEq] at h
            obtain ⟨rfl, rfl, rfl⟩ := h
            rcases hm.own id _ h0 with ⟨a1, a2⟩ | ⟨g, c, C, a1, a2, a3, a4, hq, a5, a6, a7, a9⟩
            · rcases hx with ⟨_, e1⟩ | ⟨g, c, e1, _⟩
              · subst a2; exact OpGoal.of_run (hrun _ _ _ e1) (After.same hm ⟨rfl, rfl⟩)
              · rw [a1] at e1; cases e1
            · rcases hx with ⟨e1, _⟩ | ⟨g', c', e1, e3⟩
              · rw [a1] at e1; cases e1
              · have e2 := a1.symm.trans e1
                simp only [Option.some.injEq, Prod.mk.injEq] at e2
                obtain ⟨rfl, rfl⟩ := e2
                rw [hq] at e3
                exact OpGoal.of_run (hrun _ _ _ e3) (After.same hm ⟨rfl, rfl⟩)
          · cases h
        · rename_i hx'
          rw [hx'] at hx
          simp only [Option.some.injEq, Prod.mk.injEq] at h
          obtain ⟨rfl, rfl, rfl⟩ := h
          exact OpGoal.of_run (hrun _ _ _ (RV_v hx).1) (After.same hm ⟨rfl, rfl⟩)
        · cases h
      · cases h
    · cases h
  · -- max
    rename_i hc
    dsimp only at hc; subst hc
    split at h
    · rename_i x y ha
      split at h
      · rename_i k a' k' b' hx hy
        simp only [Option.some.injEq, Prod.mk.injEq] at h
        obtain ⟨rfl, rfl, rfl⟩ := h
        have h1 := hev x; rw [hx] at h1
        have h2 := hev y; rw [hy] at h2
        have e1 : args = #[x, y] := by apply Array.ext'; simpa using ha
        subst e1
        exact OpGoal.of_run (by simp [execOp, hop, resolve, invoke, builtin, Builtin.max_, Builtin.max2, (RV_v h1).1, (RV_v h2).1]) (After.same hm ⟨rfl, rfl⟩)
      · cases h
    · cases h
  · -- min
    rename_i hc
    dsimp only at hc; subst hc
    split at h
    · rename_i x y ha
      split at h
      · rename_i k a' k' b' hx hy
        simp only [Option.some.injEq, Prod.mk.injEq] at h
        obtain ⟨rfl, rfl, rfl⟩ := h
        have h1 := hev x; rw [hx] at h1
        have h2 := hev y; rw [hy] at h2
        have e1 : args = #[x, y] := by apply Array.ext'; simpa using ha
        subst e1
        exact OpGoal.of_run (by simp [execOp, hop, resolve, invoke, builtin, Builtin.min_, Builtin.min2, (RV_v h1).1, (RV_v h2).1]) (After.same hm ⟨rfl, rfl⟩)
      · cases h
    · cases h
  · -- append
    rename_i hc
    dsimp only at hc; subst hc
    split at h
    · rename_i s x t t' ha ht
      split at h
      · rename_i et
        subst et
        have e1 : args = #[s, x] := by apply Array.ext'; simpa using ha
        have e2 : argTypes = #[t', t'] := by apply Array.ext'; simpa using ht
        subst e1 e2
        obtain ⟨v, w', h1, h2⟩ := append_run ok hm hn h hp (hev s) (hev x) o.type
        exact OpGoal.of_run (by simp [execOp, hop, resolve, invoke, builtin, h1]) h2
      · cases h
    · cases h
  · -- a function
    rename_i f hc
    dsimp only at hc; subst hc
    split at h
    · rename_i g hf
      split at h
      · rename_i ct hg
        split at h
        · rename_i as ws' hps
          split at h
          · rename_i p' r' hct
            simp only [Option.some.injEq, Prod.mk.injEq] at h
            obtain ⟨rfl, rfl, rfl⟩ := h
            have h1 := hev f; rw [hf] at h1
            have h2 := (RV_v h1).1
            refine call_run henv hm hg hps hct hp (args := args.toList.map a.eval) (args_ok hev args.toList) ?_
            have h3 := call_enter (w := w) henv hg (args.toList.map a.eval).toArray
            have h4 : (List.map a.eval args.toList).toArray = Array.map a.eval args := by apply Array.ext'; simp
            rw [h4] at h3 ⊢
            simp [execOp, hop, resolve, h2, Deferred.ofValue, invoke, h3]
          · cases h
        · cases h
      · cases h
    · cases h
  · cases h
theorem build_slice_run {t e : TypeId} {k : K} {i : TypeInfo} {z : Value} (hu : P.underlying t = some (.slice e)) (hi : P.info? e = some i) (hz : i.zero = some z) (hs : i.size = k.es) {n : Nat} (hsz : n * k.es ≤ 16777216) {parts : Array (Nat × Value)} {C' : Array Value}
    (h1 : Instr.fill (fun i => some (i * k.es, k.es)) (madeCells z.cells (n * k.es)) parts.toList = some C') : (Instr.buildSlice t n parts).run P w = .ok (.slice (some ⟨w.heap.size, 0, none⟩) n n) (w.alloc (.cells C' e)) := by
  have hsz' : ¬ 16777216 < n * k.es := by omega
  by_cases h0 : n * k.es = 0
  · have hm0 : madeCells z.cells (n * k.es) = #[] := by rw [h0]; simp [madeCells]
    rw [hm0] at h1
    have hm1 : ∀ d : Value, (Array.map (fun (_ : Nat) => d) (Array.range 0)) = #[] := fun d => by simp
    simp [Instr.buildSlice, run_underlying hu, sizeOf, typeInfo, hi, hs, newRow, h0, hm1, h1]
  · have hnz : (Array.map (fun x => z.cells[x % z.cells.size]!) (Array.range (n * k.es))) = madeCells z.cells (n * k.es) := rfl
    simp [Instr.buildSlice, run_underlying hu, sizeOf, typeInfo, hi, hs, newRow, hsz', zeroValue, hz, h0, hnz, h1]

theorem op_ok {env : Env} (ok : TIOk P ti) (henv : EnvOk P env) (hm : Mem w0 F0 U m F G w) {ev : Operand → AV} {a : Act} (hev : ∀ x, RV F G (ev x) (a.eval x)) {nid : Nat} (hn : ¬ U nid) {o : Oper} {p : Prop} {r : AV} {ws : Ws}
    (h : opEff ti env ev m nid o.op = some (p, r, ws)) (hp : p) : OpGoal P o a w (After w0 F0 U m F G nid r ws) := by
  cases hop : o.op with
  | move x =>
    rw [hop] at h
    simp only [opEff, Option.some.injEq, Prod.mk.injEq] at h
    obtain ⟨rfl, rfl, rfl⟩ := h
    exact OpGoal.of_run (by simp [execOp, hop]) (After.same hm (hev x))
  | assign x =>
    rw [hop] at h
    simp only [opEff, Option.some.injEq, Prod.mk.injEq] at h
    obtain ⟨rfl, rfl, rfl⟩ := h
    exact OpGoal.of_run (by simp [execOp, hop]) (After.same hm (hev x))
  | pick c x y =>
    rw [hop] at h
    simp only [opEff] at h
    have hc := hev c
    split at h
    · rename_i hx
      rw [hx] at hc
      simp only [Option.some.injEq, Prod.mk.injEq] at h
      obtain ⟨rfl, rfl, rfl⟩ := h
      exact OpGoal.of_run (by simp [execOp, hop, (RV_v hc).1, asBool]) (After.same hm (hev x))
    · rename_i hx
      rw [hx] at hc
      simp only [Option.some.injEq, Prod.mk.injEq] at h
      obtain ⟨rfl, rfl, rfl⟩ := h
      exact OpGoal.of_run (by simp [execOp, hop, (RV_v hc).1, asBool]) (After.same hm (hev y))
    · cases h
  | alloc t =>
    rw [hop] at h
    simp only [opEff] at h
    split at h
    · rename_i z hz
      simp only [Option.some.injEq, Prod.mk.injEq] at h
      obtain ⟨rfl, rfl, rfl⟩ := h
      obtain ⟨zv, h1, h2⟩ := ok.zero t z hz
      obtain ⟨i, hi, hiz⟩ := Option.map_eq_some_iff.1 h1
      exact OpGoal.of_run (by simp [execOp, hop, Instr.alloc, zeroValue, typeInfo, hi, hiz, newVar, newRow]) (alloc_new hm hn (h2 F))
    · cases h
  | box t x =>
    rw [hop] at h
    simp only [opEff] at h
    split at h
    · rename_i b ws' n bb hpub hsz
      split at h
      · simp only [Option.some.injEq, Prod.mk.injEq] at h
        obtain ⟨rfl, rfl, rfl⟩ := h
        obtain ⟨F1, hF1, hm1, hx1⟩ := pub_ok hpub hm (hev x)
        exact OpGoal.of_run (by simp [execOp, hop, Instr.box, newVar, newRow]) (After.more hF1 rfl (alloc_new (C := (a.eval x).cells) hm1 hn hx1.cells.1))
      · cases h
    · cases h
  | build t parts =>
    rw [hop] at h
    simp only [opEff] at h
    split at h
    · rename_i z as ws' hz hps
      split at h
      · rename_i z' hfold
        split at h
        rotate_left
        · cases h
        rename_i hagg
        simp only [Option.some.injEq, Prod.mk.injEq] at h
        obtain ⟨rfl, rfl, rfl⟩ := h
        obtain ⟨zv, fs, places, h1, h2, h3, h4, h5, h6⟩ := ok.zeroB t z hz
        obtain ⟨i, hi, hiz⟩ := Option.map_eq_some_iff.1 h1
        obtain ⟨F1, hF1, hm1, hvs⟩ := pubs_ok hps hm (parts_ok hev parts.toList)
        obtain ⟨C', h7, h8⟩ := foldB_ok (place := (places.toArray[·]?)) (C := zv.cells) (fun j off n hf => by simpa using h6 j off n hf) hfold (h2 F1) hvs (by rw [pubs_len hps]; simp)
        have hb : P.built t (Array.map (fun p => (p.1, a.eval p.2)) parts).toList = some C' := by
          unfold Program.built
          have hzip : (parts.toList.map (·.1)).zip (parts.toList.map fun p => a.eval p.2) = (Array.map (fun p => (p.1, a.eval p.2)) parts).toList := by
            rw [List.zip_map']; simp
          rw [hzip] at h7
          simp [hi, h4, hiz, h5]
          simpa using h7
        exact OpGoal.of_run (v := .agg C') (by simp [execOp, hop, run_build w t _ C' hb]) ⟨F1, G, hF1, Gm.le.refl G, RV_of_RVp' (RVp.mk h8 (fun _ => rfl) (fun e => by rw [hagg] at e; cases e)), hm1.wider fun _ h => .inl h⟩
      · cases h
    · cases h
  | call c => rw [hop] at h; exact call_ok ok henv hm hev hn hop h hp
  | load t x =>
    rw [hop] at h
    simp only [opEff] at h
    split at h
    · rename_i n b hsz
      have hx := hev x
      split at h
      · rename_i id off hx'
        rw [hx'] at hx
        split at h
        · rename_i T ax h0
          split at h
          · rename_i y hpart
            split at h
            · rename_i hb
              simp only [Option.some.injEq, Prod.mk.injEq] at h
              obtain ⟨rfl, rfl, rfl⟩ := h
              obtain ⟨v, h1, h2⟩ := box_load ok hsz hm h0 hpart hb hx
              exact OpGoal.of_run (by simp [execOp, hop, h1]) (After.same hm (RV_of_RVp' h2))
            · cases h
          · cases h
        · cases h
      · rename_i id es i off hx'
        rw [hx'] at hx
        split at h
        · rename_i T k l fz h0
          split at h
          · rename_i hes
            subst hes
            split at h
            · rename_i y hpart
              split at h
              · rename_i hb
                simp only [Option.some.injEq, Prod.mk.injEq] at h
                obtain ⟨rfl, rfl, rfl⟩ := h
                obtain ⟨v, h1, h2⟩ := ep_load ok hsz hm h0 hp hpart hb hx
                exact OpGoal.of_run (by simp [execOp, hop, h1]) (After.same hm (RV_of_RVp' h2))
              · cases h
            · cases h
          · cases h
        · cases h
      · rename_i b' hx'
        rw [hx'] at hx
        split at h
        · rename_i y hpart
          split at h
          · rename_i hb
            simp only [Option.some.injEq, Prod.mk.injEq] at h
            obtain ⟨rfl, rfl, rfl⟩ := h
            obtain ⟨v, h1, h2⟩ := rp_load ok hsz hm hpart hb hx
            exact OpGoal.of_run (by simp [execOp, hop, h1]) (After.same hm (RV_of_RVp' h2))
          · cases h
        · cases h
      · cases h
    · cases h
  | store t x y =>
    rw [hop] at h
    simp only [opEff] at h
    split at h
    · rename_i n b y' ws' hsz hpub
      split at h
      · rename_i hn'
        obtain ⟨F1, hF1, hm1, hy⟩ := pub_ok hpub hm (hev y)
        have hx := (hev x).mono hF1 (Gm.le.refl G)
        split at h
        · rename_i id off hx'
          rw [hx'] at hx
          split at h
          · rename_i T ax h0
            split at h
            · rename_i a' hset
              simp only [Option.some.injEq, Prod.mk.injEq] at h
              obtain ⟨rfl, rfl, rfl⟩ := h
              obtain ⟨w', h1, h2⟩ := box_store ok hsz hm1 h0 hn' hset hx hy
              exact OpGoal.of_skip (w' := w') (by simp [execOp, hop, h1]) ⟨F1, G, hF1, Gm.le.refl G, rfl, by rw [MM.upd_append]; exact h2.wider fun _ h => .inl h⟩
            · cases h
          · cases h
        · rename_i id es i hx'
          rw [hx'] at hx
          split at h
          · rename_i T k l h0
            split at h
            · rename_i hes
              obtain ⟨hes1, hes2⟩ := hes
              subst hes1 hes2
              split at h
              · rename_i p' y2 hdec
                simp only [Option.some.injEq, Prod.mk.injEq] at h
                obtain ⟨rfl, rfl, rfl⟩ := h
                obtain ⟨w', h1, h2⟩ := ep_store ok hsz hm1 h0 hp.2 hdec hp.1 hx hy
                exact OpGoal.of_skip (w' := w') (by simp [execOp, hop, h1]) ⟨F1, G, hF1, Gm.le.refl G, rfl, by rw [MM.upd_append]; exact h2.wider fun _ h => .inl h⟩
              · cases h
            · cases h
          · cases h
        · cases h
      · cases h
    · cases h
  | extract x i =>
    rw [hop] at h
    simp only [opEff] at h
    have hx := hev x
    split at h
    · rename_i t hx'
      rw [hx'] at hx
      split at h
      · rename_i b hnth
        simp only [Option.some.injEq, Prod.mk.injEq] at h
        obtain ⟨rfl, rfl, rfl⟩ := h
        obtain ⟨vs, e1, h1⟩ := (show ∃ vs, a.eval x = .tuple vs.toArray ∧ RT F t vs from hx)
        obtain ⟨v, h2, h3⟩ := RT.nth hnth h1
        exact OpGoal.of_run (by simp [execOp, hop, Instr.extract, e1, h2]) (After.same hm (RV_of_RVp' h3))
      · cases h
    · cases h
  | fieldAddr s x j =>
    rw [hop] at h
    simp only [opEff] at h
    have hx := hev x
    split at h
    · rename_i off n hf
      split at h
      · rename_i id o' hx'
        rw [hx'] at hx
        simp only [Option.some.injEq, Prod.mk.injEq] at h
        obtain ⟨rfl, rfl, rfl⟩ := h
        obtain ⟨g, c, h1, h2⟩ := hx
        exact OpGoal.of_run (by simp [execOp, hop, h2, field_run ok hf]) (After.same hm ⟨g, c, h1, rfl⟩)
      · rename_i id es i o' hx'
        rw [hx'] at hx
        simp only [Option.some.injEq, Prod.mk.injEq] at h
        obtain ⟨rfl, rfl, rfl⟩ := h
        obtain ⟨g, c, h1, h2⟩ := hx
        exact OpGoal.of_run (v := .pointer (some ⟨g, i * es + o' + off, none⟩)) (by simp [execOp, hop, h2, field_run ok hf]) (After.same hm ⟨g, c, h1, by rw [Nat.add_assoc]⟩)
      · rename_i b hx'
        rw [hx'] at hx
        split at h
        · rename_i y hpart
          simp only [Option.some.injEq, Prod.mk.injEq] at h
          obtain ⟨rfl, rfl, rfl⟩ := h
          obtain ⟨g, o', C, T, fr, cs', h1, h2, h3, h4⟩ := (show RC F (.rp b) [a.eval x] from hx)
          simp only [List.cons.injEq, and_true] at h1
          obtain ⟨pre, post, mid, rfl, e2, e3, e4⟩ := AV.part_ok hpart h3
          refine OpGoal.of_run (v := .pointer (some ⟨g, o' + off, none⟩)) (by simp [execOp, hop, h1, field_run ok hf]) (After.same hm ?_)
          exact (show RC F (.rp y) _ from ⟨g, o' + off, C, T, fr, mid, rfl, h2, e4, fun k hk => by
            rw [Nat.add_assoc, h4 (off + k) (by simp; omega), ← e2]; exact getElem?_mid pre mid post k hk⟩)
        · cases h
      · cases h
    · cases h
  | indexAddr t x i =>
    rw [hop] at h
    simp only [opEff] at h
    have hx := hev x
    have hi := hev i
    split at h
    · rename_i ik n e k' hi' hk
      rw [hi'] at hi
      have e1 := (RV_v hi).1
      split at h
      · rename_i k l hx'
        rw [hx'] at hx
        split at h
        · rename_i ek
          subst ek
          simp only [Option.some.injEq, Prod.mk.injEq] at h
          obtain ⟨rfl, rfl, rfl⟩ := h
          obtain ⟨v, h1, h2⟩ := lst_index (w := w) ok hk hp.1 hp.2 (ik := ik) hx
          exact OpGoal.of_run (by simp [execOp, hop, e1, h1]) (After.same hm h2)
        · cases h
      · rename_i id hx'
        rw [hx'] at hx
        split at h
        · rename_i T k l fz h0
          split at h
          · rename_i ek
            subst ek
            simp only [Option.some.injEq, Prod.mk.injEq] at h
            obtain ⟨rfl, rfl, rfl⟩ := h
            obtain ⟨v, h1, h2⟩ := row_index ok hm hk h0 hp.1 hp.2 (ik := ik) hx
            exact OpGoal.of_run (by simp [execOp, hop, e1, h1]) (After.same hm h2)
          · cases h
        · cases h
      · cases h
    · cases h
  | makeSlice t x y =>
    rw [hop] at h
    simp only [opEff] at h
    have hx := hev x
    have hy := hev y
    split at h
    · rename_i k1 n k2 c e k hx' hy' hk
      rw [hx'] at hx; rw [hy'] at hy
      simp only [Option.some.injEq, Prod.mk.injEq] at h
      obtain ⟨rfl, rfl, rfl⟩ := h
      obtain ⟨v, w', h1, h2⟩ := make_run ok hm hn hk hp.1 hp.2.1 hp.2.2 (k1 := k1) (k2 := k2)
      exact OpGoal.of_run (by simp [execOp, hop, (RV_v hx).1, (RV_v hy).1, h1]) h2
    · cases h
  | slice t x lo hi mx =>
    rw [hop] at h
    cases mx with
    | some _ => cases h
    | none =>
      simp only [opEff] at h
      split at h
      · rename_i k l ws' e k' hpub hk
        split at h
        · rename_i ek
          subst ek
          split at h
          · rename_i n1 n2 hlo hhi
            simp only [Option.some.injEq, Prod.mk.injEq] at h
            obtain ⟨rfl, rfl, rfl⟩ := h
            obtain ⟨F1, hF1, hm1, hx⟩ := pub_ok hpub hm (hev x)
            obtain ⟨v, h1, h2⟩ := slice_run (w := w) ok hk hx (intOp_ok hev hlo) (intOp_ok hev hhi) hp.1 hp.2.1 hp.2.2
            exact OpGoal.of_run (v := v) (by simp [execOp, hop, h1]) ⟨F1, G, hF1, Gm.le.refl G, h2, hm1.wider fun _ h => .inl h⟩
          · cases h
        · cases h
      · cases h
  | buildSlice t n parts =>
    rw [hop] at h
    simp only [opEff] at h
    split at h
    · rename_i e k as ws' hk hps
      split at h
      · rename_i hsz
        split at h
        · rename_i p' l hfold
          simp only [Option.some.injEq, Prod.mk.injEq] at h
          obtain ⟨rfl, rfl, rfl⟩ := h
          obtain ⟨F1, hF1, hm1, hvs⟩ := pubs_ok hps hm (parts_ok hev parts.toList)
          obtain ⟨hu, i, z, hi, hz, hs, hb, hzs, hzk⟩ := ok.ek t e k hk
          have hrow : RowIn F1 k (List.replicate n k.zero) (madeCells z.cells (n * k.es)) := fun j hj => by
            have hj' : j < n := by simpa using hj
            refine ⟨z.cells.toList, by simpa using hzs, by simpa using hzk F1, fun q hq => ?_⟩
            have h5 : j * k.es + q < n * k.es := by
              have : (j + 1) * k.es ≤ n * k.es := Nat.mul_le_mul_right _ hj'
              rw [Nat.add_mul] at this; omega
            have := made_get z.cells (n * k.es) j q (by rw [hzs]; exact hq) (by rw [hzs]; exact h5)
            rw [hzs] at this
            rw [this]; simp
          obtain ⟨C', h1, h2, h3, h4⟩ := foldS_ok (C := madeCells z.cells (n * k.es)) hfold hp hrow (by simp [madeCells]) hvs (by rw [pubs_len hps]; simp)
          have hl : l.length = n := by simpa using h3
          have hC : C'.size = n * k.es := by rw [h4]; simp [madeCells]
          have hzip : (parts.toList.map (·.1)).zip (parts.toList.map fun p => a.eval p.2) = (Array.map (fun p => (p.1, a.eval p.2)) parts).toList := by
            rw [List.zip_map']; simp
          rw [hzip] at h1
          have hn24 : n ≤ 16777216 := Nat.le_trans (Nat.le_mul_of_pos_right _ k.es_pos) hsz
          have hnew := row_new (T := e) (C := C') (c := n) hm1 hn (by omega) hC (by simp only [maxLen]; omega) h2
          rw [hl] at hnew
          refine OpGoal.of_run (v := .slice (some ⟨w.heap.size, 0, none⟩) n n) (w' := w.alloc (.cells C' e)) ?_ (After.more hF1 rfl hnew)
          have := build_slice_run (w := w) hu hi hz hs hsz h1
          simp [execOp, hop, this]
        · cases h
      · cases h
    · cases h
  | binOp op t x y t2 =>
    rw [hop] at h
    simp only [opEff] at h
    split at h
    · rename_i p' r' hbin
      simp only [Option.some.injEq, Prod.mk.injEq] at h
      obtain ⟨rfl, rfl, rfl⟩ := h
      obtain ⟨v, h1, h2⟩ := binA_run (w := w) ok hbin hp (hev x) (hev y) x y
      refine OpGoal.of_run (v := v) (w' := w) ?_ (After.same hm (RV_of_RVp' h2))
      simp only [execOp, hop, Sem.run_bind]
      simp only [Sem.run_bind] at h1
      rw [h1]
      rfl
    · cases h
  | unOp op t x =>
    rw [hop] at h
    simp only [opEff] at h
    have hx := hev x
    split at h
    · rename_i k n hx'
      rw [hx'] at hx
      simp only [Option.some.injEq, Prod.mk.injEq] at h
      obtain ⟨rfl, rfl, rfl⟩ := h
      exact OpGoal.of_run (by simp [execOp, hop, (RV_v hx).1, Op.unary, Op.intArith]) (After.same hm ⟨rfl, rfl⟩)
    · rename_i b hx'
      rw [hx'] at hx
      simp only [Option.some.injEq, Prod.mk.injEq] at h
      obtain ⟨rfl, rfl, rfl⟩ := h
      exact OpGoal.of_run (by simp [execOp, hop, (RV_v hx).1, Op.unary]) (After.same hm ⟨rfl, rfl⟩)
    · cases h
  | convert s d x =>
    rw [hop] at h
    simp only [opEff] at h
    have hx := hev x
    split at h
    · rename_i k1 n k2 k hx' hs hd
      rw [hx'] at hx
      simp only [Option.some.injEq, Prod.mk.injEq] at h
      obtain ⟨rfl, rfl, rfl⟩ := h
      exact OpGoal.of_run (by simp [execOp, hop, (RV_v hx).1, convert, run_underlying (ok.int s _ hs), run_underlying (ok.int d _ hd), Conv.intToInt]) (After.same hm ⟨rfl, rfl⟩)
    · cases h
  | field t x j =>
    rw [hop] at h
    simp only [opEff] at h
    have hx := hev x
    split at h
    · rename_i off n b hf
      split at h
      · rename_i y hpart
        split at h
        · rename_i hab
          simp only [Option.some.injEq, Prod.mk.injEq] at h
          obtain ⟨rfl, rfl, rfl⟩ := h
          obtain ⟨fs, f, d, h1, h2, h3, h4, h5, h6, h8, h7⟩ := ok.f1 t j off n b hf
          have hx2 : RVp F (ev x) (a.eval x) := by
            have ha := hab.1
            cases hv : ev x <;> rw [hv] at ha hx <;> first | exact hx | cases ha
          unfold RVp at hx2
          rw [if_pos hab.1] at hx2
          obtain ⟨cs, hc, hcs⟩ := hx2
          obtain ⟨pre, post, mid, e1, e2, e3, e4⟩ := AV.part_ok hpart hc
          have hagg : (isAgg f.type).run P w = .ok b w := by
            unfold isAgg
            simp only [Sem.run_bind, run_underlying h4, Result.andThen_ok]
            cases d <;> first | (rw [← h5]; rfl)
          have hsz : (sizeOf f.type).run P w = .ok n w := by
            obtain ⟨i, hi⟩ := Option.isSome_iff_exists.1 h8
            rw [← h6]; simp [sizeOf, typeInfo, hi, Program.cellsOf]
          cases hb : b with
          | true =>
            rw [hb] at hagg hab
            have hrun : (Instr.field t (a.eval x) j).run P w = .ok (.agg mid.toArray) w := by
              have : List.take n (List.drop off cs) = mid := by
                subst e1
                rw [← e2, ← e3, List.append_assoc, List.drop_left, List.take_left]
              simp [Instr.field, run_underlying h1, h2, hcs, asAgg, part, hagg, h3, hsz, this]
            exact OpGoal.of_run (by simp [execOp, hop, hrun]) (After.same hm (RV_of_RVp' (RVp.mk e4 (fun _ => rfl) (fun e => by rw [hab.2] at e; cases e))))
          | false =>
            rw [hb] at hagg hab
            have hn := h7 hb
            obtain ⟨u, hu⟩ : ∃ u, mid = [u] := List.length_eq_one_iff.1 (by omega)
            subst hu
            have hrun : (Instr.field t (a.eval x) j).run P w = .ok u w := by
              have : cs[off]? = some u := by
                subst e1
                rw [← e2]
                simp
              simp [Instr.field, run_underlying h1, h2, hcs, asAgg, part, hagg, h3, this]
            exact OpGoal.of_run (by simp [execOp, hop, hrun]) (After.same hm (RV_of_RVp' (RVp.mk e4 (fun e => by rw [hab.2] at e; cases e) (fun _ => rfl))))
        · cases h
      · cases h
    · cases h
  | lookup t x k c =>
    rw [hop] at h
    cases c with
    | true => cases h
    | false =>
      simp only [opEff] at h
      have hx := hev x
      have hk := hev k
      split at h
      · rename_i es ck s hx' hk'
        rw [hx'] at hx
        rw [hk'] at hk
        split at h
        · rename_i hms
          split at h
          · rename_i y hfind
            split at h
            · rename_i hpl
              simp only [Option.some.injEq, Prod.mk.injEq] at h
              obtain ⟨rfl, rfl, rfl⟩ := h
              obtain ⟨kt, e, h1, h2⟩ := ok.ms t hms
              obtain ⟨b, h3, h4⟩ := (show ∃ b, [a.eval x] = [.map (some b)] ∧ F b = some (.map es ck) from hx)
              have h3' : a.eval x = .map (some b) := by simpa using h3
              have hk2 := (RV_v hk).1
              have hck : ∀ em, (Instr.checkKey em 10000 kt (.string s)).run P w = .ok () w := by
                intro em
                rw [show (10000 : Nat) = 9999 + 1 from rfl, Instr.checkKey.eq_2]
                simp [run_underlying h2]
              have hfn : ∀ (l : List MapEntry) (i : Nat) (v : Value), findS s l = some v → ∃ j, Instr.findNow .string (.string s) l i = some (some (j, v)) := by
                intro l
                induction l with
                | nil => intro i v hv; cases hv
                | cons en r ih =>
                  intro i v hv
                  simp only [findS] at hv
                  split at hv
                  · rename_i ks hks
                    split at hv
                    · rename_i heq
                      cases hv
                      exact ⟨i, by simp only [Instr.findNow, hks, Instr.sameNow, heq]⟩
                    · rename_i hne
                      obtain ⟨j, hj⟩ := ih (i + 1) v hv
                      refine ⟨j, ?_⟩
                      have hne' : (s == ks) = false := by simpa using hne
                      simp only [Instr.findNow, hks, Instr.sameNow, hne']
                      exact hj
                  · cases hv
              obtain ⟨j, hj⟩ := hfn es.toList 0 _ hfind
              have hget : (getObj b).run P w = .ok (.map es ck) w := by
                have := hm.fit b _ h4
                unfold getObj; simp only [Sem.run, this]
              have hrun : (Instr.lookup t (a.eval x) (a.eval k) false).run P w = .ok (.agg #[y]) w := by
                rw [h3', hk2]
                simp [Instr.lookup, run_underlying h1, hget, hck, Instr.findKey, run_underlying h2, hj]
              exact OpGoal.of_run (by simp [execOp, hop, hrun]) (After.same hm (show ∃ cs, RC F (.one y) cs ∧ Value.agg #[y] = .agg cs.toArray from ⟨[y], ⟨hpl, rfl⟩, rfl⟩))
            · cases h
          · cases h
        · cases h
      · cases h
  | _ => rw [hop] at h; cases h
end
end Go.AE
