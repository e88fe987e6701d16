/- Operation by operation: numbers, append, calls; then all of them. -/
import Derived.Test.YtaeicclhopehaaaAe6
namespace Go.AE
open Go.RowKit
set_option linter.unusedVariables false

section
variable {P : Program} {ti : TI} {w0 : World} {F0 : Fz} {U : Nat → Prop} {m : MM} {F : Fz} {G : Gm} {w : World}

theorem binI_run {op : BinOp} {k : IntKind} {a b : Int} {p : Prop} {r : AV} (h : binI op k a b = some (p, r)) (hp : p) (t : TypeId) (x y : Operand) :
    ∃ v, (do eqGuard op t x y (.int k a) (.int k b); binOp op t (.int k a) (.int k b)).run P w = .ok v w ∧ RVp F r v := by
  cases op <;> simp only [binI, Option.some.injEq, Prod.mk.injEq, reduceCtorEq] at h <;> obtain ⟨rfl, rfl⟩ := h
  case quo => exact ⟨_, by simp [eqGuard, binOp, Op.intDiv, show ¬ b = 0 from hp], ⟨rfl, rfl⟩⟩
  case rem => exact ⟨_, by simp [eqGuard, binOp, Op.intDiv, show ¬ b = 0 from hp], ⟨rfl, rfl⟩⟩
  all_goals exact ⟨_, by simp [eqGuard, binOp, Op.intArith, Op.intCmp], ⟨rfl, rfl⟩⟩

theorem RC_pair_ints {a b : Int} {v : Value} (h : RVp F (.pair (.v (.int .i64 a)) (.v (.int .i64 b))) v) : v = .agg #[.int .i64 a, .int .i64 b] := by
  obtain ⟨cs, ⟨c1, c2, rfl, ⟨_, rfl⟩, ⟨_, rfl⟩⟩, rfl⟩ := (show ∃ cs, RC F _ cs ∧ v = .agg cs.toArray from h)
  rfl

theorem equal_bool {t : TypeId} (hT : P.underlying t = some .bool) (a b : Bool) : (Op.equal t (.bool a) (.bool b)).run P w = .ok (a == b) w := by
  unfold Op.equal
  rw [show Op.maxDepth = 9999 + 1 from rfl, Op.equalIn.eq_2]
  simp [run_underlying hT]

theorem binA_run (ok : TIOk P ti) {op : BinOp} {t : TypeId} {a b : AV} {p : Prop} {r : AV} (h : binA ti op t a b = some (p, r)) (hp : p) {u v : Value} (hu : RV F G a u) (hv : RV F G b v) (x y : Operand) :
    ∃ z, (do eqGuard op t x y u v; binOp op t u v).run P w = .ok z w ∧ RVp F r z := by
  unfold binA at h
  split at h
  · rename_i k a k' b
    obtain ⟨rfl, _⟩ := RV_v hu
    obtain ⟨rfl, _⟩ := RV_v hv
    split at h
    · simp only [Option.some.injEq, Prod.mk.injEq] at h
      obtain ⟨rfl, rfl⟩ := h
      exact ⟨_, by simp [eqGuard, binOp, Op.shift, show ¬ b < 0 by omega], ⟨rfl, rfl⟩⟩
    · simp only [Option.some.injEq, Prod.mk.injEq] at h
      obtain ⟨rfl, rfl⟩ := h
      exact ⟨_, by simp [eqGuard, binOp, Op.shift, show ¬ b < 0 by omega], ⟨rfl, rfl⟩⟩
    · split at h
      · rename_i e; subst e; exact binI_run h hp t x y
      · cases h
  · obtain ⟨rfl, _⟩ := RV_v hu
    obtain ⟨rfl, _⟩ := RV_v hv
    split at h
    · rename_i hb
      have hT := ok.isb t hb
      split at h <;> simp only [Option.some.injEq, Prod.mk.injEq, reduceCtorEq] at h <;> obtain ⟨rfl, rfl⟩ := h <;>
        exact ⟨_, by simp [eqGuard, binOp, equal_bool hT], ⟨rfl, rfl⟩⟩
    · cases h
  · obtain rfl := RC_pair_ints hu
    obtain rfl := RC_pair_ints hv
    split at h
    · rename_i h2
      split at h <;> simp only [Option.some.injEq, Prod.mk.injEq, reduceCtorEq] at h <;> obtain ⟨rfl, rfl⟩ := h
      · exact ⟨_, (ok.eq2 t h2 x y _ _ _ _ w).1, ⟨rfl, rfl⟩⟩
      · exact ⟨_, (ok.eq2 t h2 x y _ _ _ _ w).2, ⟨rfl, rfl⟩⟩
    · cases h
  · cases h

/-- What is known of a function. -/
def Sound (P : Program) (g : Nat) (ct : Ct) : Prop :=
  (∃ fn c, P.funcs[g]? = some fn ∧ (fn.name == "runtime.NumGoroutine") = false ∧ fn.body = some c) ∧
  ∀ as p r, ct as = some (p, r) → p → ∀ (w : World) (F : Fz) (args : List Value), (∀ b o, F b = some o → w.heap[b]? = some o) → RVs F as args →
    Calls P g args.toArray w (fun e w' => ∃ F' v, F.le F' ∧ (∀ b, b < w.heap.size → F' b = F b) ∧ (∀ b o, F' b = some o → w'.heap[b]? = some o) ∧ Below w.heap.size w w' ∧ e = .returned v ∧ RV F' (fun _ => none) r v)
def EnvOk (P : Program) (env : Env) : Prop := ∀ g ct, env g = some ct → Sound P g ct

theorem call_run {env : Env} (henv : EnvOk P env) (hm : Mem w0 F0 U m F G w) {g : Nat} {ct : Ct} (hg : env g = some ct) {as as' : List AV} {ts : List TypeId} {ws : Ws} (hps : pubs ti m ts as = some (as', ws)) {p : Prop} {r : AV} (hct : ct as' = some (p, r)) (hp : p)
    {args : List Value} (hargs : ∃ hl : as.length = args.length, ∀ i (h : i < as.length), RV F G as[i] (args[i]'(hl ▸ h))) {nid : Nat} {o : Oper} {a : Act} (hrun : (execOp a.eval o).run P w = .ok (.enter g args.toArray) w) :
    OpGoal P o a w (After w0 F0 U m F G nid r ws) := by
  intro next Q hn
  obtain ⟨F1, hF1, hm1, hvs⟩ := pubs_ok hps hm hargs
  obtain ⟨_, hs⟩ := henv g ct hg
  have hc := hs as' p r hct hp w F1 args hm1.fit hvs
  unfold Oper.wp
  rw [hrun]
  refine Calls.mono hc ?_
  rintro e w' ⟨F', v, h1, h2, h3, h4, rfl, h5⟩
  exact hn v w' ⟨F', G, hF1.trans h1, Gm.le.refl G, h5.mono (Fz.le.refl _) (fun _ _ e => by cases e), (hm1.called h1 h2 h3 h4).wider fun _ h => .inl h⟩

theorem call_enter {env : Env} (henv : EnvOk P env) {g : Nat} {ct : Ct} (hg : env g = some ct) (args : Array Value) : (callFunc g args).run P w = .ok (.enter g args) w := by
  obtain ⟨⟨fn, c, h1, h2, h3⟩, _⟩ := henv g ct hg
  have h4 : fn.name ≠ "runtime.NumGoroutine" := by simpa using h2
  simp [callFunc, h1, h4, h3]
end
end Go.AE
