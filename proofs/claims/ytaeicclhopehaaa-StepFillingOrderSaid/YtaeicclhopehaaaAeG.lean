/- A function's contract, out of its code on states. -/
import Derived.Test.YtaeicclhopehaaaAeF
namespace Go.AE
open Go.RowKit
set_option linter.unusedVariables false
set_option linter.unusedSectionVars false

def argS : Nat → List AV → List (Nat × AV)
  | _, [] => []
  | i, a :: r => (i, a) :: argS (i + 1) r

section
variable {P : Program} {ti : TI} {env : Env} {F : Fz}

theorem argS_ok {G : Gm} : ∀ {as : List AV} {vs : List Value} {i : Nat}, RVs F as vs → ∀ t, i ≤ t → RV F G (lkS (argS i as) t) (vs.getD (t - i) undef) := by
  intro as
  induction as with
  | nil => intro vs i h t ht; trivial
  | cons a r ih =>
    rintro vs i ⟨v, rs, rfl, h1, h2⟩ t ht
    simp only [argS, lkS]
    by_cases e : i = t
    · subst e; simpa using RV_of_RVp' h1
    · rw [if_neg e]
      have := ih (i := i + 1) h2 t (by omega)
      rw [show t - i = (t - (i + 1)) + 1 by omega]
      simpa using this
theorem RVs.length : ∀ {as : List AV} {vs : List Value}, RVs F as vs → as.length = vs.length := by
  intro as
  induction as with
  | nil => intro vs h; rw [show vs = [] from h]; rfl
  | cons a r ih => rintro vs ⟨v, rs, rfl, h1, h2⟩; simp [ih h2]

def resM (tmps : Array Value) : ResultVar → Sem Value
  | .tmp t => pure (tmps.getD t undef)
  | .cell a t => do loadVar t (← asAddr (tmps.getD a undef))
theorem results_eq (fn : Func) (tmps : Array Value) : results fn tmps = (fn.results.mapM (resM tmps)) >>= fun vs => pure (if h : vs.size = 1 then vs[0] else .tuple vs) := by
  unfold results
  congr 2

theorem resAs_ok (ok : TIOk P ti) {w0 : World} {F0 : Fz} {U : Nat → Prop} {m : MM} {G : Gm} {w : World} {σ : AS} (hm : Mem w0 F0 U (lkM σ.mem) F G w) {tmps : Array Value} (hs : ∀ t, RV F G (lkS σ.sl t) (tmps.getD t undef)) :
    ∀ {rv : List ResultVar} {as : List AV}, resAs ti σ rv = some as → ∃ vs : List Value, (rv.mapM (resM tmps)).run P w = .ok vs w ∧ ∃ hl : as.length = vs.length, ∀ i (h : i < as.length), RV F G as[i] (vs[i]'(hl ▸ h)) := by
  intro rv
  induction rv with
  | nil => intro as h; simp only [resAs, Option.some.injEq] at h; subst h; exact ⟨[], by simp, rfl, fun i h => by simp at h⟩
  | cons r rs ih =>
    intro as h
    simp only [resAs] at h
    split at h
    · rename_i a as' h1 h2
      simp only [Option.some.injEq] at h
      subst h
      obtain ⟨vs, h3, hl, h4⟩ := ih h2
      have h5 : ∃ v, (resM tmps r).run P w = .ok v w ∧ RV F G a v := by
        cases r with
        | tmp t => simp only [resA, Option.some.injEq] at h1; subst h1; exact ⟨_, by simp [resM], hs t⟩
        | cell x t =>
          simp only [resA] at h1
          have hx := hs x
          split at h1
          · rename_i id off hp
            rw [hp] at hx
            split at h1
            · rename_i T y h0
              split at h1
              · rename_i n b hsz
                split at h1
                · rename_i z hpart
                  split at h1
                  · rename_i hb
                    simp only [Option.some.injEq] at h1
                    subst h1
                    obtain ⟨v, h6, h7⟩ := box_load ok hsz hm h0 hpart hb hx
                    refine ⟨v, ?_, RV_of_RVp' h7⟩
                    obtain ⟨g, c, _, e1⟩ := hx
                    rw [e1] at h6
                    simpa [Instr.loadAt, Instr.sureAddr, asAddr, e1, resM] using h6
                  · cases h1
                · cases h1
              · cases h1
            · cases h1
          · cases h1
      obtain ⟨v, h6, h7⟩ := h5
      refine ⟨v :: vs, ?_, by simp [hl], fun i hi => ?_⟩
      · simp only [List.mapM_cons, Sem.run_bind, h6, Result.andThen_ok, h3]
        simp
      · cases i with
        | zero => simpa using h7
        | succ i => simpa using h4 i (by simpa using hi)
    · cases h

theorem lsLe_ok : ∀ {as : List AV} {t : AV} {vs : List Value}, lsLe as t → RVs F as vs → RT F t vs := by
  intro as
  induction as with
  | nil => intro t vs h hv; cases t <;> first | exact hv | exact h.elim
  | cons a r ih =>
    rintro t vs h ⟨v, rs, rfl, h1, h2⟩
    cases t <;> first
      | exact ⟨v, rs, rfl, h.1 F v h1, ih h.2 h2⟩
      | exact h.elim
theorem resLe_ok {as : List AV} {r : AV} {vs : List Value} (h : resLe as r) (hv : RVs F as vs) : RV F (fun _ => none) r (if h : vs.toArray.size = 1 then vs.toArray[0] else .tuple vs.toArray) := by
  have hl := hv.length
  unfold resLe at h
  split at h
  · rename_i a
    obtain ⟨v, rs, rfl, h1, h2⟩ := hv
    obtain rfl : rs = [] := h2
    simpa using RV_of_RVp' (h F v h1)
  · rename_i t hne
    have : ¬ vs.toArray.size = 1 := by
      intro e
      have : as.length = 1 := by simpa [hl] using e
      obtain ⟨a, rfl⟩ := List.length_eq_one_iff.1 this
      exact hne a rfl
    rw [dif_neg this]
    exact ⟨vs, rfl, lsLe_ok h hv⟩
  · exact h.elim

theorem sound_of {g : Nat} {fn : Func} {c : Code} (hf : P.funcs[g]? = some fn) (hname : (fn.name == "runtime.NumGoroutine") = false) (hb : fn.body = some c) (ok : TIOk P ti) (henv : EnvOk P env) (hmix : P.follows .mixedOrders = true) {ct : Ct}
    (h : ∀ as p r, ct as = some (p, r) → p → ∀ F vs, RVs F as vs → ∃ as', RVs F as' vs ∧ Run P ti env fn.ntmps (finR ti fn.results.toList r) c .nil ⟨argS 0 as', [], 0⟩) (hnt : ∀ as p r, ct as = some (p, r) → as.length ≤ fn.ntmps) : Sound P g ct := by
  refine ⟨⟨fn, c, hf, hname, hb⟩, ?_⟩
  intro as p r hct hp w F args hfit hargs
  obtain ⟨as', ha', hrun⟩ := h as p r hct hp F args hargs
  have hlen := hargs.length
  refine calls_of_wp hf hb ?_
  have hgam : Gam w F fn.ntmps ⟨argS 0 as', [], 0⟩ { tmps := args.toArray ++ Array.replicate (fn.ntmps - args.toArray.size) undef, defers := [] } w := by
    refine ⟨F, fun _ => none, ⟨Fz.le.refl F, fun _ _ => rfl, hfit, Below.refl _ _, fun id e he => (by cases he), fun i i' e e' g c c' hi => (by cases hi), fun _ _ => rfl⟩, fun t => ?_, ?_, rfl⟩
    · have := argS_ok (G := fun _ => none) (i := 0) ha' t (Nat.zero_le _)
      rw [Nat.sub_zero] at this
      have e : (args.toArray ++ Array.replicate (fn.ntmps - args.toArray.size) undef).getD t undef = args.getD t undef := by
        simp only [Array.getD_eq_getD_getElem?, List.getD_eq_getElem?_getD]
        by_cases ht : t < args.length
        · rw [Array.getElem?_append_left (by simpa using ht)]; simp
        · rw [Array.getElem?_append_right (by simp; omega), List.getElem?_eq_none (by omega), Array.getElem?_replicate]
          split <;> rfl
      rw [e]; exact this
    · have := hnt as p r hct
      simp; omega
  refine wp_mono (hrun ok henv hmix w F _ w hgam) ?_
  have fin : ∀ τ a w', Gam w F fn.ntmps τ a w' → finR ti fn.results.toList r τ → a.defers = [] ∧ ∃ v, (results fn a.tmps).run P w' = .ok v w' ∧ ∃ F' u, F.le F' ∧ (∀ b, b < w.heap.size → F' b = F b) ∧ (∀ b o, F' b = some o → w'.heap[b]? = some o) ∧ Below w.heap.size w w' ∧ (Ending.returned v) = .returned u ∧ RV F' (fun _ => none) r u := by
    intro τ a w' hg hfin
    obtain ⟨F1, G, hm, hs, hsz, hdf⟩ := hg
    refine ⟨hdf, ?_⟩
    unfold finR at hfin
    split at hfin
    · rename_i rs hrs
      split at hfin
      · rename_i as2 ws hpub
        obtain ⟨vs, h1, hl, h2⟩ := resAs_ok (m := lkM τ.mem) ok hm hs hrs
        obtain ⟨F2, h3, h4, h5⟩ := pubs_ok hpub hm ⟨hl, h2⟩
        refine ⟨_, ?_, F2, _, hm.le0.trans h3, h4.old, h4.fit, hm.below, rfl, resLe_ok hfin h5⟩
        have : (results fn a.tmps).run P w' = .ok (if h : vs.toArray.size = 1 then vs.toArray[0] else .tuple vs.toArray) w' := by
          rw [results_eq]
          simp only [Array.mapM_eq_mapM_toList, Sem.run_bind, Sem.run_map, h1, Result.andThen_ok]
          rfl
        exact this
      · exact hfin.elim
    · exact hfin.elim
  intro e a w' ho
  cases e with
  | normal => obtain ⟨τ, h1, h2⟩ := ho; exact fin τ a w' h1 h2
  | ret => obtain ⟨τ, h1, h2⟩ := ho; exact fin τ a w' h1 h2
  | exit id => obtain ⟨τ, h1, h2⟩ := ho; exact h2.elim
  | goto l => obtain ⟨τ, h1, h2⟩ := ho; exact h2.elim
  | panic ch => exact ho.elim
  | outgrown => exact ho.elim
end
end Go.AE
