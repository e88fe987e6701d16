/- Contracts: Long, of words as they stand and of rationals that are short; how arguments weaken. -/
import Derived.Test.YtaeicclhopehaaaGk
import Derived.Test.YtaeicclhopehaaaGj
import Derived.Test.YtaeicclhopehaaaQR0
namespace Go.AE
open Go.Proofs Go.RowKit
set_option linter.unusedVariables false
set_option linter.unusedSimpArgs false
set_option maxRecDepth 20000

abbrev xval (x : QX) : Rat := qval (zval x.n x.nw) (zval x.d x.dw)
/-- Rationals of at most n words. -/
def qL (n : Nat) (l : List QX) : List QV := l.map fun x => ⟨xval x, false, n⟩
theorem Rqx_q {F : Fz} {x : QX} {cs : List Value} {n : Nat} (h : Rqx F x cs) (h1 : x.nw.length ≤ n) (h2 : x.dw.length ≤ n) : RQ F (xval x) false n cs := by
  obtain ⟨v1, v2, rfl, h3, h4⟩ := h
  exact ⟨zval x.n x.nw, zval x.d x.dw, [_, _], [_, _], false, false, rfl, ⟨x.n, v1, x.nw, rfl, h3, h1, rfl, fun h => by cases h⟩, ⟨x.d, v2, x.dw, rfl, h4, h2, rfl, fun h => by cases h⟩, rfl, fun h => by cases h⟩
theorem qxs_q {F : Fz} {l : List QX} {v : Value} {n : Nat} (h : RVp F (.lst .qx l) v) (hn : ∀ x ∈ l, x.nw.length ≤ n ∧ x.dw.length ≤ n) : RVp F (.lst .q (qL n l)) v := by
  obtain ⟨u, e, A, c, rfl, h2, h3⟩ := (show ∃ u, [v] = [u] ∧ RL F 4 (Rqx F) l u from h)
  cases e
  have hl : (qL n l).length = l.length := by simp [qL]
  refine (show ∃ u, [_] = [u] ∧ RL F 4 (fun x cs => RQ F x.x x.c x.s cs) (qL n l) u from ⟨_, rfl, A, c, by rw [hl], by rw [hl]; exact h2, fun hne => ?_⟩)
  obtain ⟨b, off, C, T, fr, h4, h5, h6⟩ := h3 (by rintro rfl; exact hne rfl)
  refine ⟨b, off, C, T, fr, h4, h5, fun i hi => ?_⟩
  have hi2 : i < l.length := by rw [← hl]; exact hi
  obtain ⟨cs, h7, h8, h9⟩ := h6 i hi2
  obtain ⟨g1, g2⟩ := hn l[i] (List.getElem_mem _)
  refine ⟨cs, h7, ?_, h9⟩
  simp only [qL, List.getElem_map]
  exact Rqx_q h8 g1 g2
theorem any_long {l : List QX} (h : l.any longB = false) : ∀ x ∈ l, x.nw.length ≤ 6 ∧ x.dw.length ≤ 6 := by
  intro x hx
  have := List.any_eq_false.1 h x hx
  simp only [longB, decide_eq_true_eq] at this
  omega
/-- Words that stand behind rationals. -/
theorem q_qxs {F : Fz} {l : List QV} {v : Value} (h : RVp F (.lst .q l) v) : ∃ lx : List QX, lx.length = l.length ∧ RVp F (.lst .qx lx) v ∧ ∀ n, (∀ x ∈ l, x.s ≤ n) → ∀ x ∈ lx, x.nw.length ≤ n ∧ x.dw.length ≤ n := by
  obtain ⟨u, e, A, c, rfl, h2, h3⟩ := (show ∃ u, [v] = [u] ∧ RL F 4 (fun x cs => RQ F x.x x.c x.s cs) l u from h)
  cases e
  by_cases hne : l = []
  · subst hne
    exact ⟨[], rfl, (show ∃ u, [_] = [u] ∧ RL F 4 (Rqx F) [] u from ⟨_, rfl, A, c, rfl, h2, fun h => absurd rfl h⟩), fun n _ x hx => by cases hx⟩
  · obtain ⟨b, off, C, T, fr, h4, h5, h6⟩ := h3 hne
    obtain ⟨L, hL, hLs⟩ := list_choose (Q := fun i (x : QX) => ∃ hi : i < l.length, (∃ cs, cs.length = 4 ∧ Rqx F x cs ∧ ∀ k, k < 4 → C[off + i * 4 + k]? = cs[k]?) ∧ x.nw.length ≤ (l[i]).s ∧ x.dw.length ≤ (l[i]).s) l.length (by
      intro i hi
      obtain ⟨cs, h7, ⟨n, d, c1, c2, cn, cd, rfl, ⟨n1, v1, w1, rfl, a1, a2, _⟩, ⟨n2, v2, w2, rfl, b1, b2, _⟩, _⟩, h9⟩ := h6 i hi
      exact ⟨⟨n1, w1, n2, w2⟩, hi, ⟨_, h7, ⟨v1, v2, rfl, a1, b1⟩, h9⟩, a2, b2⟩)
    refine ⟨L, hL, (show ∃ u, [_] = [u] ∧ RL F 4 (Rqx F) L u from ⟨_, rfl, A, c, by rw [hL], by rw [hL]; exact h2, fun _ => ⟨b, off, C, T, fr, h4, h5, fun i hi => ?_⟩⟩), fun n hn x hx => ?_⟩
    · obtain ⟨_, ⟨cs, g1, g2, g3⟩, _⟩ := hLs i hi
      exact ⟨cs, g1, g2, g3⟩
    · obtain ⟨i, hi, rfl⟩ := List.mem_iff_getElem.1 hx
      obtain ⟨hi2, _, g1, g2⟩ := hLs i hi
      have := hn l[i] (List.getElem_mem _)
      omega
theorem any_short {l : List QX} (h : ∀ x ∈ l, x.nw.length ≤ 6 ∧ x.dw.length ≤ 6) : l.any longB = false := by
  rw [List.any_eq_false]
  intro x hx
  have := h x hx
  simp only [longB, decide_eq_true_eq]
  omega
def ctLong23u : Ct := fun l => match l with
  | [.lst .qx l] => some (l.length ≤ 9223372036854775807, vb (l.any longB))
  | [.lst .q l] => some (l.length ≤ 9223372036854775807 ∧ ∀ x ∈ l, x.s ≤ 6, vb false)
  | _ => none
theorem ok23u : Sound Try.prog 23 ctLong23u := by
  refine ⟨ok23.1, ?_⟩
  intro al p r h hp w F args hF hv
  unfold ctLong23u at h
  split at h <;> cases h
  · exact ok23.2 _ _ _ rfl hp w F args hF hv
  · rename_i l
    obtain ⟨v0, r0, rfl, a0, rfl⟩ := hv
    obtain ⟨lx, h1, h2, h3⟩ := q_qxs a0
    have := ok23.2 [.lst .qx lx] _ _ rfl (by rw [h1]; exact hp.1) w F [v0] hF ⟨_, _, rfl, h2, rfl⟩
    rw [any_short (h3 6 hp.2)] at this
    exact this
def ctLong27u : Ct := fun l => match l with
  | [a, .lst .qx l, .lst .bool r] => match uOf a with
    | some u => some (True, vb (long27 u l r))
    | none => none
  | [a, .lst .q l, .lst .bool r] => match uOf a with
    | some u => some (u.steps.length ≤ 100 ∧ r.length ≤ 100 ∧ l.length ≤ 30 ∧ ∀ x ∈ l, x.s ≤ 6, vb false)
    | none => none
  | _ => none
theorem ok36u : Sound Try.prog 36 ctLong27u := by
  refine ⟨ok36.1, ?_⟩
  intro al p r h hp w F args hF hv
  unfold ctLong27u at h
  split at h
  · split at h <;> cases h
    rename_i a l r _ u hu
    exact ok36.2 [a, .lst .qx l, .lst .bool r] True (vb (long27 u l r)) (by simp only [ctLong27, hu]) trivial w F args hF hv
  · split at h <;> cases h
    rename_i a l r _ u hu
    obtain ⟨v0, r0, rfl, a0, v1, r1, rfl, a1, hv⟩ := hv
    obtain ⟨lx, h1, h2, h3⟩ := q_qxs a1
    have := ok36.2 [a, .lst .qx lx, .lst .bool r] True (vb (long27 u lx r)) (by simp only [ctLong27, hu]) trivial w F _ hF ⟨_, _, rfl, a0, _, _, rfl, h2, hv⟩
    have e : long27 u lx r = false := by
      unfold long27
      rw [decide_eq_false (by omega), decide_eq_false (by rw [h1]; omega), any_short (h3 6 hp.2.2.2)]
      rfl
    rw [e] at this
    exact this
  · cases h
theorem long27_false {u : U} {l : List QX} {r : List Bool} (h : long27 u l r = false) : u.steps.length ≤ 100 ∧ r.length ≤ 100 ∧ l.length ≤ 30 ∧ ∀ x ∈ l, x.nw.length ≤ 6 ∧ x.dw.length ≤ 6 := by
  unfold long27 at h
  simp only [Bool.or_eq_false_iff, decide_eq_false_iff_not] at h
  exact ⟨by omega, by omega, by omega, any_long h.2.2⟩
end Go.AE
