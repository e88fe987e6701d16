/- By hand: add, sub and cmp of words. -/
import Derived.Test.YtaeicclhopehaaaH2
namespace Go.AE
open Go.Proofs Go.RowKit
set_option linter.unusedVariables false
set_option linter.unusedSimpArgs false
attribute [local go_sem] Oper.semAt_some

/-- What the carrier holds when the values f k have been put. -/
def cr (f : Nat → Int) : List Int × Int → List Nat → List Int × Int
  | s, [] => s
  | s, k :: r => cr f (s.1 ++ [(f k + s.2) % 4294967296], (f k + s.2) / 4294967296) r
theorem cr_snoc (f : Nat → Int) (s : List Int × Int) (pre : List Nat) (k : Nat) : cr f s (pre ++ [k]) = ((cr f s pre).1 ++ [(f k + (cr f s pre).2) % 4294967296], (f k + (cr f s pre).2) / 4294967296) := by
  induction pre generalizing s with
  | nil => rfl
  | cons p r ih => exact ih _
theorem cr_length (f : Nat → Int) (s : List Int × Int) (pre : List Nat) : (cr f s pre).1.length = s.1.length + pre.length := by
  induction pre generalizing s with
  | nil => rfl
  | cons p r ih => simp only [cr, ih, List.length_append, List.length_cons, List.length_nil]; omega
theorem cr_carry {f : Nat → Int} (hf : ∀ k, 0 ≤ f k ∧ f k ≤ 8589934590) {s : List Int × Int} (hs : 0 ≤ s.2 ∧ s.2 ≤ 1) (pre : List Nat) : 0 ≤ (cr f s pre).2 ∧ (cr f s pre).2 ≤ 1 := by
  induction pre generalizing s with
  | nil => exact hs
  | cons p r ih => have := hf p; exact ih (by simp only; omega)
theorem cr_okW {f : Nat → Int} {s : List Int × Int} (hs : okW s.1) (pre : List Nat) : okW (cr f s pre).1 := by
  induction pre generalizing s with
  | nil => exact hs
  | cons p r ih => exact ih (okW_append hs (by intro x hx; simp at hx; omega))
/-- The sum that was put. -/
def fs (f : Nat → Int) : List Nat → Int
  | [] => 0
  | k :: r => f k + 4294967296 * fs f r
theorem cr_value (f : Nat → Int) (s : List Int × Int) (pre : List Nat) : wv (cr f s pre).1 + 4294967296 ^ (s.1.length + pre.length) * (cr f s pre).2 = wv s.1 + 4294967296 ^ s.1.length * (s.2 + fs f pre) := by
  induction pre generalizing s with
  | nil => simp [cr, fs]
  | cons p r ih =>
    have h := ih (s.1 ++ [(f p + s.2) % 4294967296], (f p + s.2) / 4294967296)
    simp only [cr, fs, List.length_append, List.length_cons, List.length_nil] at h ⊢
    rw [show s.1.length + (r.length + 1) = s.1.length + (0 + 1) + r.length by omega, h, wv_append]
    simp only [wv, Nat.zero_add, Int.pow_succ]
    have := Int.mul_ediv_add_emod (f p + s.2) 4294967296
    generalize (f p + s.2) / 4294967296 = q at *
    generalize (f p + s.2) % 4294967296 = t at *
    grind

theorem boxed_own {β : Type} (B : Nat) (t : TypeId) (v : β → Value) : Own (fun s W => Boxed W B t (v s)) := by
  intro s X Y row h hg hr
  refine h.kept hg (fun e => ?_)
  obtain ⟨o, ho, hc⟩ := hr B e.symm
  rw [show X.heap[B]? = _ from h] at ho; cases ho; cases hc
theorem CS_own (n₀ bo bc : Nat) (f : Nat → Int) (s : List Int × Int) : Own (fun pre W => CS n₀ bo bc (cr f s pre).1 (cr f s pre).2 W) := by
  intro pre X Y row h hg hr
  obtain ⟨v, h1, h2, h3⟩ := h
  obtain ⟨v', h1', h3', e⟩ := holdsRow_own n₀ bo 29 72 1 (fun pre => (cr f s pre).1.length) (fun pre => (cr f s pre).1.map (Value.int .u32)) (fun _ u => u = v) pre X Y row ⟨v, h1, h3, rfl⟩ hg hr
  subst e
  exact ⟨v', h1', boxed_own (β := Unit) bc 136 (fun _ => .int .u64 (cr f s pre).2) () X Y row h2 hg hr, h3'⟩
theorem RD_own (F : Fz) (ba bb : Nat) (va vb : Value) : Own (fun (_ : List Nat) W => RD F ba bb va vb W ∧ ∀ x o, F x = some o → o.isCells = true) := by
  intro s X Y row h hg hr
  refine ⟨⟨boxed_own (β := Unit) ba 29 (fun _ => va) () X Y row h.1.a hg hr, boxed_own (β := Unit) bb 29 (fun _ => vb) () X Y row h.1.b hg hr, fun x o e => ?_⟩, h.2⟩
  exact (grownBy_keeps_cells hg hr (h.1.f x o e) (h.2 x o e)).trans (h.1.f x o e)
end Go.AE
