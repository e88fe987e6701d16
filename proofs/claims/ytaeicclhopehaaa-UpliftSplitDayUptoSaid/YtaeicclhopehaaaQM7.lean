/- Plain laws of days: a day's cost parted in two. -/
import Derived.Test.YtaeicclhopehaaaGm
namespace Go.AE
open Go.Proofs Go.RowKit
set_option linter.unusedVariables false
set_option linter.unusedSimpArgs false

def onV (u : U) (o : Int) : U := ⟨u.bus, u.min, u.steps, u.up, u.down, u.start, u.idle, u.spin, o⟩
theorem mayU_on {u : U} (h : mayU u) {o : Int} (h1 : -6 ≤ o) (h2 : o ≤ 6) (h0 : o ≠ 0) : mayU (onV u o) := by
  unfold mayU checkU at h ⊢
  split at h
  · cases h
  · rename_i c1
    rw [if_neg (by exact c1)]
    split at h
    · rename_i c2; exact absurd h c2
    · rename_i c2
      rw [if_neg (by exact c2)]
      split at h
      · rename_i c3
        unfold okU at c3
        obtain ⟨d1, d2, d3, d4, d5, d6, d7, d8⟩ := c3
        rw [if_pos (show okU (onV u o) from ⟨d1, d2, d3, d4, ⟨h1, h2⟩, h0, d7, d8⟩)]
      · cases h
theorem each_app {u : U} : ∀ {r1 : List Bool} {g1 : List QV} {r2 : List Bool} {g2 : List QV}, r1.length = g1.length → eachE u (r1 ++ r2) (g1 ++ g2) = if eachE u r1 g1 = 0 then eachE u r2 g2 else eachE u r1 g1 := by
  intro r1
  induction r1 with
  | nil => intro g1 r2 g2 h; cases g1 <;> simp [eachE] at h ⊢
  | cons a r ih =>
    intro g1 r2 g2 h
    cases g1 with
    | nil => simp at h
    | cons g gs =>
      simp only [List.cons_append, eachE, ih (show r.length = gs.length by simpa using h)]
      by_cases hc : hourE u a g.x = 0
      · simp only [hc, ↓reduceIte]
      · simp only [hc, ↓reduceIte]
theorem eachQ_app {u : U} : ∀ {r1 : List Bool} {g1 : List QV} {r2 : List Bool} {g2 : List QV} {q : Rat}, r1.length = g1.length → eachE u r1 g1 = 0 → eachQ u q (r1 ++ r2) (g1 ++ g2) = eachQ u (eachQ u q r1 g1) r2 g2 := by
  intro r1
  induction r1 with
  | nil => intro g1 r2 g2 q h h0; cases g1 <;> simp [eachQ] at h ⊢
  | cons a r ih =>
    intro g1 r2 g2 q h h0
    cases g1 with
    | nil => simp at h
    | cons g gs =>
      simp only [eachE] at h0
      by_cases hc : hourE u a g.x = 0
      · rw [if_pos hc] at h0
        simp only [List.cons_append, eachQ, hc, ↓reduceIte]
        exact ih (by simpa using h) h0
      · rw [if_neg hc] at h0; exact absurd h0 hc
theorem eachQ_add {u : U} : ∀ {r : List Bool} {g : List QV} {q c : Rat}, eachQ u (q + c) r g = eachQ u q r g + c := by
  intro r
  induction r with
  | nil => intro g q c; cases g <;> rfl
  | cons a r ih =>
    intro g q c
    cases g with
    | nil => rfl
    | cons g gs =>
      simp only [eachQ]
      split
      · rw [show q + c + hourC u a g.x = q + hourC u a g.x + c by grind, ih]
      · grind
theorem eachE_on {u : U} {o : Int} : ∀ {r : List Bool} {g : List QV}, eachE (onV u o) r g = eachE u r g := by
  intro r
  induction r with
  | nil => intro g; cases g <;> rfl
  | cons a r ih =>
    intro g
    cases g with
    | nil => rfl
    | cons g gs =>
      simp only [eachE, ih]
      rfl
theorem eachQ_on {u : U} {o : Int} : ∀ {r : List Bool} {g : List QV} {q : Rat}, eachQ (onV u o) q r g = eachQ u q r g := by
  intro r
  induction r with
  | nil => intro g q; cases g <;> rfl
  | cons a r ih =>
    intro g q
    cases g with
    | nil => rfl
    | cons g gs =>
      simp only [eachQ, ih]
      rfl
theorem start_app : ∀ {p : List Bool} {w : Bool} {k : Nat}, 1 ≤ k → k ≤ p.length → startF w p = startF w (p.take k) + startF (p.getD (k - 1) false) (p.drop k) := by
  intro p
  induction p with
  | nil => intro w k h1 h2; simp at h2; omega
  | cons a r ih =>
    intro w k h1 h2
    obtain ⟨j, rfl⟩ : ∃ j, k = j + 1 := ⟨k - 1, by omega⟩
    cases j with
    | zero => simp [startF]
    | succ j =>
      have := ih (w := a) (k := j + 1) (by omega) (by simpa using h2)
      simp only [List.take_succ_cons, startF, List.drop_succ_cons, this, Nat.add_sub_cancel, List.getD_cons_succ]
      omega
theorem start_off {w : Bool} (k : Nat) : startF w (List.replicate k false) = 0 := by
  induction k generalizing w with
  | zero => rfl
  | succ k ih => simp [List.replicate_succ, startF, ih]
theorem each_off {u : U} (k : Nat) : eachE u (List.replicate k false) (List.replicate k zQ) = 0 ∧ ∀ q, eachQ u q (List.replicate k false) (List.replicate k zQ) = q := by
  induction k with
  | zero => exact ⟨rfl, fun q => rfl⟩
  | succ k ih =>
    have h : hourE u false zQ.x = 0 := rfl
    have hc : hourC u false zQ.x = 0 := rfl
    refine ⟨?_, fun q => ?_⟩
    · simp only [List.replicate_succ, eachE, h, ↓reduceIte, ih.1]
    · simp only [List.replicate_succ, eachQ, h, ↓reduceIte, ih.2, hc]
      grind
theorem upE_zero {u : U} {p r : List Bool} {g : List QV} (hm : mayU u) (h1 : p.length ≤ 8) (h2 : r.length = p.length) (h3 : g.length = p.length) (h4 : eachE u r g = 0) : upE u p r g = 0 ∧ upC u p r g = eachQ u ((startF (decide (u.on > 0)) p * u.start : Int) : Rat) r g := by
  have hw : upWrong u p r g = 0 := by
    rw [upWrong, if_neg (by simpa using hm), if_neg (by omega), if_neg (by omega)]
  have he : upE u p r g = 0 := by rw [upE, if_neg (by simpa using hw), h4]
  refine ⟨he, ?_⟩
  rw [upC, if_pos he, startU, if_pos hm]
theorem upE_ok {u : U} {p r : List Bool} {g : List QV} (h : upE u p r g = 0) : mayU u ∧ p.length ≤ 8 ∧ r.length = p.length ∧ g.length = p.length ∧ eachE u r g = 0 := by
  unfold upE at h
  split at h
  · rename_i hc; exact absurd h hc
  · rename_i hc
    obtain ⟨a, b, c, d⟩ := upWrong_ok (by simpa using hc)
    exact ⟨a, b, c, d, h⟩
theorem split_day {u : U} {p r : List Bool} {g : List QV} (h : upE u p r g = 0) {k : Nat} (h1 : 1 ≤ k) (h2 : k ≤ p.length) {o : Int} (ho : o = if p.getD (k - 1) false = true then 1 else -1) :
    upE u (p.take k) (r.take k) (g.take k) = 0 ∧ upE (onV u o) (p.drop k) (r.drop k) (g.drop k) = 0 ∧ upC u (p.take k) (r.take k) (g.take k) + upC (onV u o) (p.drop k) (r.drop k) (g.drop k) = upC u p r g ∧
    upE u (List.replicate k false) (List.replicate k false) (List.replicate k zQ) = 0 ∧ upC u (List.replicate k false) (List.replicate k false) (List.replicate k zQ) = 0 := by
  obtain ⟨hm, l1, l2, l3, h4⟩ := upE_ok h
  have hlt : (r.take k).length = (g.take k).length := by simp; omega
  have happ := each_app (u := u) (r2 := r.drop k) (g2 := g.drop k) hlt
  rw [List.take_append_drop, List.take_append_drop, h4] at happ
  have he1 : eachE u (r.take k) (g.take k) = 0 := by
    by_cases hz : eachE u (r.take k) (g.take k) = 0
    · exact hz
    · rw [if_neg hz] at happ; exact happ.symm
  rw [if_pos he1] at happ
  have hmv : mayU (onV u o) := mayU_on hm (by rw [ho]; split <;> decide) (by rw [ho]; split <;> decide) (by rw [ho]; split <;> decide)
  have hon : decide ((onV u o).on > 0) = p.getD (k - 1) false := by
    show decide (o > 0) = _
    rw [ho]
    cases p.getD (k - 1) false <;> rfl
  obtain ⟨a1, a2⟩ := upE_zero (p := p.take k) (r := r.take k) (g := g.take k) hm (by simp; omega) (by simp; omega) (by simp; omega) he1
  obtain ⟨b1, b2⟩ := upE_zero (p := p.drop k) (r := r.drop k) (g := g.drop k) hmv (by simp; omega) (by simp; omega) (by simp; omega) (by rw [eachE_on]; exact happ.symm)
  obtain ⟨c1, c2⟩ := upE_zero hm l1 l2 l3 h4
  obtain ⟨d1, d2⟩ := upE_zero (u := u) (p := List.replicate k false) (r := List.replicate k false) (g := List.replicate k zQ) hm (by simp; omega) (by simp) (by simp) (each_off k).1
  refine ⟨a1, b1, ?_, d1, ?_⟩
  · rw [a2, b2, c2, hon, eachQ_on, start_app (w := decide (u.on > 0)) h1 h2]
    have e : (onV u o).start = u.start := rfl
    rw [e, Int.add_mul, Rat.intCast_add]
    generalize ((startF (decide (u.on > 0)) (p.take k) * u.start : Int) : Rat) = A
    generalize ((startF (p.getD (k - 1) false) (p.drop k) * u.start : Int) : Rat) = B
    have hq := eachQ_app (u := u) (r2 := r.drop k) (g2 := g.drop k) (q := A + B) hlt he1
    rw [List.take_append_drop, List.take_append_drop] at hq
    rw [hq, eachQ_add, Rat.add_comm (eachQ u A (r.take k) (g.take k)) B, eachQ_add, Rat.add_comm]
  · rw [d2, start_off, Int.zero_mul, (each_off k).2]
    simp
end Go.AE
