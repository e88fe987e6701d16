/- Plain laws of curves: what the contracts' numbers are. -/
import Derived.Test.YtaeicclhopehaaaM1
namespace Go.AE
set_option linter.unusedVariables false
set_option linter.unusedSimpArgs false

theorem okS_pos {l : List Stp} (h : okS l) : ∀ s ∈ l, 0 < s.1 := fun s hs => by
  have := h s hs
  unfold badS at this
  omega
theorem curve_of {l : List Stp} (h : offK l = 0 ∨ bidK l = 0) : curveK l = 0 := by
  unfold curveK
  split
  · rfl
  · rcases h with h | h
    · exact h
    · contradiction
theorem of_curve {l : List Stp} (h : curveK l = 0) : offK l = 0 ∨ bidK l = 0 := by
  unfold curveK at h
  split at h
  · exact .inr (by assumption)
  · exact .inl h
theorem costK_R {l : List Stp} {q : Rat} (hc : curveK l = 0) (h0 : 0 ≤ q) (h1 : q ≤ (sumL l : Rat)) : allE l q = 0 ∧ costK l q = costR l q := by
  have e : allE l q = 0 := by
    have hs : sumK l = sumL l := by rw [sumK, if_pos hc]
    rw [allE, if_neg (by simp [hc]), if_neg]
    rw [hs]
    rintro (h | h) <;> grind
  exact ⟨e, by rw [costK, if_pos e, costAt_R]⟩
theorem costK_R' {l : List Stp} {q : Rat} (e : allE l q = 0) : curveK l = 0 ∧ 0 ≤ q ∧ q ≤ (sumL l : Rat) ∧ costK l q = costR l q := by
  obtain ⟨h1, h2, h3⟩ := allE_ok e
  have hs : sumK l = sumL l := by rw [sumK, if_pos h1]
  exact ⟨h1, h2, by rw [← hs]; exact h3, by rw [costK, if_pos e, costAt_R]⟩
theorem off_incr {l : List Stp} (h : offK l = 0) : okS l ∧ incr l := by
  obtain ⟨_, _, h3, h4⟩ := checkK_ok h
  exact ⟨h3, (incr_of h4).1⟩
theorem bid_decr {l : List Stp} (h : bidK l = 0) : okS l ∧ decr l := by
  obtain ⟨_, _, h3, h4⟩ := checkK_ok h
  exact ⟨h3, (decr_of h4).1⟩
theorem mono_facts {l : List Stp} {p q : Rat} (hpq : p ≤ q) : supL l p ≤ supL l q ∧ supM l p ≤ supM l q ∧ demL l q ≤ demL l p ∧ demM l q ≤ demM l p ∧
    (p < q → offK l = 0 → supM l p ≤ supL l q) ∧ (p < q → bidK l = 0 → demM l q ≤ demL l p) := by
  have ho : supL l p ≤ supL l q ∧ supM l p ≤ supM l q ∧ (p < q → offK l = 0 → supM l p ≤ supL l q) := by
    unfold supL supM
    by_cases h : offK l = 0
    · simp only [if_pos h, wantL_one, wantM_one]
      have := wants_mono (okS_pos (off_incr h).1) hpq
      exact ⟨this.1, this.2.1, fun hlt _ => this.2.2 hlt⟩
    · simp only [if_neg h]
      exact ⟨Int.le_refl _, Int.le_refl _, fun _ h' => absurd h' h⟩
  have hb : demL l q ≤ demL l p ∧ demM l q ≤ demM l p ∧ (p < q → bidK l = 0 → demM l q ≤ demL l p) := by
    unfold demL demM
    by_cases h : bidK l = 0
    · simp only [if_pos h, wantL_neg, wantM_neg]
      have := wants_mono (pos_ng (okS_pos (bid_decr h).1)) (p := -q) (q := -p) (by grind)
      exact ⟨this.1, this.2.1, fun hlt _ => this.2.2 (by grind)⟩
    · simp only [if_neg h]
      exact ⟨Int.le_refl _, Int.le_refl _, fun _ h' => absurd h' h⟩
  exact ⟨ho.1, ho.2.1, hb.1, hb.2.1, ho.2.2, hb.2.2⟩
/-- The best quantities of an offer, and of a bid. -/
theorem opt_off {l : List Stp} (h : offK l = 0) (p : Rat) : 0 ≤ supL l p ∧ supL l p ≤ supM l p ∧ supM l p ≤ sumL l ∧
    ∀ {q : Rat}, 0 ≤ q → q ≤ (sumL l : Rat) → p * q - costR l q ≤ bestG l p ∧ (p * q - costR l q = bestG l p ↔ (supL l p : Rat) ≤ q ∧ q ≤ (supM l p : Rat)) := by
  obtain ⟨hok, hi⟩ := off_incr h
  have hp := okS_pos hok
  have hb := wants_bounds hp p
  unfold supL supM
  simp only [if_pos h, wantL_one, wantM_one]
  exact ⟨hb.1, hb.2.1, hb.2.2, fun h0 h1 => gain_best hp hi p h0 h1⟩
theorem opt_bid {l : List Stp} (h : bidK l = 0) (p : Rat) : 0 ≤ demL l p ∧ demL l p ≤ demM l p ∧ demM l p ≤ sumL l ∧
    ∀ {q : Rat}, 0 ≤ q → q ≤ (sumL l : Rat) → -(p * q - costR l q) ≤ bestG (ngL l) (-p) ∧ (-(p * q - costR l q) = bestG (ngL l) (-p) ↔ (demL l p : Rat) ≤ q ∧ q ≤ (demM l p : Rat)) := by
  obtain ⟨hok, hd⟩ := bid_decr h
  have hp := pos_ng (okS_pos hok)
  have hb := wants_bounds hp (-p)
  rw [sumL_ng] at hb
  unfold demL demM
  simp only [if_pos h, wantL_neg, wantM_neg]
  refine ⟨hb.1, hb.2.1, hb.2.2, fun {q} h0 h1 => ?_⟩
  have := gain_best hp (incr_ng hd) (-p) h0 (by rw [sumL_ng]; exact h1)
  rw [costR_ng] at this
  have e : -p * q - -costR l q = -(p * q - costR l q) := by grind
  rw [e] at this
  exact this
/-- A rational between 0 and the whole: some price has it between its bounds. -/
theorem price_at {l : List Stp} (hp : ∀ s ∈ l, 0 < s.1) (hi : incr l) (hne : l ≠ []) : ∀ {q : Rat}, 0 ≤ q → q ≤ (sumL l : Rat) → ∃ p : Rat, (wL l p : Rat) ≤ q ∧ q ≤ (wM l p : Rat) ∧ ∃ s ∈ l, p = (s.2 : Rat) := by
  induction l with
  | nil => exact absurd rfl hne
  | cons s r ih =>
    intro q h0 h1
    have hr := fun t ht => hp t (List.mem_cons_of_mem _ ht)
    have hz : ((0 : Int) : Rat) = 0 := rfl
    by_cases hq : q ≤ (s.1 : Rat)
    · refine ⟨(s.2 : Rat), ?_, ?_, s, by simp, rfl⟩
      · have hw : wL (s :: r) (s.2 : Rat) = 0 := by
          rw [wL_cons, if_neg (by grind), (bestG_high (p := (s.2 : Rat)) (fun t ht => by have := rcast_lt.2 (hi.1 t ht); grind)).2]; rfl
        rw [hw, hz]; exact h0
      · rw [wM_cons, if_pos (by grind), Rat.intCast_add]
        have := rcast_le.2 (Int.le_trans (wants_bounds hr (s.2 : Rat)).1 (wants_bounds hr (s.2 : Rat)).2.1)
        grind
    · have hrne : r ≠ [] := by
        rintro rfl
        simp [sumL] at h1
        exact hq h1
      rw [sumL_cons, Rat.intCast_add] at h1
      obtain ⟨p, h2, h3, t, ht, rfl⟩ := ih hr hi.2 hrne (q := q - (s.1 : Rat)) (by grind) (by grind)
      have hst := rcast_lt.2 (hi.1 t ht)
      refine ⟨(t.2 : Rat), ?_, ?_, t, List.mem_cons_of_mem _ ht, rfl⟩
      · rw [wL_cons, if_pos hst, Rat.intCast_add]; grind
      · rw [wM_cons, if_pos (by grind), Rat.intCast_add]; grind
/-- The cost of the mean is at most the mean of the costs. -/
theorem convex {l : List Stp} (hp : ∀ s ∈ l, 0 < s.1) (hi : incr l) (hne : l ≠ []) {a b m : Rat} (ha0 : 0 ≤ a) (ha1 : a ≤ (sumL l : Rat)) (hb0 : 0 ≤ b) (hb1 : b ≤ (sumL l : Rat)) (hm : 2 * m = a + b) :
    2 * costR l m ≤ costR l a + costR l b := by
  obtain ⟨p, h1, h2, _⟩ := price_at hp hi hne (q := m) (by grind) (by grind)
  have ea := (gain_best hp hi p ha0 ha1).1
  have eb := (gain_best hp hi p hb0 hb1).1
  have em := (gain_best hp hi p (q := m) (by grind) (by grind)).2.2 ⟨h1, h2⟩
  have : p * (2 * m) = p * (a + b) := by rw [hm]
  grind
end Go.AE
