/- Plain laws of curves: costs, what is wanted, and the best quantities. -/
import Derived.Test.YtaeicclhopehaaaC9
namespace Go.AE
set_option linter.unusedVariables false
set_option linter.unusedSimpArgs false

/-- Prices that rise. -/
def incr : List Stp → Prop
  | [] => True
  | s :: r => (∀ t ∈ r, s.2 < t.2) ∧ incr r
def decr : List Stp → Prop
  | [] => True
  | s :: r => (∀ t ∈ r, t.2 < s.2) ∧ decr r
theorem incr_of {l : List Stp} : ∀ {p : Option Int}, wrongF (fun a p => decide (p > a)) p l = 0 → incr l ∧ ∀ q, p = some q → ∀ t ∈ l, q < t.2 := by
  induction l with
  | nil => intro p _; exact ⟨trivial, fun q _ t ht => by cases ht⟩
  | cons s r ih =>
    intro p h
    have hr : wrongF (fun a p => decide (p > a)) (some s.2) r = 0 ∧ ∀ q, p = some q → q < s.2 := by
      cases p with
      | none =>
        simp only [wrongF] at h
        split at h
        · cases h
        · exact ⟨h, fun q hq => by cases hq⟩
      | some p =>
        simp only [wrongF] at h
        split at h
        · cases h
        · split at h
          · rename_i hp
            simp only [gt_iff_lt, decide_eq_true_eq] at hp
            exact ⟨h, fun q hq => by cases hq; exact hp⟩
          · cases h
    obtain ⟨h1, h2⟩ := ih hr.1
    refine ⟨⟨h2 _ rfl, h1⟩, fun q hq t ht => ?_⟩
    have := hr.2 q hq
    rcases List.mem_cons.1 ht with rfl | ht
    · exact this
    · have := h2 _ rfl t ht; omega
theorem decr_of {l : List Stp} : ∀ {p : Option Int}, wrongF (fun a p => decide (p < a)) p l = 0 → decr l ∧ ∀ q, p = some q → ∀ t ∈ l, t.2 < q := by
  induction l with
  | nil => intro p _; exact ⟨trivial, fun q _ t ht => by cases ht⟩
  | cons s r ih =>
    intro p h
    have hr : wrongF (fun a p => decide (p < a)) (some s.2) r = 0 ∧ ∀ q, p = some q → s.2 < q := by
      cases p with
      | none =>
        simp only [wrongF] at h
        split at h
        · cases h
        · exact ⟨h, fun q hq => by cases hq⟩
      | some p =>
        simp only [wrongF] at h
        split at h
        · cases h
        · split at h
          · rename_i hp
            simp only [decide_eq_true_eq] at hp
            exact ⟨h, fun q hq => by cases hq; exact hp⟩
          · cases h
    obtain ⟨h1, h2⟩ := ih hr.1
    refine ⟨⟨h2 _ rfl, h1⟩, fun q hq t ht => ?_⟩
    have := hr.2 q hq
    rcases List.mem_cons.1 ht with rfl | ht
    · exact this
    · have := h2 _ rfl t ht; omega

/-- The cost of q, by the list. -/
def costR : List Stp → Rat → Rat
  | [], _ => 0
  | s :: r, q => minQ q (s.1 : Rat) * (s.2 : Rat) + costR r (q - minQ q (s.1 : Rat))
theorem qAt_succ (s : Stp) (r : List Stp) (q : Rat) (i : Nat) : qAt (s :: r) q (i + 1) = qAt r (q - minQ q (s.1 : Rat)) i := by
  induction i with
  | zero => simp [qAt]
  | succ i ih => rw [qAt, ih, qAt]; simp [List.getD_cons_succ]
theorem outAt_succ (s : Stp) (r : List Stp) (q : Rat) (i : Nat) : outAt (s :: r) q (i + 1) = outAt r (q - minQ q (s.1 : Rat)) i := by
  unfold outAt; rw [qAt_succ]; simp [List.getD_cons_succ]
theorem costAt_succ (s : Stp) (r : List Stp) (q : Rat) (i : Nat) : costAt (s :: r) q (i + 1) = minQ q (s.1 : Rat) * (s.2 : Rat) + costAt r (q - minQ q (s.1 : Rat)) i := by
  induction i with
  | zero => simp [costAt, outAt, qAt]; grind
  | succ i ih => rw [costAt, ih, outAt_succ, costAt]; simp [List.getD_cons_succ]; grind
theorem costAt_R (l : List Stp) (q : Rat) : costAt l q l.length = costR l q := by
  induction l generalizing q with
  | nil => rfl
  | cons s r ih => rw [List.length_cons, costAt_succ, ih]; rfl
theorem minQ_cases (x y : Rat) : (x ≤ y ∧ minQ x y = x) ∨ (y < x ∧ minQ x y = y) := by
  unfold minQ
  split
  · exact .inl ⟨by assumption, rfl⟩
  · exact .inr ⟨by grind, rfl⟩
theorem sumL_cons (s : Stp) (r : List Stp) : sumL (s :: r) = s.1 + sumL r := by simp [sumL]
theorem sumL_nonneg {l : List Stp} (h : ∀ s ∈ l, 0 < s.1) : 0 ≤ sumL l := by
  induction l with
  | nil => simp [sumL]
  | cons s r ih =>
    have := ih (fun t ht => h t (by simp [ht]))
    have := h s (by simp)
    rw [sumL_cons]; omega
theorem costR_zero {l : List Stp} (h : ∀ s ∈ l, 0 < s.1) : costR l 0 = 0 := by
  induction l with
  | nil => rfl
  | cons s r ih =>
    have h1 := h s (by simp)
    have h2 : (0 : Rat) ≤ (s.1 : Rat) := by exact_mod_cast (by omega : (0 : Int) ≤ s.1)
    have e : minQ 0 (s.1 : Rat) = 0 := by unfold minQ; rw [if_pos h2]
    rw [costR, e, Rat.sub_self, ih (fun t ht => h t (by simp [ht]))]
    grind
theorem costR_sum {l : List Stp} (h : ∀ s ∈ l, 0 < s.1) : costR l (sumL l : Rat) = (((l.map fun s => s.1 * s.2).sum : Int) : Rat) := by
  induction l with
  | nil => rfl
  | cons s r ih =>
    have hr := fun t ht => h t (List.mem_cons_of_mem _ ht)
    have h1 := sumL_nonneg hr
    have h2 : (s.1 : Rat) ≤ ((sumL (s :: r) : Int) : Rat) := by rw [sumL_cons]; exact_mod_cast (by omega : s.1 ≤ s.1 + sumL r)
    have e : minQ ((sumL (s :: r) : Int) : Rat) (s.1 : Rat) = (s.1 : Rat) := by
      rcases minQ_cases ((sumL (s :: r) : Int) : Rat) (s.1 : Rat) with ⟨a, b⟩ | ⟨a, b⟩
      · rw [b]; grind
      · exact b
    rw [costR, e, show ((sumL (s :: r) : Int) : Rat) - (s.1 : Rat) = (sumL r : Rat) by rw [sumL_cons, Rat.intCast_add]; grind, ih hr]
    simp only [List.map_cons, List.sum_cons, Rat.intCast_add, Rat.intCast_mul]
/-- What is wanted, with the comparison as such. -/
def wL (l : List Stp) (p : Rat) : Int := (l.map fun s => if (s.2 : Rat) < p then s.1 else 0).sum
def wM (l : List Stp) (p : Rat) : Int := (l.map fun s => if (s.2 : Rat) ≤ p then s.1 else 0).sum
theorem wL_cons (s : Stp) (r : List Stp) (p : Rat) : wL (s :: r) p = (if (s.2 : Rat) < p then s.1 else 0) + wL r p := by simp [wL]
theorem wM_cons (s : Stp) (r : List Stp) (p : Rat) : wM (s :: r) p = (if (s.2 : Rat) ≤ p then s.1 else 0) + wM r p := by simp [wM]
theorem wantL_one (l : List Stp) (p : Rat) : wantL l p 1 = wL l p := by
  unfold wantL wL
  congr 1
  exact List.map_congr_left fun s _ => by simp only [Int.one_mul, cmpQ_lt]
theorem wantM_one (l : List Stp) (p : Rat) : wantM l p 1 = wM l p := by
  unfold wantM wM
  congr 1
  exact List.map_congr_left fun s _ => by simp only [Int.one_mul, cmpQ_le]
/-- A curve with its prices negated. -/
def ngL (l : List Stp) : List Stp := l.map fun s => (s.1, -s.2)
theorem wantL_neg (l : List Stp) (p : Rat) : wantL l p (-1) = wL (ngL l) (-p) := by
  unfold wantL wL ngL
  rw [List.map_map]
  congr 1
  refine List.map_congr_left fun s _ => ?_
  change (if (-1) * cmpQ (s.2 : Rat) p < 0 then s.1 else 0) = (if ((-s.2 : Int) : Rat) < -p then s.1 else 0)
  have e : ((-1) * cmpQ (s.2 : Rat) p < 0) ↔ (((-s.2 : Int) : Rat) < -p) := by
    rw [Rat.intCast_neg]
    unfold cmpQ; split <;> (try split) <;> grind
  by_cases h : ((-s.2 : Int) : Rat) < -p
  · rw [if_pos (e.2 h), if_pos h]
  · rw [if_neg (fun g => h (e.1 g)), if_neg h]
theorem wantM_neg (l : List Stp) (p : Rat) : wantM l p (-1) = wM (ngL l) (-p) := by
  unfold wantM wM ngL
  rw [List.map_map]
  congr 1
  refine List.map_congr_left fun s _ => ?_
  change (if (-1) * cmpQ (s.2 : Rat) p ≤ 0 then s.1 else 0) = (if ((-s.2 : Int) : Rat) ≤ -p then s.1 else 0)
  have e : ((-1) * cmpQ (s.2 : Rat) p ≤ 0) ↔ (((-s.2 : Int) : Rat) ≤ -p) := by
    rw [Rat.intCast_neg]
    unfold cmpQ; split <;> (try split) <;> grind
  by_cases h : ((-s.2 : Int) : Rat) ≤ -p
  · rw [if_pos (e.2 h), if_pos h]
  · rw [if_neg (fun g => h (e.1 g)), if_neg h]
theorem costR_ng (l : List Stp) (q : Rat) : costR (ngL l) q = - costR l q := by
  induction l generalizing q with
  | nil => simp [ngL, costR]
  | cons s r ih =>
    have := ih (q - minQ q (s.1 : Rat))
    simp only [ngL, List.map_cons, costR, Rat.intCast_neg] at this ⊢
    rw [this]; grind
theorem sumL_ng (l : List Stp) : sumL (ngL l) = sumL l := by unfold sumL ngL; rw [List.map_map]; rfl
theorem incr_ng {l : List Stp} (h : decr l) : incr (ngL l) := by
  induction l with
  | nil => trivial
  | cons s r ih =>
    refine ⟨fun t ht => ?_, ih h.2⟩
    obtain ⟨u, hu, rfl⟩ := List.mem_map.1 ht
    have := h.1 u hu
    simp only; omega
theorem pos_ng {l : List Stp} (h : ∀ s ∈ l, 0 < s.1) : ∀ s ∈ ngL l, 0 < s.1 := fun t ht => by
  obtain ⟨u, hu, rfl⟩ := List.mem_map.1 ht
  exact h u hu

/-- What the best quantity gains. -/
def bestG : List Stp → Rat → Rat
  | [], _ => 0
  | s :: r, p => (if (s.2 : Rat) < p then (s.1 : Rat) * (p - (s.2 : Rat)) else 0) + bestG r p
theorem bestG_high {l : List Stp} {p : Rat} (h : ∀ t ∈ l, p ≤ (t.2 : Rat)) : bestG l p = 0 ∧ wL l p = 0 := by
  induction l with
  | nil => exact ⟨rfl, rfl⟩
  | cons s r ih =>
    obtain ⟨h1, h2⟩ := ih (fun t ht => h t (by simp [ht]))
    have hs := h s (by simp)
    have hn : ¬ ((s.2 : Rat) < p) := by grind
    rw [bestG, wL_cons, if_neg hn, if_neg hn, h1, h2]
    exact ⟨by grind, rfl⟩
theorem wM_high {l : List Stp} {p : Rat} (h : ∀ t ∈ l, p < (t.2 : Rat)) : wM l p = 0 := by
  induction l with
  | nil => rfl
  | cons s r ih =>
    have hs := h s (by simp)
    have hn : ¬ ((s.2 : Rat) ≤ p) := by grind
    rw [wM_cons, if_neg hn, ih (fun t ht => h t (by simp [ht]))]
    rfl
theorem wants_bounds {l : List Stp} (h : ∀ s ∈ l, 0 < s.1) (p : Rat) : 0 ≤ wL l p ∧ wL l p ≤ wM l p ∧ wM l p ≤ sumL l := by
  induction l with
  | nil => simp [wL, wM, sumL]
  | cons s r ih =>
    have := ih (fun t ht => h t (by simp [ht]))
    have h1 := h s (by simp)
    rw [wL_cons, wM_cons, sumL_cons]
    by_cases h2 : (s.2 : Rat) < p
    · rw [if_pos h2, if_pos (by grind)]; omega
    · rw [if_neg h2]
      split <;> omega
theorem wants_mono {l : List Stp} (h : ∀ s ∈ l, 0 < s.1) {p q : Rat} (hpq : p ≤ q) : wL l p ≤ wL l q ∧ wM l p ≤ wM l q ∧ (p < q → wM l p ≤ wL l q) := by
  induction l with
  | nil => simp [wL, wM]
  | cons s r ih =>
    obtain ⟨h1, h2, h3⟩ := ih (fun t ht => h t (by simp [ht]))
    have h4 := h s (by simp)
    rw [wL_cons, wM_cons, wL_cons, wM_cons]
    refine ⟨?_, ?_, fun hlt => ?_⟩
    · by_cases a : (s.2 : Rat) < p
      · rw [if_pos a, if_pos (by grind)]; omega
      · rw [if_neg a]; split <;> omega
    · by_cases a : (s.2 : Rat) ≤ p
      · rw [if_pos a, if_pos (by grind)]; omega
      · rw [if_neg a]; split <;> omega
    · have := h3 hlt
      by_cases a : (s.2 : Rat) ≤ p
      · rw [if_pos a, if_pos (by grind)]; omega
      · rw [if_neg a]; split <;> omega
theorem rmul_pos {a b : Rat} (ha : 0 < a) (hb : 0 < b) : 0 < a * b := Rat.mul_pos ha hb
theorem rmul_nonneg {a b : Rat} (ha : 0 ≤ a) (hb : 0 ≤ b) : 0 ≤ a * b := Rat.mul_nonneg ha hb
theorem rcast_le {a b : Int} : ((a : Rat) ≤ (b : Rat)) ↔ a ≤ b := Rat.intCast_le_intCast
theorem rcast_lt {a b : Int} : ((a : Rat) < (b : Rat)) ↔ a < b := Rat.intCast_lt_intCast
/-- No quantity gains more than the best; those between the bounds gain it, no others. -/
theorem gain_best {l : List Stp} (hp : ∀ s ∈ l, 0 < s.1) (hi : incr l) (p : Rat) : ∀ {q : Rat}, 0 ≤ q → q ≤ (sumL l : Rat) →
    p * q - costR l q ≤ bestG l p ∧ (p * q - costR l q = bestG l p ↔ (wL l p : Rat) ≤ q ∧ q ≤ (wM l p : Rat)) := by
  induction l with
  | nil =>
    intro q h0 h1
    have : q = 0 := by simp [sumL] at h1; grind
    subst this
    simp [costR, bestG, wL, wM]
    grind
  | cons s r ih =>
    intro q h0 h1
    have hn := hp s (by simp)
    have hr := fun t ht => hp t (List.mem_cons_of_mem _ ht)
    have hnQ : (0 : Rat) < (s.1 : Rat) := by exact_mod_cast rcast_lt.2 hn
    rw [sumL_cons, Rat.intCast_add] at h1
    have hs0 : (0 : Rat) ≤ (sumL r : Rat) := by exact_mod_cast rcast_le.2 (sumL_nonneg hr)
    have hq : 0 ≤ q - minQ q (s.1 : Rat) ∧ q - minQ q (s.1 : Rat) ≤ (sumL r : Rat) ∧ 0 ≤ minQ q (s.1 : Rat) := by
      rcases minQ_cases q (s.1 : Rat) with ⟨a, b⟩ | ⟨a, b⟩ <;> rw [b] <;> grind
    obtain ⟨h2, h3⟩ := ih hr hi.2 hq.1 hq.2.1
    obtain ⟨hb0, hb1, hb2⟩ := wants_bounds hr p
    have hb0Q : (0 : Rat) ≤ (wL r p : Rat) := by exact_mod_cast rcast_le.2 hb0
    have hb1Q : (wL r p : Rat) ≤ (wM r p : Rat) := by exact_mod_cast rcast_le.2 hb1
    have hgq : p * q - costR (s :: r) q = (p - (s.2 : Rat)) * minQ q (s.1 : Rat) + (p * (q - minQ q (s.1 : Rat)) - costR r (q - minQ q (s.1 : Rat))) := by
      rw [costR]; grind
    rw [hgq, bestG, wL_cons, wM_cons]
    generalize p * (q - minQ q (s.1 : Rat)) - costR r (q - minQ q (s.1 : Rat)) = g at *
    by_cases c1 : (s.2 : Rat) < p
    · rw [if_pos c1, if_pos c1, if_pos (by grind), Rat.intCast_add, Rat.intCast_add]
      rcases minQ_cases q (s.1 : Rat) with ⟨a, b⟩ | ⟨a, b⟩
      · rw [b] at h3 ⊢
        have h5 : 0 ≤ (p - (s.2 : Rat)) * ((s.1 : Rat) - q) := rmul_nonneg (by grind) (by grind)
        refine ⟨by grind, fun e => ?_, fun ⟨e1, e2⟩ => ?_⟩
        · have h6 : (p - (s.2 : Rat)) * ((s.1 : Rat) - q) = 0 := by grind
          have h7 : (s.1 : Rat) - q = 0 := by
            rcases Rat.mul_eq_zero.1 h6 with h | h <;> grind
          have := h3.1 (by grind)
          grind
        · have h7 : q = (s.1 : Rat) := by grind
          have := h3.2 (by grind)
          grind
      · rw [b] at h3 ⊢
        refine ⟨by grind, fun e => ?_, fun ⟨e1, e2⟩ => ?_⟩
        · have := h3.1 (by grind)
          grind
        · have := h3.2 (by grind)
          grind
    · have hhi : ∀ t ∈ r, p < (t.2 : Rat) := fun t ht => by
        have := rcast_lt.2 (hi.1 t ht); grind
      obtain ⟨e1, e2⟩ := bestG_high (p := p) (fun t ht => by have := hhi t ht; grind)
      have e3 := wM_high hhi
      rw [e1] at h2
      rw [e1, e2, e3] at h3
      rw [if_neg c1, if_neg c1, e1, e2, e3]
      have h5 : 0 ≤ ((s.2 : Rat) - p) * minQ q (s.1 : Rat) := rmul_nonneg (by grind) hq.2.2
      have z : ((0 : Int) : Rat) = 0 := rfl
      simp only [Int.zero_add, Int.add_zero, z] at h3 ⊢
      refine ⟨by grind, fun e => ?_, fun ⟨e4, e5⟩ => ?_⟩
      · have h6 : ((s.2 : Rat) - p) * minQ q (s.1 : Rat) = 0 := by grind
        have h7 := h3.1 (by grind)
        have h8 : q = minQ q (s.1 : Rat) := by grind
        refine ⟨h0, ?_⟩
        split
        · rcases minQ_cases q (s.1 : Rat) with ⟨a, b⟩ | ⟨a, b⟩ <;> grind
        · rcases Rat.mul_eq_zero.1 h6 with h | h <;> grind
      · split at e5
        · have h8 : minQ q (s.1 : Rat) = q := by
            rcases minQ_cases q (s.1 : Rat) with ⟨a, b⟩ | ⟨a, b⟩ <;> grind
          rw [h8] at h3 ⊢
          have := h3.2 (by grind)
          have hps : (s.2 : Rat) = p := by grind
          rw [hps]
          grind
        · have h8 : q = 0 := by grind
          subst h8
          have h9 : minQ 0 (s.1 : Rat) = 0 := by
            rcases minQ_cases 0 (s.1 : Rat) with ⟨a, b⟩ | ⟨a, b⟩ <;> grind
          rw [h9] at h3 ⊢
          have := h3.2 (by grind)
          grind
end Go.AE
