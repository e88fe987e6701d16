/- Plain laws of curves: costs, what is wanted, and the best quantities. Plain laws of curves: what the contracts' numbers are. Contracts: the reference's integers and rationals, what the laws of curves need. Contracts: the helpers of the laws of curves. The chapter's examples hold: awake. -/
import Derived.Test.YtaeicclhopehaaaGreatGf
import Derived.Test.YtaeicclhopehaaaGreatGg
namespace Go.AE
set_option linter.unusedVariables false
set_option linter.unusedSimpArgs false

/-- Prices that rise. -/
def incr : List Stp → Prop
  | [] => True
  | s :: r => (∀ t ∈ r, s.2 < t.2) ∧ incr r
def decr : List Stp → Prop
  | [] => True
  | s :: r => (∀ t ∈ r, t.2 < s.2) ∧ decr r
theorem incr_of {l : List Stp} : ∀ {p : Option Int}, wrongF (fun a p => decide (p > a)) p l = 0 → incr l ∧ ∀ q, p = some q → ∀ t ∈ l, q < t.2 := by
  induction l with
  | nil => intro p _; exact ⟨trivial, fun q _ t ht => by cases ht⟩
  | cons s r ih =>
    intro p h
    have hr : wrongF (fun a p => decide (p > a)) (some s.2) r = 0 ∧ ∀ q, p = some q → q < s.2 := by
      cases p with
      | none =>
        simp only [wrongF] at h
        split at h
        · cases h
        · exact ⟨h, fun q hq => by cases hq⟩
      | some p =>
        simp only [wrongF] at h
        split at h
        · cases h
        · split at h
          · rename_i hp
            simp only [gt_iff_lt, decide_eq_true_eq] at hp
            exact ⟨h, fun q hq => by cases hq; exact hp⟩
          · cases h
    obtain ⟨h1, h2⟩ := ih hr.1
    refine ⟨⟨h2 _ rfl, h1⟩, fun q hq t ht => ?_⟩
    have := hr.2 q hq
    rcases List.mem_cons.1 ht with rfl | ht
    · exact this
    · have := h2 _ rfl t ht; omega
theorem decr_of {l : List Stp} : ∀ {p : Option Int}, wrongF (fun a p => decide (p < a)) p l = 0 → decr l ∧ ∀ q, p = some q → ∀ t ∈ l, t.2 < q := by
  induction l with
  | nil => intro p _; exact ⟨trivial, fun q _ t ht => by cases ht⟩
  | cons s r ih =>
    intro p h
    have hr : wrongF (fun a p => decide (p < a)) (some s.2) r = 0 ∧ ∀ q, p = some q → s.2 < q := by
      cases p with
      | none =>
        simp only [wrongF] at h
        split at h
        · cases h
        · exact ⟨h, fun q hq => by cases hq⟩
      | some p =>
        simp only [wrongF] at h
        split at h
        · cases h
        · split at h
          · rename_i hp
            simp only [decide_eq_true_eq] at hp
            exact ⟨h, fun q hq => by cases hq; exact hp⟩
          · cases h
    obtain ⟨h1, h2⟩ := ih hr.1
    refine ⟨⟨h2 _ rfl, h1⟩, fun q hq t ht => ?_⟩
    have := hr.2 q hq
    rcases List.mem_cons.1 ht with rfl | ht
    · exact this
    · have := h2 _ rfl t ht; omega

/-- The cost of q, by the list. -/
def costR : List Stp → Rat → Rat
  | [], _ => 0
  | s :: r, q => minQ q (s.1 : Rat) * (s.2 : Rat) + costR r (q - minQ q (s.1 : Rat))
theorem qAt_succ (s : Stp) (r : List Stp) (q : Rat) (i : Nat) : qAt (s :: r) q (i + 1) = qAt r (q - minQ q (s.1 : Rat)) i := by
  induction i with
  | zero => simp [qAt]
  | succ i ih => rw [qAt, ih, qAt]; simp [List.getD_cons_succ]
theorem outAt_succ (s : Stp) (r : List Stp) (q : Rat) (i : Nat) : outAt (s :: r) q (i + 1) = outAt r (q - minQ q (s.1 : Rat)) i := by
  unfold outAt; rw [qAt_succ]; simp [List.getD_cons_succ]
theorem costAt_succ (s : Stp) (r : List Stp) (q : Rat) (i : Nat) : costAt (s :: r) q (i + 1) = minQ q (s.1 : Rat) * (s.2 : Rat) + costAt r (q - minQ q (s.1 : Rat)) i := by
  induction i with
  | zero => simp [costAt, outAt, qAt]; grind
  | succ i ih => rw [costAt, ih, outAt_succ, costAt]; simp [List.getD_cons_succ]; grind
theorem costAt_R (l : List Stp) (q : Rat) : costAt l q l.length = costR l q := by
  induction l generalizing q with
  | nil => rfl
  | cons s r ih => rw [List.length_cons, costAt_succ, ih]; rfl
theorem minQ_cases (x y : Rat) : (x ≤ y ∧ minQ x y = x) ∨ (y < x ∧ minQ x y = y) := by
  unfold minQ
  split
  · exact .inl ⟨by assumption, rfl⟩
  · exact .inr ⟨by grind, rfl⟩
theorem sumL_cons (s : Stp) (r : List Stp) : sumL (s :: r) = s.1 + sumL r := by simp [sumL]
theorem sumL_nonneg {l : List Stp} (h : ∀ s ∈ l, 0 < s.1) : 0 ≤ sumL l := by
  induction l with
  | nil => simp [sumL]
  | cons s r ih =>
    have := ih (fun t ht => h t (by simp [ht]))
    have := h s (by simp)
    rw [sumL_cons]; omega
theorem costR_zero {l : List Stp} (h : ∀ s ∈ l, 0 < s.1) : costR l 0 = 0 := by
  induction l with
  | nil => rfl
  | cons s r ih =>
    have h1 := h s (by simp)
    have h2 : (0 : Rat) ≤ (s.1 : Rat) := by exact_mod_cast (by omega : (0 : Int) ≤ s.1)
    have e : minQ 0 (s.1 : Rat) = 0 := by unfold minQ; rw [if_pos h2]
    rw [costR, e, Rat.sub_self, ih (fun t ht => h t (by simp [ht]))]
    grind
theorem costR_sum {l : List Stp} (h : ∀ s ∈ l, 0 < s.1) : costR l (sumL l : Rat) = (((l.map fun s => s.1 * s.2).sum : Int) : Rat) := by
  induction l with
  | nil => rfl
  | cons s r ih =>
    have hr := fun t ht => h t (List.mem_cons_of_mem _ ht)
    have h1 := sumL_nonneg hr
    have h2 : (s.1 : Rat) ≤ ((sumL (s :: r) : Int) : Rat) := by rw [sumL_cons]; exact_mod_cast (by omega : s.1 ≤ s.1 + sumL r)
    have e : minQ ((sumL (s :: r) : Int) : Rat) (s.1 : Rat) = (s.1 : Rat) := by
      rcases minQ_cases ((sumL (s :: r) : Int) : Rat) (s.1 : Rat) with ⟨a, b⟩ | ⟨a, b⟩
      · rw [b]; grind
      · exact b
    rw [costR, e, show ((sumL (s :: r) : Int) : Rat) - (s.1 : Rat) = (sumL r : Rat) by rw [sumL_cons, Rat.intCast_add]; grind, ih hr]
    simp only [List.map_cons, List.sum_cons, Rat.intCast_add, Rat.intCast_mul]
/-- What is wanted, with the comparison as such. -/
def wL (l : List Stp) (p : Rat) : Int := (l.map fun s => if (s.2 : Rat) < p then s.1 else 0).sum
def wM (l : List Stp) (p : Rat) : Int := (l.map fun s => if (s.2 : Rat) ≤ p then s.1 else 0).sum
theorem wL_cons (s : Stp) (r : List Stp) (p : Rat) : wL (s :: r) p = (if (s.2 : Rat) < p then s.1 else 0) + wL r p := by simp [wL]
theorem wM_cons (s : Stp) (r : List Stp) (p : Rat) : wM (s :: r) p = (if (s.2 : Rat) ≤ p then s.1 else 0) + wM r p := by simp [wM]
theorem wantL_one (l : List Stp) (p : Rat) : wantL l p 1 = wL l p := by
  unfold wantL wL
  congr 1
  exact List.map_congr_left fun s _ => by simp only [Int.one_mul, cmpQ_lt]
theorem wantM_one (l : List Stp) (p : Rat) : wantM l p 1 = wM l p := by
  unfold wantM wM
  congr 1
  exact List.map_congr_left fun s _ => by simp only [Int.one_mul, cmpQ_le]
/-- A curve with its prices negated. -/
def ngL (l : List Stp) : List Stp := l.map fun s => (s.1, -s.2)
theorem wantL_neg (l : List Stp) (p : Rat) : wantL l p (-1) = wL (ngL l) (-p) := by
  unfold wantL wL ngL
  rw [List.map_map]
  congr 1
  refine List.map_congr_left fun s _ => ?_
  change (if (-1) * cmpQ (s.2 : Rat) p < 0 then s.1 else 0) = (if ((-s.2 : Int) : Rat) < -p then s.1 else 0)
  have e : ((-1) * cmpQ (s.2 : Rat) p < 0) ↔ (((-s.2 : Int) : Rat) < -p) := by
    rw [Rat.intCast_neg]
    unfold cmpQ; split <;> (try split) <;> grind
  by_cases h : ((-s.2 : Int) : Rat) < -p
  · rw [if_pos (e.2 h), if_pos h]
  · rw [if_neg (fun g => h (e.1 g)), if_neg h]
theorem wantM_neg (l : List Stp) (p : Rat) : wantM l p (-1) = wM (ngL l) (-p) := by
  unfold wantM wM ngL
  rw [List.map_map]
  congr 1
  refine List.map_congr_left fun s _ => ?_
  change (if (-1) * cmpQ (s.2 : Rat) p ≤ 0 then s.1 else 0) = (if ((-s.2 : Int) : Rat) ≤ -p then s.1 else 0)
  have e : ((-1) * cmpQ (s.2 : Rat) p ≤ 0) ↔ (((-s.2 : Int) : Rat) ≤ -p) := by
    rw [Rat.intCast_neg]
    unfold cmpQ; split <;> (try split) <;> grind
  by_cases h : ((-s.2 : Int) : Rat) ≤ -p
  · rw [if_pos (e.2 h), if_pos h]
  · rw [if_neg (fun g => h (e.1 g)), if_neg h]
theorem costR_ng (l : List Stp) (q : Rat) : costR (ngL l) q = - costR l q := by
  induction l generalizing q with
  | nil => simp [ngL, costR]
  | cons s r ih =>
    have := ih (q - minQ q (s.1 : Rat))
    simp only [ngL, List.map_cons, costR, Rat.intCast_neg] at this ⊢
    rw [this]; grind
theorem sumL_ng (l : List Stp) : sumL (ngL l) = sumL l := by unfold sumL ngL; rw [List.map_map]; rfl
theorem incr_ng {l : List Stp} (h : decr l) : incr (ngL l) := by
  induction l with
  | nil => trivial
  | cons s r ih =>
    refine ⟨fun t ht => ?_, ih h.2⟩
    obtain ⟨u, hu, rfl⟩ := List.mem_map.1 ht
    have := h.1 u hu
    simp only; omega
theorem pos_ng {l : List Stp} (h : ∀ s ∈ l, 0 < s.1) : ∀ s ∈ ngL l, 0 < s.1 := fun t ht => by
  obtain ⟨u, hu, rfl⟩ := List.mem_map.1 ht
  exact h u hu

/-- What the best quantity gains. -/
def bestG : List Stp → Rat → Rat
  | [], _ => 0
  | s :: r, p => (if (s.2 : Rat) < p then (s.1 : Rat) * (p - (s.2 : Rat)) else 0) + bestG r p
theorem bestG_high {l : List Stp} {p : Rat} (h : ∀ t ∈ l, p ≤ (t.2 : Rat)) : bestG l p = 0 ∧ wL l p = 0 := by
  induction l with
  | nil => exact ⟨rfl, rfl⟩
  | cons s r ih =>
    obtain ⟨h1, h2⟩ := ih (fun t ht => h t (by simp [ht]))
    have hs := h s (by simp)
    have hn : ¬ ((s.2 : Rat) < p) := by grind
    rw [bestG, wL_cons, if_neg hn, if_neg hn, h1, h2]
    exact ⟨by grind, rfl⟩
theorem wM_high {l : List Stp} {p : Rat} (h : ∀ t ∈ l, p < (t.2 : Rat)) : wM l p = 0 := by
  induction l with
  | nil => rfl
  | cons s r ih =>
    have hs := h s (by simp)
    have hn : ¬ ((s.2 : Rat) ≤ p) := by grind
    rw [wM_cons, if_neg hn, ih (fun t ht => h t (by simp [ht]))]
    rfl
theorem wants_bounds {l : List Stp} (h : ∀ s ∈ l, 0 < s.1) (p : Rat) : 0 ≤ wL l p ∧ wL l p ≤ wM l p ∧ wM l p ≤ sumL l := by
  induction l with
  | nil => simp [wL, wM, sumL]
  | cons s r ih =>
    have := ih (fun t ht => h t (by simp [ht]))
    have h1 := h s (by simp)
    rw [wL_cons, wM_cons, sumL_cons]
    by_cases h2 : (s.2 : Rat) < p
    · rw [if_pos h2, if_pos (by grind)]; omega
    · rw [if_neg h2]
      split <;> omega
theorem wants_mono {l : List Stp} (h : ∀ s ∈ l, 0 < s.1) {p q : Rat} (hpq : p ≤ q) : wL l p ≤ wL l q ∧ wM l p ≤ wM l q ∧ (p < q → wM l p ≤ wL l q) := by
  induction l with
  | nil => simp [wL, wM]
  | cons s r ih =>
    obtain ⟨h1, h2, h3⟩ := ih (fun t ht => h t (by simp [ht]))
    have h4 := h s (by simp)
    rw [wL_cons, wM_cons, wL_cons, wM_cons]
    refine ⟨?_, ?_, fun hlt => ?_⟩
    · by_cases a : (s.2 : Rat) < p
      · rw [if_pos a, if_pos (by grind)]; omega
      · rw [if_neg a]; split <;> omega
    · by_cases a : (s.2 : Rat) ≤ p
      · rw [if_pos a, if_pos (by grind)]; omega
      · rw [if_neg a]; split <;> omega
    · have := h3 hlt
      by_cases a : (s.2 : Rat) ≤ p
      · rw [if_pos a, if_pos (by grind)]; omega
      · rw [if_neg a]; split <;> omega
theorem rmul_pos {a b : Rat} (ha : 0 < a) (hb : 0 < b) : 0 < a * b := Rat.mul_pos ha hb
theorem rmul_nonneg {a b : Rat} (ha : 0 ≤ a) (hb : 0 ≤ b) : 0 ≤ a * b := Rat.mul_nonneg ha hb
theorem rcast_le {a b : Int} : ((a : Rat) ≤ (b : Rat)) ↔ a ≤ b := Rat.intCast_le_intCast
theorem rcast_lt {a b : Int} : ((a : Rat) < (b : Rat)) ↔ a < b := Rat.intCast_lt_intCast
/-- No quantity gains more than the best; those between the bounds gain it, no others. -/
theorem gain_best {l : List Stp} (hp : ∀ s ∈ l, 0 < s.1) (hi : incr l) (p : Rat) : ∀ {q : Rat}, 0 ≤ q → q ≤ (sumL l : Rat) →
    p * q - costR l q ≤ bestG l p ∧ (p * q - costR l q = bestG l p ↔ (wL l p : Rat) ≤ q ∧ q ≤ (wM l p : Rat)) := by
  induction l with
  | nil =>
    intro q h0 h1
    have : q = 0 := by simp [sumL] at h1; grind
    subst this
    simp [costR, bestG, wL, wM]
    grind
  | cons s r ih =>
    intro q h0 h1
    have hn := hp s (by simp)
    have hr := fun t ht => hp t (List.mem_cons_of_mem _ ht)
    have hnQ : (0 : Rat) < (s.1 : Rat) := by exact_mod_cast rcast_lt.2 hn
    rw [sumL_cons, Rat.intCast_add] at h1
    have hs0 : (0 : Rat) ≤ (sumL r : Rat) := by exact_mod_cast rcast_le.2 (sumL_nonneg hr)
    have hq : 0 ≤ q - minQ q (s.1 : Rat) ∧ q - minQ q (s.1 : Rat) ≤ (sumL r : Rat) ∧ 0 ≤ minQ q (s.1 : Rat) := by
      rcases minQ_cases q (s.1 : Rat) with ⟨a, b⟩ | ⟨a, b⟩ <;> rw [b] <;> grind
    obtain ⟨h2, h3⟩ := ih hr hi.2 hq.1 hq.2.1
    obtain ⟨hb0, hb1, hb2⟩ := wants_bounds hr p
    have hb0Q : (0 : Rat) ≤ (wL r p : Rat) := by exact_mod_cast rcast_le.2 hb0
    have hb1Q : (wL r p : Rat) ≤ (wM r p : Rat) := by exact_mod_cast rcast_le.2 hb1
    have hgq : p * q - costR (s :: r) q = (p - (s.2 : Rat)) * minQ q (s.1 : Rat) + (p * (q - minQ q (s.1 : Rat)) - costR r (q - minQ q (s.1 : Rat))) := by
      rw [costR]; grind
    rw [hgq, bestG, wL_cons, wM_cons]
    generalize p * (q - minQ q (s.1 : Rat)) - costR r (q - minQ q (s.1 : Rat)) = g at *
    by_cases c1 : (s.2 : Rat) < p
    · rw [if_pos c1, if_pos c1, if_pos (by grind), Rat.intCast_add, Rat.intCast_add]
      rcases minQ_cases q (s.1 : Rat) with ⟨a, b⟩ | ⟨a, b⟩
      · rw [b] at h3 ⊢
        have h5 : 0 ≤ (p - (s.2 : Rat)) * ((s.1 : Rat) - q) := rmul_nonneg (by grind) (by grind)
        refine ⟨by grind, fun e => ?_, fun ⟨e1, e2⟩ => ?_⟩
        · have h6 : (p - (s.2 : Rat)) * ((s.1 : Rat) - q) = 0 := by grind
          have h7 : (s.1 : Rat) - q = 0 := by
            rcases Rat.mul_eq_zero.1 h6 with h | h <;> grind
          have := h3.1 (by grind)
          grind
        · have h7 : q = (s.1 : Rat) := by grind
          have := h3.2 (by grind)
          grind
      · rw [b] at h3 ⊢
        refine ⟨by grind, fun e => ?_, fun ⟨e1, e2⟩ => ?_⟩
        · have := h3.1 (by grind)
          grind
        · have := h3.2 (by grind)
          grind
    · have hhi : ∀ t ∈ r, p < (t.2 : Rat) := fun t ht => by
        have := rcast_lt.2 (hi.1 t ht); grind
      obtain ⟨e1, e2⟩ := bestG_high (p := p) (fun t ht => by have := hhi t ht; grind)
      have e3 := wM_high hhi
      rw [e1] at h2
      rw [e1, e2, e3] at h3
      rw [if_neg c1, if_neg c1, e1, e2, e3]
      have h5 : 0 ≤ ((s.2 : Rat) - p) * minQ q (s.1 : Rat) := rmul_nonneg (by grind) hq.2.2
      have z : ((0 : Int) : Rat) = 0 := rfl
      simp only [Int.zero_add, Int.add_zero, z] at h3 ⊢
      refine ⟨by grind, fun e => ?_, fun ⟨e4, e5⟩ => ?_⟩
      · have h6 : ((s.2 : Rat) - p) * minQ q (s.1 : Rat) = 0 := by grind
        have h7 := h3.1 (by grind)
        have h8 : q = minQ q (s.1 : Rat) := by grind
        refine ⟨h0, ?_⟩
        split
        · rcases minQ_cases q (s.1 : Rat) with ⟨a, b⟩ | ⟨a, b⟩ <;> grind
        · rcases Rat.mul_eq_zero.1 h6 with h | h <;> grind
      · split at e5
        · have h8 : minQ q (s.1 : Rat) = q := by
            rcases minQ_cases q (s.1 : Rat) with ⟨a, b⟩ | ⟨a, b⟩ <;> grind
          rw [h8] at h3 ⊢
          have := h3.2 (by grind)
          have hps : (s.2 : Rat) = p := by grind
          rw [hps]
          grind
        · have h8 : q = 0 := by grind
          subst h8
          have h9 : minQ 0 (s.1 : Rat) = 0 := by
            rcases minQ_cases 0 (s.1 : Rat) with ⟨a, b⟩ | ⟨a, b⟩ <;> grind
          rw [h9] at h3 ⊢
          have := h3.2 (by grind)
          grind
end Go.AE

/- Plain laws of curves: what the contracts' numbers are. -/
namespace Go.AE
set_option linter.unusedVariables false
set_option linter.unusedSimpArgs false

theorem okS_pos {l : List Stp} (h : okS l) : ∀ s ∈ l, 0 < s.1 := fun s hs => by
  have := h s hs
  unfold badS at this
  omega
theorem curve_of {l : List Stp} (h : offK l = 0 ∨ bidK l = 0) : curveK l = 0 := by
  unfold curveK
  split
  · rfl
  · rcases h with h | h
    · exact h
    · contradiction
theorem of_curve {l : List Stp} (h : curveK l = 0) : offK l = 0 ∨ bidK l = 0 := by
  unfold curveK at h
  split at h
  · exact .inr (by assumption)
  · exact .inl h
theorem costK_R {l : List Stp} {q : Rat} (hc : curveK l = 0) (h0 : 0 ≤ q) (h1 : q ≤ (sumL l : Rat)) : allE l q = 0 ∧ costK l q = costR l q := by
  have e : allE l q = 0 := by
    have hs : sumK l = sumL l := by rw [sumK, if_pos hc]
    rw [allE, if_neg (by simp [hc]), if_neg]
    rw [hs]
    rintro (h | h) <;> grind
  exact ⟨e, by rw [costK, if_pos e, costAt_R]⟩
theorem costK_R' {l : List Stp} {q : Rat} (e : allE l q = 0) : curveK l = 0 ∧ 0 ≤ q ∧ q ≤ (sumL l : Rat) ∧ costK l q = costR l q := by
  obtain ⟨h1, h2, h3⟩ := allE_ok e
  have hs : sumK l = sumL l := by rw [sumK, if_pos h1]
  exact ⟨h1, h2, by rw [← hs]; exact h3, by rw [costK, if_pos e, costAt_R]⟩
theorem off_incr {l : List Stp} (h : offK l = 0) : okS l ∧ incr l := by
  obtain ⟨_, _, h3, h4⟩ := checkK_ok h
  exact ⟨h3, (incr_of h4).1⟩
theorem bid_decr {l : List Stp} (h : bidK l = 0) : okS l ∧ decr l := by
  obtain ⟨_, _, h3, h4⟩ := checkK_ok h
  exact ⟨h3, (decr_of h4).1⟩
theorem mono_facts {l : List Stp} {p q : Rat} (hpq : p ≤ q) : supL l p ≤ supL l q ∧ supM l p ≤ supM l q ∧ demL l q ≤ demL l p ∧ demM l q ≤ demM l p ∧
    (p < q → offK l = 0 → supM l p ≤ supL l q) ∧ (p < q → bidK l = 0 → demM l q ≤ demL l p) := by
  have ho : supL l p ≤ supL l q ∧ supM l p ≤ supM l q ∧ (p < q → offK l = 0 → supM l p ≤ supL l q) := by
    unfold supL supM
    by_cases h : offK l = 0
    · simp only [if_pos h, wantL_one, wantM_one]
      have := wants_mono (okS_pos (off_incr h).1) hpq
      exact ⟨this.1, this.2.1, fun hlt _ => this.2.2 hlt⟩
    · simp only [if_neg h]
      exact ⟨Int.le_refl _, Int.le_refl _, fun _ h' => absurd h' h⟩
  have hb : demL l q ≤ demL l p ∧ demM l q ≤ demM l p ∧ (p < q → bidK l = 0 → demM l q ≤ demL l p) := by
    unfold demL demM
    by_cases h : bidK l = 0
    · simp only [if_pos h, wantL_neg, wantM_neg]
      have := wants_mono (pos_ng (okS_pos (bid_decr h).1)) (p := -q) (q := -p) (by grind)
      exact ⟨this.1, this.2.1, fun hlt _ => this.2.2 (by grind)⟩
    · simp only [if_neg h]
      exact ⟨Int.le_refl _, Int.le_refl _, fun _ h' => absurd h' h⟩
  exact ⟨ho.1, ho.2.1, hb.1, hb.2.1, ho.2.2, hb.2.2⟩
/-- The best quantities of an offer, and of a bid. -/
theorem opt_off {l : List Stp} (h : offK l = 0) (p : Rat) : 0 ≤ supL l p ∧ supL l p ≤ supM l p ∧ supM l p ≤ sumL l ∧
    ∀ {q : Rat}, 0 ≤ q → q ≤ (sumL l : Rat) → p * q - costR l q ≤ bestG l p ∧ (p * q - costR l q = bestG l p ↔ (supL l p : Rat) ≤ q ∧ q ≤ (supM l p : Rat)) := by
  obtain ⟨hok, hi⟩ := off_incr h
  have hp := okS_pos hok
  have hb := wants_bounds hp p
  unfold supL supM
  simp only [if_pos h, wantL_one, wantM_one]
  exact ⟨hb.1, hb.2.1, hb.2.2, fun h0 h1 => gain_best hp hi p h0 h1⟩
theorem opt_bid {l : List Stp} (h : bidK l = 0) (p : Rat) : 0 ≤ demL l p ∧ demL l p ≤ demM l p ∧ demM l p ≤ sumL l ∧
    ∀ {q : Rat}, 0 ≤ q → q ≤ (sumL l : Rat) → -(p * q - costR l q) ≤ bestG (ngL l) (-p) ∧ (-(p * q - costR l q) = bestG (ngL l) (-p) ↔ (demL l p : Rat) ≤ q ∧ q ≤ (demM l p : Rat)) := by
  obtain ⟨hok, hd⟩ := bid_decr h
  have hp := pos_ng (okS_pos hok)
  have hb := wants_bounds hp (-p)
  rw [sumL_ng] at hb
  unfold demL demM
  simp only [if_pos h, wantL_neg, wantM_neg]
  refine ⟨hb.1, hb.2.1, hb.2.2, fun {q} h0 h1 => ?_⟩
  have := gain_best hp (incr_ng hd) (-p) h0 (by rw [sumL_ng]; exact h1)
  rw [costR_ng] at this
  have e : -p * q - -costR l q = -(p * q - costR l q) := by grind
  rw [e] at this
  exact this
/-- A rational between 0 and the whole: some price has it between its bounds. -/
theorem price_at {l : List Stp} (hp : ∀ s ∈ l, 0 < s.1) (hi : incr l) (hne : l ≠ []) : ∀ {q : Rat}, 0 ≤ q → q ≤ (sumL l : Rat) → ∃ p : Rat, (wL l p : Rat) ≤ q ∧ q ≤ (wM l p : Rat) ∧ ∃ s ∈ l, p = (s.2 : Rat) := by
  induction l with
  | nil => exact absurd rfl hne
  | cons s r ih =>
    intro q h0 h1
    have hr := fun t ht => hp t (List.mem_cons_of_mem _ ht)
    have hz : ((0 : Int) : Rat) = 0 := rfl
    by_cases hq : q ≤ (s.1 : Rat)
    · refine ⟨(s.2 : Rat), ?_, ?_, s, by simp, rfl⟩
      · have hw : wL (s :: r) (s.2 : Rat) = 0 := by
          rw [wL_cons, if_neg (by grind), (bestG_high (p := (s.2 : Rat)) (fun t ht => by have := rcast_lt.2 (hi.1 t ht); grind)).2]; rfl
        rw [hw, hz]; exact h0
      · rw [wM_cons, if_pos (by grind), Rat.intCast_add]
        have := rcast_le.2 (Int.le_trans (wants_bounds hr (s.2 : Rat)).1 (wants_bounds hr (s.2 : Rat)).2.1)
        grind
    · have hrne : r ≠ [] := by
        rintro rfl
        simp [sumL] at h1
        exact hq h1
      rw [sumL_cons, Rat.intCast_add] at h1
      obtain ⟨p, h2, h3, t, ht, rfl⟩ := ih hr hi.2 hrne (q := q - (s.1 : Rat)) (by grind) (by grind)
      have hst := rcast_lt.2 (hi.1 t ht)
      refine ⟨(t.2 : Rat), ?_, ?_, t, List.mem_cons_of_mem _ ht, rfl⟩
      · rw [wL_cons, if_pos hst, Rat.intCast_add]; grind
      · rw [wM_cons, if_pos (by grind), Rat.intCast_add]; grind
/-- The cost of the mean is at most the mean of the costs. -/
theorem convex {l : List Stp} (hp : ∀ s ∈ l, 0 < s.1) (hi : incr l) (hne : l ≠ []) {a b m : Rat} (ha0 : 0 ≤ a) (ha1 : a ≤ (sumL l : Rat)) (hb0 : 0 ≤ b) (hb1 : b ≤ (sumL l : Rat)) (hm : 2 * m = a + b) :
    2 * costR l m ≤ costR l a + costR l b := by
  obtain ⟨p, h1, h2, _⟩ := price_at hp hi hne (q := m) (by grind) (by grind)
  have ea := (gain_best hp hi p ha0 ha1).1
  have eb := (gain_best hp hi p hb0 hb1).1
  have em := (gain_best hp hi p (q := m) (by grind) (by grind)).2.2 ⟨h1, h2⟩
  have : p * (2 * m) = p * (a + b) := by rw [hm]
  grind
end Go.AE

/- Contracts: the reference's integers and rationals, what the laws of curves need. -/
namespace Go.AE
open Go.Proofs Go.RowKit
set_option linter.unusedVariables false
set_option linter.unusedSimpArgs false
set_option maxRecDepth 20000

def ctTrimH : Ct := fun l => match l with
  | [.lst .i64 ws] => some (ws.length ≤ 1099511627776, .lst .i64 (trimL ws))
  | _ => none
theorem trim_last {l : List Int} {n : Nat} (hn : n < l.length) : trimL (l.take (n + 1)) = if l.getD n 0 = 0 then trimL (l.take n) else l.take (n + 1) := by
  have e : l.take (n + 1) = l.take n ++ [l.getD n 0] := by
    rw [List.take_add_one, List.getD_eq_getElem?_getD, List.getElem?_eq_getElem hn]; rfl
  rw [e, trimL_snoc]
theorem ok142 : Sound Tryz.prog 142 ctTrimH := by
  refine sound_of (fn := Tryz.f142) rfl rfl rfl tiOk env0_ok mix ?_ (by intro l p r h; unfold ctTrimH at h; split at h <;> cases h <;> exact Nat.le_of_ble_eq_true rfl)
  intro l p r h hp F vs hv
  unfold ctTrimH at h
  split at h <;> cases h
  rename_i ws
  obtain ⟨v0, rest0, rfl, a0, hv⟩ := hv
  refine ⟨[_], ⟨_, _, rfl, a0, hv⟩, ?_⟩
  show Run Tryz.prog ti env0 21 (finR ti [.tmp 2] _) _ _ _
  repeat' (first | with_reducible refine run_seq ?_ | with_reducible refine run_block ?_ | with_reducible refine step_code ?_ | with_reducible refine step_blk ?_ | with_reducible refine run_skip ?_ | with_reducible refine run_exit ?_ | with_reducible refine exits_code ?_ | with_reducible refine exits_here ?_ | with_reducible refine exits_blk rfl ?_ | with_reducible refine exits_lp ?_ | with_reducible refine run_ret ?_ | ((first | with_reducible refine run_region ?_ | with_reducible refine run_draw (by kernel_rfl) ?_); simp only [↓guardP_tt, ↓guardP_tf, ↓guardP_ft, ↓guardP_ff, guardP_t, guardP_f, evalQ, evalR, effQ, effR, skipS, opEff, evO, plainV, lkS, lkM, updL, putS, tie_sz, tie_zero, tie_zeroB, tie_fld, tie_ek, tie_int, tie_isb, tie_eq2, tie_f1, tie_ms, tie2_sz, tie2_zero, tie2_zeroB, tie2_fld, tie2_ek, tie2_int, tie2_isb, tie2_eq2, tie2_f1, tie2_ms, ti_ek2, ti_f1, ti_ms, ti_sz, ti_zero, ti_zeroB, ti_fld, ti_ek, ti_int, ti_isb, ti_eq2, binA, binI, intOp, funOf_v, cloOf_v, calIds, appEff, frE, foldB, foldS, castL_self, K.enc, K.dec, K.zero, K.es, K.bytes, AV.part, AV.setPart, AV.cells, AV.agg, AV.nth, Bool.false_eq_true, callEff, pubs, pub, nilAV, MM.upd, MM.set, argS, gdst, opIds, lids, AV.ids, List.getD_cons_succ, List.getD_cons_zero, List.map, List.tail, List.headD, List.nil_append, List.append_nil, List.cons_append, List.length_nil, List.length_cons, List.zip_cons_cons, List.zip_nil_right, List.set_cons_zero, List.set_cons_succ, List.replicate, Option.isSome_some, Option.map_some, Bool.not_true, Bool.not_false, forall_const, false_implies, Nat.reduceAdd, Nat.reduceEqDiff, Nat.reduceLT, Nat.reduceSub, Nat.reduceMul, Nat.reduceLeDiff, ↓reduceIte, and_true, true_and, and_self, false_and, and_false, reduceCtorEq, env0]) | (with_reducible refine run_cond (by with_unfolding_all exact rfl) ?_ ?_ <;> intro hc <;> (try simp only [vb, decide_eq_true_eq, decide_eq_false_iff_not, beq_iff_eq, beq_eq_false_iff_ne, bne_iff_ne, bne_eq_false_iff_eq, Bool.not_eq_true', Bool.not_eq_false', reduceCtorEq] at hc) <;> (try (first | simp (disch := omega) only [wrap64, wrapu64, wrapu32, sh32, fdiv32, Int.tdiv_eq_ediv_of_nonneg, Int.tmod_eq_emod_of_nonneg, tn_add, tn_add1, Int.toNat_natCast, Int.toNat_zero, List.drop_zero] at hc | simp only [wrapu64m, wrapu32m] at hc))) | ((with_reducible refine compat_ok ?_); kernel_rfl) | with_reducible apply And.intro | (first | simp (disch := omega) only [wrap64, wrapu64, wrapu32, sh32, fdiv32, Int.tdiv_eq_ediv_of_nonneg, Int.tmod_eq_emod_of_nonneg, tn_add, tn_add1, Int.toNat_natCast, Int.toNat_zero, List.drop_zero] | simp only [wrapu64m, wrapu32m]) | (with_reducible intro hg; (try simp only [vb, decide_eq_true_eq, decide_eq_false_iff_not, beq_iff_eq, beq_eq_false_iff_ne, bne_iff_ne, bne_eq_false_iff_eq, Bool.not_eq_true', Bool.not_eq_false', reduceCtorEq] at hg); (try (first | simp (disch := omega) only [wrap64, wrapu64, wrapu32, sh32, fdiv32, Int.tdiv_eq_ediv_of_nonneg, Int.tmod_eq_emod_of_nonneg, tn_add, tn_add1, Int.toNat_natCast, Int.toNat_zero, List.drop_zero] at hg | simp only [wrapu64m, wrapu32m] at hg))))
  all_goals try omega
  refine run_loop (ι := Nat) (fun n => ⟨[(0, .lst .i64 ws), (3, vi n)], [], 0⟩) (fun n => n ≤ ws.length ∧ trimL (ws.take n) = trimL ws) (fun n => n) ws.length ⟨Nat.le_refl _, by rw [List.take_length]⟩ ?_ ?_
  · (refine AS.le_of ?_ ?_ <;> simp only [slLe, memLe, entLe, lkS, lkM, Nat.reduceEqDiff, Nat.reduceLT, or_true, true_or, reduceCtorEq, ↓reduceIte, and_true, true_and] <;> (repeat' with_reducible apply And.intro) <;> (try (first | ((with_reducible refine AV.le_refl ?_); rfl) | with_reducible exact AV.le_junk | with_reducible exact AV.le_nil | ((with_reducible refine AV.le_int ?_); omega) | (with_reducible refine AV.le_int ?_) | (with_reducible refine AV.le_bool ?_) | ((with_reducible refine AV.le_lst ?_); try rfl) | (with_reducible refine AV.le_q ?_ ?_ ?_) | exact fun _ _ h => h | (with_reducible refine RC_qle ?_ ?_ ?_))))
  rintro n ⟨hn, ht⟩
  repeat' (first | with_reducible refine run_seq ?_ | with_reducible refine run_block ?_ | with_reducible refine step_code ?_ | with_reducible refine step_blk ?_ | with_reducible refine run_skip ?_ | with_reducible refine run_exit ?_ | with_reducible refine exits_code ?_ | with_reducible refine exits_here ?_ | with_reducible refine exits_blk rfl ?_ | with_reducible refine exits_lp ?_ | with_reducible refine run_ret ?_ | ((first | with_reducible refine run_region ?_ | with_reducible refine run_draw (by kernel_rfl) ?_); simp only [↓guardP_tt, ↓guardP_tf, ↓guardP_ft, ↓guardP_ff, guardP_t, guardP_f, evalQ, evalR, effQ, effR, skipS, opEff, evO, plainV, lkS, lkM, updL, putS, tie_sz, tie_zero, tie_zeroB, tie_fld, tie_ek, tie_int, tie_isb, tie_eq2, tie_f1, tie_ms, tie2_sz, tie2_zero, tie2_zeroB, tie2_fld, tie2_ek, tie2_int, tie2_isb, tie2_eq2, tie2_f1, tie2_ms, ti_ek2, ti_f1, ti_ms, ti_sz, ti_zero, ti_zeroB, ti_fld, ti_ek, ti_int, ti_isb, ti_eq2, binA, binI, intOp, funOf_v, cloOf_v, calIds, appEff, frE, foldB, foldS, castL_self, K.enc, K.dec, K.zero, K.es, K.bytes, AV.part, AV.setPart, AV.cells, AV.agg, AV.nth, Bool.false_eq_true, callEff, pubs, pub, nilAV, MM.upd, MM.set, argS, gdst, opIds, lids, AV.ids, List.getD_cons_succ, List.getD_cons_zero, List.map, List.tail, List.headD, List.nil_append, List.append_nil, List.cons_append, List.length_nil, List.length_cons, List.zip_cons_cons, List.zip_nil_right, List.set_cons_zero, List.set_cons_succ, List.replicate, Option.isSome_some, Option.map_some, Bool.not_true, Bool.not_false, forall_const, false_implies, Nat.reduceAdd, Nat.reduceEqDiff, Nat.reduceLT, Nat.reduceSub, Nat.reduceMul, Nat.reduceLeDiff, ↓reduceIte, and_true, true_and, and_self, false_and, and_false, reduceCtorEq, env0]) | (with_reducible refine run_cond (by with_unfolding_all exact rfl) ?_ ?_ <;> intro hc <;> (try simp only [vb, decide_eq_true_eq, decide_eq_false_iff_not, beq_iff_eq, beq_eq_false_iff_ne, bne_iff_ne, bne_eq_false_iff_eq, Bool.not_eq_true', Bool.not_eq_false', reduceCtorEq] at hc) <;> (try (first | simp (disch := omega) only [wrap64, wrapu64, wrapu32, sh32, fdiv32, Int.tdiv_eq_ediv_of_nonneg, Int.tmod_eq_emod_of_nonneg, tn_add, tn_add1, Int.toNat_natCast, Int.toNat_zero, List.drop_zero] at hc | simp only [wrapu64m, wrapu32m] at hc))) | ((with_reducible refine compat_ok ?_); kernel_rfl) | with_reducible apply And.intro | (first | simp (disch := omega) only [wrap64, wrapu64, wrapu32, sh32, fdiv32, Int.tdiv_eq_ediv_of_nonneg, Int.tmod_eq_emod_of_nonneg, tn_add, tn_add1, Int.toNat_natCast, Int.toNat_zero, List.drop_zero] | simp only [wrapu64m, wrapu32m]) | (with_reducible intro hg; (try simp only [vb, decide_eq_true_eq, decide_eq_false_iff_not, beq_iff_eq, beq_eq_false_iff_ne, bne_iff_ne, bne_eq_false_iff_eq, Bool.not_eq_true', Bool.not_eq_false', reduceCtorEq] at hg); (try (first | simp (disch := omega) only [wrap64, wrapu64, wrapu32, sh32, fdiv32, Int.tdiv_eq_ediv_of_nonneg, Int.tmod_eq_emod_of_nonneg, tn_add, tn_add1, Int.toNat_natCast, Int.toNat_zero, List.drop_zero] at hg | simp only [wrapu64m, wrapu32m] at hg))))
  all_goals try omega
  · obtain ⟨m, rfl⟩ : ∃ m, n = m + 1 := ⟨n - 1, by omega⟩
    have e : (((m + 1 : Nat) : Int) - 1).toNat = m := by omega
    rw [e] at hc
    rw [trim_last (by omega), if_pos hc] at ht
    refine step_lp ⟨m, ⟨by omega, ht⟩, by omega, ?_⟩
    (refine AS.le_of ?_ ?_ <;> simp only [slLe, memLe, entLe, lkS, lkM, Nat.reduceEqDiff, Nat.reduceLT, or_true, true_or, reduceCtorEq, ↓reduceIte, and_true, true_and] <;> (repeat' with_reducible apply And.intro) <;> (try (first | ((with_reducible refine AV.le_refl ?_); rfl) | with_reducible exact AV.le_junk | with_reducible exact AV.le_nil | ((with_reducible refine AV.le_int ?_); omega) | (with_reducible refine AV.le_int ?_) | (with_reducible refine AV.le_bool ?_) | ((with_reducible refine AV.le_lst ?_); try rfl) | (with_reducible refine AV.le_q ?_ ?_ ?_) | exact fun _ _ h => h | (with_reducible refine RC_qle ?_ ?_ ?_))))
  · obtain ⟨m, rfl⟩ : ∃ m, n = m + 1 := ⟨n - 1, by omega⟩
    have e : (((m + 1 : Nat) : Int) - 1).toNat = m := by omega
    rw [e] at hc
    rw [trim_last (by omega), if_neg hc] at ht
    simp only [finR, resAs, resA, resLe, lsLe, lkS, lkM, pubs, pub, tie_sz, ti_sz, tie_ek, ti_ek, tie2_sz, tie2_ek, ti_ek2, nilAV, MM.upd, MM.set, AV.part, AV.cells, AV.agg, List.tail, List.headD, Nat.reduceAdd, Nat.reduceEqDiff, Nat.reduceLT, ↓reduceIte, and_true, true_and, and_self, reduceCtorEq]
    exact AVle_lst ht
  · have : n = 0 := by omega
    subst this
    simp only [finR, resAs, resA, resLe, lsLe, lkS, lkM, pubs, pub, tie_sz, ti_sz, tie_ek, ti_ek, tie2_sz, tie2_ek, ti_ek2, nilAV, MM.upd, MM.set, AV.part, AV.cells, AV.agg, List.tail, List.headD, Nat.reduceAdd, Nat.reduceEqDiff, Nat.reduceLT, ↓reduceIte, and_true, true_and, and_self, reduceCtorEq]
    refine AVle_lst ?_
    rw [← ht]; rfl
def env30 : Env := fun g => match g with | 142 => some ctTrimH | _ => none
theorem env30_ok : EnvOk Tryz.prog env30 := by
  intro g ct h
  simp only [env30] at h
  split at h <;> first | (cases h; exact ok142) | cases h
def ctHalves : Ct := fun l => match l with
  | [.lst .u32 ws] => some (ws.length ≤ 1073741824, .lst .i64 (halK ws))
  | _ => none
theorem ok118 : Sound Tryz.prog 118 ctHalves := by
  refine sound_of (fn := Tryz.f118) rfl rfl rfl tiOk env30_ok mix ?_ (by intro l p r h; unfold ctHalves at h; split at h <;> cases h <;> exact Nat.le_of_ble_eq_true rfl)
  intro l p r h hp F vs hv
  unfold ctHalves at h
  split at h <;> cases h
  rename_i ws
  obtain ⟨v0, rest0, rfl, a0, hv⟩ := hv
  have ok0 := okW_lst a0
  refine ⟨[_], ⟨_, _, rfl, a0, hv⟩, ?_⟩
  show Run Tryz.prog ti env30 28 (finR ti [.tmp 2] _) _ _ _
  repeat' (first | with_reducible refine run_seq ?_ | with_reducible refine run_block ?_ | with_reducible refine step_code ?_ | with_reducible refine step_blk ?_ | with_reducible refine run_skip ?_ | with_reducible refine run_exit ?_ | with_reducible refine exits_code ?_ | with_reducible refine exits_here ?_ | with_reducible refine exits_blk rfl ?_ | with_reducible refine exits_lp ?_ | with_reducible refine run_ret ?_ | ((first | with_reducible refine run_region ?_ | with_reducible refine run_draw (by kernel_rfl) ?_); simp only [↓guardP_tt, ↓guardP_tf, ↓guardP_ft, ↓guardP_ff, guardP_t, guardP_f, evalQ, evalR, effQ, effR, skipS, opEff, evO, plainV, lkS, lkM, updL, putS, tie_sz, tie_zero, tie_zeroB, tie_fld, tie_ek, tie_int, tie_isb, tie_eq2, tie_f1, tie_ms, tie2_sz, tie2_zero, tie2_zeroB, tie2_fld, tie2_ek, tie2_int, tie2_isb, tie2_eq2, tie2_f1, tie2_ms, ti_ek2, ti_f1, ti_ms, ti_sz, ti_zero, ti_zeroB, ti_fld, ti_ek, ti_int, ti_isb, ti_eq2, binA, binI, intOp, funOf_v, cloOf_v, calIds, appEff, frE, foldB, foldS, castL_self, K.enc, K.dec, K.zero, K.es, K.bytes, AV.part, AV.setPart, AV.cells, AV.agg, AV.nth, Bool.false_eq_true, callEff, pubs, pub, nilAV, MM.upd, MM.set, argS, gdst, opIds, lids, AV.ids, List.getD_cons_succ, List.getD_cons_zero, List.map, List.tail, List.headD, List.nil_append, List.append_nil, List.cons_append, List.length_nil, List.length_cons, List.zip_cons_cons, List.zip_nil_right, List.set_cons_zero, List.set_cons_succ, List.replicate, Option.isSome_some, Option.map_some, Bool.not_true, Bool.not_false, forall_const, false_implies, Nat.reduceAdd, Nat.reduceEqDiff, Nat.reduceLT, Nat.reduceSub, Nat.reduceMul, Nat.reduceLeDiff, ↓reduceIte, and_true, true_and, and_self, false_and, and_false, reduceCtorEq, env30]) | (with_reducible refine run_cond (by with_unfolding_all exact rfl) ?_ ?_ <;> intro hc <;> (try simp only [vb, decide_eq_true_eq, decide_eq_false_iff_not, beq_iff_eq, beq_eq_false_iff_ne, bne_iff_ne, bne_eq_false_iff_eq, Bool.not_eq_true', Bool.not_eq_false', reduceCtorEq] at hc) <;> (try (first | simp (disch := omega) only [wrap64, wrapu64, wrapu32, sh32, fdiv32, Int.tdiv_eq_ediv_of_nonneg, Int.tmod_eq_emod_of_nonneg, tn_add, tn_add1, Int.toNat_natCast, Int.toNat_zero, List.drop_zero] at hc | simp only [wrapu64m, wrapu32m] at hc))) | ((with_reducible refine compat_ok ?_); kernel_rfl) | with_reducible apply And.intro | (first | simp (disch := omega) only [wrap64, wrapu64, wrapu32, sh32, fdiv32, Int.tdiv_eq_ediv_of_nonneg, Int.tmod_eq_emod_of_nonneg, tn_add, tn_add1, Int.toNat_natCast, Int.toNat_zero, List.drop_zero] | simp only [wrapu64m, wrapu32m]) | (with_reducible intro hg; (try simp only [vb, decide_eq_true_eq, decide_eq_false_iff_not, beq_iff_eq, beq_eq_false_iff_ne, bne_iff_ne, bne_eq_false_iff_eq, Bool.not_eq_true', Bool.not_eq_false', reduceCtorEq] at hg); (try (first | simp (disch := omega) only [wrap64, wrapu64, wrapu32, sh32, fdiv32, Int.tdiv_eq_ediv_of_nonneg, Int.tmod_eq_emod_of_nonneg, tn_add, tn_add1, Int.toNat_natCast, Int.toNat_zero, List.drop_zero] at hg | simp only [wrapu64m, wrapu32m] at hg))))
  all_goals try omega
  refine run_loop (ι := Nat) (fun i => ⟨[(4, vi i), (3, .row 0), (0, .lst .u32 ws)], [(0, some (.row 3 .i64 (halvL (ws.take i)) false))], 1⟩) (fun i => i ≤ ws.length) (fun i => ws.length - i) 0 (Nat.zero_le _) ?_ ?_
  · (refine AS.le_ren [(0, none)] ?_ ?_ rfl <;> simp only [slLeR, memLeR, entLeR, rn, entLe, lkS, lkM, Nat.reduceEqDiff, Nat.reduceLT, Nat.reduceAdd, or_true, true_or, reduceCtorEq, ↓reduceIte, and_true, true_and] <;> (repeat' with_reducible apply And.intro) <;> (try (first | exact AV.leR_ptr (Nat.le_of_ble_eq_true rfl) rfl | exact AV.leR_row (Nat.le_of_ble_eq_true rfl) rfl | exact AV.leR_nil (Nat.le_of_ble_eq_true rfl) rfl | exact AV.leR_ep (Nat.le_of_ble_eq_true rfl) rfl | ((with_reducible refine AV.leR_of rfl ?_); try (first | ((with_reducible refine AV.le_refl ?_); rfl) | with_reducible exact AV.le_junk | with_reducible exact AV.le_nil | ((with_reducible refine AV.le_int ?_); omega) | (with_reducible refine AV.le_int ?_) | (with_reducible refine AV.le_bool ?_) | ((with_reducible refine AV.le_lst ?_); try rfl) | (with_reducible refine AV.le_q ?_ ?_ ?_) | exact fun _ _ h => h | (with_reducible refine RC_qle ?_ ?_ ?_))) | exact fun _ _ h => h)))
    rfl
  intro i hi
  have hl := (hv_halvL (ws := ws.take i) (fun x hx => ok0 x (List.mem_of_mem_take hx))).2.2
  have hlen := List.length_take_le i ws
  have hx := okW_getD ok0 i
  repeat' (first | with_reducible refine run_seq ?_ | with_reducible refine run_block ?_ | with_reducible refine step_code ?_ | with_reducible refine step_blk ?_ | with_reducible refine run_skip ?_ | with_reducible refine run_exit ?_ | with_reducible refine exits_code ?_ | with_reducible refine exits_here ?_ | with_reducible refine exits_blk rfl ?_ | with_reducible refine exits_lp ?_ | with_reducible refine run_ret ?_ | ((first | with_reducible refine run_region ?_ | with_reducible refine run_draw (by kernel_rfl) ?_); simp only [↓guardP_tt, ↓guardP_tf, ↓guardP_ft, ↓guardP_ff, guardP_t, guardP_f, evalQ, evalR, effQ, effR, skipS, opEff, evO, plainV, lkS, lkM, updL, putS, tie_sz, tie_zero, tie_zeroB, tie_fld, tie_ek, tie_int, tie_isb, tie_eq2, tie_f1, tie_ms, tie2_sz, tie2_zero, tie2_zeroB, tie2_fld, tie2_ek, tie2_int, tie2_isb, tie2_eq2, tie2_f1, tie2_ms, ti_ek2, ti_f1, ti_ms, ti_sz, ti_zero, ti_zeroB, ti_fld, ti_ek, ti_int, ti_isb, ti_eq2, binA, binI, intOp, funOf_v, cloOf_v, calIds, appEff, frE, foldB, foldS, castL_self, K.enc, K.dec, K.zero, K.es, K.bytes, AV.part, AV.setPart, AV.cells, AV.agg, AV.nth, Bool.false_eq_true, callEff, pubs, pub, nilAV, MM.upd, MM.set, argS, gdst, opIds, lids, AV.ids, List.getD_cons_succ, List.getD_cons_zero, List.map, List.tail, List.headD, List.nil_append, List.append_nil, List.cons_append, List.length_nil, List.length_cons, List.zip_cons_cons, List.zip_nil_right, List.set_cons_zero, List.set_cons_succ, List.replicate, Option.isSome_some, Option.map_some, Bool.not_true, Bool.not_false, forall_const, false_implies, Nat.reduceAdd, Nat.reduceEqDiff, Nat.reduceLT, Nat.reduceSub, Nat.reduceMul, Nat.reduceLeDiff, ↓reduceIte, and_true, true_and, and_self, false_and, and_false, reduceCtorEq, env30, ctTrimH]) | (with_reducible refine run_cond (by with_unfolding_all exact rfl) ?_ ?_ <;> intro hc <;> (try simp only [vb, decide_eq_true_eq, decide_eq_false_iff_not, beq_iff_eq, beq_eq_false_iff_ne, bne_iff_ne, bne_eq_false_iff_eq, Bool.not_eq_true', Bool.not_eq_false', reduceCtorEq] at hc) <;> (try (first | simp (disch := omega) only [wrap64, wrapu64, wrapu32, sh32, fdiv32, Int.tdiv_eq_ediv_of_nonneg, Int.tmod_eq_emod_of_nonneg, tn_add, tn_add1, Int.toNat_natCast, Int.toNat_zero, List.drop_zero] at hc | simp only [wrapu64m, wrapu32m] at hc))) | ((with_reducible refine compat_ok ?_); kernel_rfl) | with_reducible apply And.intro | (first | simp (disch := omega) only [wrap64, wrapu64, wrapu32, sh32, fdiv32, Int.tdiv_eq_ediv_of_nonneg, Int.tmod_eq_emod_of_nonneg, tn_add, tn_add1, Int.toNat_natCast, Int.toNat_zero, List.drop_zero] | simp only [wrapu64m, wrapu32m]) | (with_reducible intro hg; (try simp only [vb, decide_eq_true_eq, decide_eq_false_iff_not, beq_iff_eq, beq_eq_false_iff_ne, bne_iff_ne, bne_eq_false_iff_eq, Bool.not_eq_true', Bool.not_eq_false', reduceCtorEq] at hg); (try (first | simp (disch := omega) only [wrap64, wrapu64, wrapu32, sh32, fdiv32, Int.tdiv_eq_ediv_of_nonneg, Int.tmod_eq_emod_of_nonneg, tn_add, tn_add1, Int.toNat_natCast, Int.toNat_zero, List.drop_zero] at hg | simp only [wrapu64m, wrapu32m] at hg))))
  all_goals try omega
  · refine step_lp ⟨i + 1, by omega, by omega, ?_⟩
    rw [halvL_take (by omega)]
    (refine AS.le_ren [(0, some 19)] ?_ ?_ rfl <;> simp only [slLeR, memLeR, entLeR, rn, entLe, lkS, lkM, Nat.reduceEqDiff, Nat.reduceLT, Nat.reduceAdd, or_true, true_or, reduceCtorEq, ↓reduceIte, and_true, true_and] <;> (repeat' with_reducible apply And.intro) <;> (try (first | exact AV.leR_ptr (Nat.le_of_ble_eq_true rfl) rfl | exact AV.leR_row (Nat.le_of_ble_eq_true rfl) rfl | exact AV.leR_nil (Nat.le_of_ble_eq_true rfl) rfl | exact AV.leR_ep (Nat.le_of_ble_eq_true rfl) rfl | ((with_reducible refine AV.leR_of rfl ?_); try (first | ((with_reducible refine AV.le_refl ?_); rfl) | with_reducible exact AV.le_junk | with_reducible exact AV.le_nil | ((with_reducible refine AV.le_int ?_); omega) | (with_reducible refine AV.le_int ?_) | (with_reducible refine AV.le_bool ?_) | ((with_reducible refine AV.le_lst ?_); try rfl) | (with_reducible refine AV.le_q ?_ ?_ ?_) | exact fun _ _ h => h | (with_reducible refine RC_qle ?_ ?_ ?_))) | exact fun _ _ h => h)))
  · simp only [finR, resAs, resA, resLe, lsLe, lkS, lkM, pubs, pub, tie_sz, ti_sz, tie_ek, ti_ek, tie2_sz, tie2_ek, ti_ek2, nilAV, MM.upd, MM.set, AV.part, AV.cells, AV.agg, List.tail, List.headD, Nat.reduceAdd, Nat.reduceEqDiff, Nat.reduceLT, ↓reduceIte, and_true, true_and, and_self, reduceCtorEq]
    refine AVle_lst ?_
    rw [show i = ws.length by omega, List.take_length]; rfl
def ctAtH : Ct := fun l => match l with
  | [.lst .i64 h, .v (.int .i64 i)] => some (0 ≤ i ∧ h.length ≤ 1099511627776, vi (h.getD i.toNat 0))
  | _ => none
theorem ok144 : Sound Tryz.prog 144 ctAtH := by
  refine sound_of (fn := Tryz.f144) rfl rfl rfl tiOk env0_ok mix ?_ (by intro l p r h; unfold ctAtH at h; split at h <;> cases h <;> exact Nat.le_of_ble_eq_true rfl)
  intro l p r h hp F vs hv
  unfold ctAtH at h
  split at h <;> cases h
  rename_i h i
  obtain ⟨v0, rest0, rfl, a0, hv⟩ := hv
  obtain ⟨v1, rest1, rfl, a1, hv⟩ := hv
  refine ⟨[_, _], ⟨_, _, rfl, a0, _, _, rfl, a1, hv⟩, ?_⟩
  show Run Tryz.prog ti env0 13 (finR ti [.tmp 4] _) _ _ _
  repeat' (first | with_reducible refine run_seq ?_ | with_reducible refine run_block ?_ | with_reducible refine step_code ?_ | with_reducible refine step_blk ?_ | with_reducible refine run_skip ?_ | with_reducible refine run_exit ?_ | with_reducible refine exits_code ?_ | with_reducible refine exits_here ?_ | with_reducible refine exits_blk rfl ?_ | with_reducible refine exits_lp ?_ | with_reducible refine run_ret ?_ | ((first | with_reducible refine run_region ?_ | with_reducible refine run_draw (by kernel_rfl) ?_); simp only [↓guardP_tt, ↓guardP_tf, ↓guardP_ft, ↓guardP_ff, guardP_t, guardP_f, evalQ, evalR, effQ, effR, skipS, opEff, evO, plainV, lkS, lkM, updL, putS, tie_sz, tie_zero, tie_zeroB, tie_fld, tie_ek, tie_int, tie_isb, tie_eq2, tie_f1, tie_ms, tie2_sz, tie2_zero, tie2_zeroB, tie2_fld, tie2_ek, tie2_int, tie2_isb, tie2_eq2, tie2_f1, tie2_ms, ti_ek2, ti_f1, ti_ms, ti_sz, ti_zero, ti_zeroB, ti_fld, ti_ek, ti_int, ti_isb, ti_eq2, binA, binI, intOp, funOf_v, cloOf_v, calIds, appEff, frE, foldB, foldS, castL_self, K.enc, K.dec, K.zero, K.es, K.bytes, AV.part, AV.setPart, AV.cells, AV.agg, AV.nth, Bool.false_eq_true, callEff, pubs, pub, nilAV, MM.upd, MM.set, argS, gdst, opIds, lids, AV.ids, List.getD_cons_succ, List.getD_cons_zero, List.map, List.tail, List.headD, List.nil_append, List.append_nil, List.cons_append, List.length_nil, List.length_cons, List.zip_cons_cons, List.zip_nil_right, List.set_cons_zero, List.set_cons_succ, List.replicate, Option.isSome_some, Option.map_some, Bool.not_true, Bool.not_false, forall_const, false_implies, Nat.reduceAdd, Nat.reduceEqDiff, Nat.reduceLT, Nat.reduceSub, Nat.reduceMul, Nat.reduceLeDiff, ↓reduceIte, and_true, true_and, and_self, false_and, and_false, reduceCtorEq, env0]) | (with_reducible refine run_cond (by with_unfolding_all exact rfl) ?_ ?_ <;> intro hc <;> (try simp only [vb, decide_eq_true_eq, decide_eq_false_iff_not, beq_iff_eq, beq_eq_false_iff_ne, bne_iff_ne, bne_eq_false_iff_eq, Bool.not_eq_true', Bool.not_eq_false', reduceCtorEq] at hc) <;> (try (first | simp (disch := omega) only [wrap64, wrapu64, wrapu32, sh32, fdiv32, Int.tdiv_eq_ediv_of_nonneg, Int.tmod_eq_emod_of_nonneg, tn_add, tn_add1, Int.toNat_natCast, Int.toNat_zero, List.drop_zero] at hc | simp only [wrapu64m, wrapu32m] at hc))) | ((with_reducible refine compat_ok ?_); kernel_rfl) | with_reducible apply And.intro | (first | simp (disch := omega) only [wrap64, wrapu64, wrapu32, sh32, fdiv32, Int.tdiv_eq_ediv_of_nonneg, Int.tmod_eq_emod_of_nonneg, tn_add, tn_add1, Int.toNat_natCast, Int.toNat_zero, List.drop_zero] | simp only [wrapu64m, wrapu32m]) | (with_reducible intro hg; (try simp only [vb, decide_eq_true_eq, decide_eq_false_iff_not, beq_iff_eq, beq_eq_false_iff_ne, bne_iff_ne, bne_eq_false_iff_eq, Bool.not_eq_true', Bool.not_eq_false', reduceCtorEq] at hg); (try (first | simp (disch := omega) only [wrap64, wrapu64, wrapu32, sh32, fdiv32, Int.tdiv_eq_ediv_of_nonneg, Int.tmod_eq_emod_of_nonneg, tn_add, tn_add1, Int.toNat_natCast, Int.toNat_zero, List.drop_zero] at hg | simp only [wrapu64m, wrapu32m] at hg))))
  all_goals try omega
  · simp only [finR, resAs, resA, resLe, lsLe, lkS, lkM, pubs, pub, tie_sz, ti_sz, tie_ek, ti_ek, tie2_sz, tie2_ek, ti_ek2, nilAV, MM.upd, MM.set, AV.part, AV.cells, AV.agg, List.tail, List.headD, Nat.reduceAdd, Nat.reduceEqDiff, Nat.reduceLT, ↓reduceIte, and_true, true_and, and_self, reduceCtorEq]
    exact AVle.rfl
  · simp only [finR, resAs, resA, resLe, lsLe, lkS, lkM, pubs, pub, tie_sz, ti_sz, tie_ek, ti_ek, tie2_sz, tie2_ek, ti_ek2, nilAV, MM.upd, MM.set, AV.part, AV.cells, AV.agg, List.tail, List.headD, Nat.reduceAdd, Nat.reduceEqDiff, Nat.reduceLT, ↓reduceIte, and_true, true_and, and_self, reduceCtorEq]
    refine AVle_int ?_
    rw [List.getD_eq_getElem?_getD, List.getElem?_eq_none (by omega)]; rfl
def env31 : Env := fun g => match g with | 142 => some ctTrimH | 144 => some ctAtH | _ => none
theorem env31_ok : EnvOk Tryz.prog env31 := by
  intro g ct h
  simp only [env31] at h
  split at h <;> first | (cases h; exact ok142) | (cases h; exact ok144) | cases h
def ctOfH : Ct := fun l => match l with
  | [.v (.bool neg), .lst .i64 h] => some (h.length ≤ 1099511627776 ∧ okH h, .z (if neg = true then - hv h else hv h) true ((h.length + 1) / 2))
  | _ => none
theorem ok125 : Sound Tryz.prog 125 ctOfH := by
  refine sound_of (fn := Tryz.f125) rfl rfl rfl tiOk env31_ok mix ?_ (by intro l p r h; unfold ctOfH at h; split at h <;> cases h <;> exact Nat.le_of_ble_eq_true rfl)
  intro l p r h hp F vs hv
  unfold ctOfH at h
  split at h <;> cases h
  rename_i neg h
  obtain ⟨v0, rest0, rfl, a0, hv⟩ := hv
  obtain ⟨v1, rest1, rfl, a1, hv⟩ := hv
  refine ⟨[_, _], ⟨_, _, rfl, a0, _, _, rfl, a1, hv⟩, ?_⟩
  obtain ⟨hp1, hp2⟩ := hp
  have htl := trimL_length h
  have hto := okH_trimL hp2
  show Run Tryz.prog ti env31 37 (finR ti [.cell 4 25] _) _ _ _
  repeat' (first | with_reducible refine run_seq ?_ | with_reducible refine run_block ?_ | with_reducible refine step_code ?_ | with_reducible refine step_blk ?_ | with_reducible refine run_skip ?_ | with_reducible refine run_exit ?_ | with_reducible refine exits_code ?_ | with_reducible refine exits_here ?_ | with_reducible refine exits_blk rfl ?_ | with_reducible refine exits_lp ?_ | with_reducible refine run_ret ?_ | ((first | with_reducible refine run_region ?_ | with_reducible refine run_draw (by kernel_rfl) ?_); simp only [↓guardP_tt, ↓guardP_tf, ↓guardP_ft, ↓guardP_ff, guardP_t, guardP_f, evalQ, evalR, effQ, effR, skipS, opEff, evO, plainV, lkS, lkM, updL, putS, tie_sz, tie_zero, tie_zeroB, tie_fld, tie_ek, tie_int, tie_isb, tie_eq2, tie_f1, tie_ms, tie2_sz, tie2_zero, tie2_zeroB, tie2_fld, tie2_ek, tie2_int, tie2_isb, tie2_eq2, tie2_f1, tie2_ms, ti_ek2, ti_f1, ti_ms, ti_sz, ti_zero, ti_zeroB, ti_fld, ti_ek, ti_int, ti_isb, ti_eq2, binA, binI, intOp, funOf_v, cloOf_v, calIds, appEff, frE, foldB, foldS, castL_self, K.enc, K.dec, K.zero, K.es, K.bytes, AV.part, AV.setPart, AV.cells, AV.agg, AV.nth, Bool.false_eq_true, callEff, pubs, pub, nilAV, MM.upd, MM.set, argS, gdst, opIds, lids, AV.ids, List.getD_cons_succ, List.getD_cons_zero, List.map, List.tail, List.headD, List.nil_append, List.append_nil, List.cons_append, List.length_nil, List.length_cons, List.zip_cons_cons, List.zip_nil_right, List.set_cons_zero, List.set_cons_succ, List.replicate, Option.isSome_some, Option.map_some, Bool.not_true, Bool.not_false, forall_const, false_implies, Nat.reduceAdd, Nat.reduceEqDiff, Nat.reduceLT, Nat.reduceSub, Nat.reduceMul, Nat.reduceLeDiff, ↓reduceIte, and_true, true_and, and_self, false_and, and_false, reduceCtorEq, env31, ctTrimH]) | (with_reducible refine run_cond (by with_unfolding_all exact rfl) ?_ ?_ <;> intro hc <;> (try simp only [vb, decide_eq_true_eq, decide_eq_false_iff_not, beq_iff_eq, beq_eq_false_iff_ne, bne_iff_ne, bne_eq_false_iff_eq, Bool.not_eq_true', Bool.not_eq_false', reduceCtorEq] at hc) <;> (try (first | simp (disch := omega) only [wrap64, wrapu64, wrapu32, sh32, fdiv32, Int.tdiv_eq_ediv_of_nonneg, Int.tmod_eq_emod_of_nonneg, tn_add, tn_add1, Int.toNat_natCast, Int.toNat_zero, List.drop_zero] at hc | simp only [wrapu64m, wrapu32m] at hc))) | ((with_reducible refine compat_ok ?_); kernel_rfl) | with_reducible apply And.intro | (first | simp (disch := omega) only [wrap64, wrapu64, wrapu32, sh32, fdiv32, Int.tdiv_eq_ediv_of_nonneg, Int.tmod_eq_emod_of_nonneg, tn_add, tn_add1, Int.toNat_natCast, Int.toNat_zero, List.drop_zero] | simp only [wrapu64m, wrapu32m]) | (with_reducible intro hg; (try simp only [vb, decide_eq_true_eq, decide_eq_false_iff_not, beq_iff_eq, beq_eq_false_iff_ne, bne_iff_ne, bne_eq_false_iff_eq, Bool.not_eq_true', Bool.not_eq_false', reduceCtorEq] at hg); (try (first | simp (disch := omega) only [wrap64, wrapu64, wrapu32, sh32, fdiv32, Int.tdiv_eq_ediv_of_nonneg, Int.tmod_eq_emod_of_nonneg, tn_add, tn_add1, Int.toNat_natCast, Int.toNat_zero, List.drop_zero] at hg | simp only [wrapu64m, wrapu32m] at hg))))
  all_goals try omega
  refine run_loop (ι := Nat) (fun i => ⟨[(6, vi i), (5, .row 1), (4, .ptr 0 0), (1, .lst .i64 (trimL h)), (0, vb neg)], [(1, some (.row 59 .u32 (pairL ((trimL h).take i)) false)), (0, some (.box 25 (.pair (vb false) (.lst .u32 []))))], 2⟩) (fun i => i ≤ (trimL h).length + 1 ∧ i % 2 = 0) (fun i => (trimL h).length + 1 - i) 0 ⟨Nat.zero_le _, rfl⟩ ?_ ?_
  · (refine AS.le_ren [(1, none)] ?_ ?_ rfl <;> simp only [slLeR, memLeR, entLeR, rn, entLe, lkS, lkM, Nat.reduceEqDiff, Nat.reduceLT, Nat.reduceAdd, or_true, true_or, reduceCtorEq, ↓reduceIte, and_true, true_and] <;> (repeat' with_reducible apply And.intro) <;> (try (first | exact AV.leR_ptr (Nat.le_of_ble_eq_true rfl) rfl | exact AV.leR_row (Nat.le_of_ble_eq_true rfl) rfl | exact AV.leR_nil (Nat.le_of_ble_eq_true rfl) rfl | exact AV.leR_ep (Nat.le_of_ble_eq_true rfl) rfl | ((with_reducible refine AV.leR_of rfl ?_); try (first | ((with_reducible refine AV.le_refl ?_); rfl) | with_reducible exact AV.le_junk | with_reducible exact AV.le_nil | ((with_reducible refine AV.le_int ?_); omega) | (with_reducible refine AV.le_int ?_) | (with_reducible refine AV.le_bool ?_) | ((with_reducible refine AV.le_lst ?_); try rfl) | (with_reducible refine AV.le_q ?_ ?_ ?_) | exact fun _ _ h => h | (with_reducible refine RC_qle ?_ ?_ ?_))) | exact fun _ _ h => h)))
    rfl
  rintro i ⟨hi, hm⟩
  have hpl := pairL_length ((trimL h).take i)
  have hlen := List.length_take_le i (trimL h)
  have hx : 0 ≤ (trimL h).getD i 0 ∧ (trimL h).getD i 0 < 65536 := by
    rw [List.getD_eq_getElem?_getD]
    by_cases hlt : i < (trimL h).length
    · rw [List.getElem?_eq_getElem hlt]; exact hto _ (List.getElem_mem _)
    · rw [List.getElem?_eq_none (by omega)]; decide
  have hy : 0 ≤ (trimL h).getD (i + 1) 0 ∧ (trimL h).getD (i + 1) 0 < 65536 := by
    rw [List.getD_eq_getElem?_getD]
    by_cases hlt : i + 1 < (trimL h).length
    · rw [List.getElem?_eq_getElem hlt]; exact hto _ (List.getElem_mem _)
    · rw [List.getElem?_eq_none (by omega)]; decide
  repeat' (first | with_reducible refine run_seq ?_ | with_reducible refine run_block ?_ | with_reducible refine step_code ?_ | with_reducible refine step_blk ?_ | with_reducible refine run_skip ?_ | with_reducible refine run_exit ?_ | with_reducible refine exits_code ?_ | with_reducible refine exits_here ?_ | with_reducible refine exits_blk rfl ?_ | with_reducible refine exits_lp ?_ | with_reducible refine run_ret ?_ | ((first | with_reducible refine run_region ?_ | with_reducible refine run_draw (by kernel_rfl) ?_); simp only [↓guardP_tt, ↓guardP_tf, ↓guardP_ft, ↓guardP_ff, guardP_t, guardP_f, evalQ, evalR, effQ, effR, skipS, opEff, evO, plainV, lkS, lkM, updL, putS, tie_sz, tie_zero, tie_zeroB, tie_fld, tie_ek, tie_int, tie_isb, tie_eq2, tie_f1, tie_ms, tie2_sz, tie2_zero, tie2_zeroB, tie2_fld, tie2_ek, tie2_int, tie2_isb, tie2_eq2, tie2_f1, tie2_ms, ti_ek2, ti_f1, ti_ms, ti_sz, ti_zero, ti_zeroB, ti_fld, ti_ek, ti_int, ti_isb, ti_eq2, binA, binI, intOp, funOf_v, cloOf_v, calIds, appEff, frE, foldB, foldS, castL_self, K.enc, K.dec, K.zero, K.es, K.bytes, AV.part, AV.setPart, AV.cells, AV.agg, AV.nth, Bool.false_eq_true, callEff, pubs, pub, nilAV, MM.upd, MM.set, argS, gdst, opIds, lids, AV.ids, List.getD_cons_succ, List.getD_cons_zero, List.map, List.tail, List.headD, List.nil_append, List.append_nil, List.cons_append, List.length_nil, List.length_cons, List.zip_cons_cons, List.zip_nil_right, List.set_cons_zero, List.set_cons_succ, List.replicate, Option.isSome_some, Option.map_some, Bool.not_true, Bool.not_false, forall_const, false_implies, Nat.reduceAdd, Nat.reduceEqDiff, Nat.reduceLT, Nat.reduceSub, Nat.reduceMul, Nat.reduceLeDiff, ↓reduceIte, and_true, true_and, and_self, false_and, and_false, reduceCtorEq, env31, ctAtH]) | (with_reducible refine run_cond (by with_unfolding_all exact rfl) ?_ ?_ <;> intro hc <;> (try simp only [vb, decide_eq_true_eq, decide_eq_false_iff_not, beq_iff_eq, beq_eq_false_iff_ne, bne_iff_ne, bne_eq_false_iff_eq, Bool.not_eq_true', Bool.not_eq_false', reduceCtorEq] at hc) <;> (try (first | simp (disch := omega) only [wrap64, wrapu64, wrapu32, sh32, fdiv32, Int.tdiv_eq_ediv_of_nonneg, Int.tmod_eq_emod_of_nonneg, tn_add, tn_add1, Int.toNat_natCast, Int.toNat_zero, List.drop_zero] at hc | simp only [wrapu64m, wrapu32m] at hc))) | ((with_reducible refine compat_ok ?_); kernel_rfl) | with_reducible apply And.intro | (first | simp (disch := omega) only [wrap64, wrapu64, wrapu32, sh32, fdiv32, Int.tdiv_eq_ediv_of_nonneg, Int.tmod_eq_emod_of_nonneg, tn_add, tn_add1, Int.toNat_natCast, Int.toNat_zero, List.drop_zero] | simp only [wrapu64m, wrapu32m]) | (with_reducible intro hg; (try simp only [vb, decide_eq_true_eq, decide_eq_false_iff_not, beq_iff_eq, beq_eq_false_iff_ne, bne_iff_ne, bne_eq_false_iff_eq, Bool.not_eq_true', Bool.not_eq_false', reduceCtorEq] at hg); (try (first | simp (disch := omega) only [wrap64, wrapu64, wrapu32, sh32, fdiv32, Int.tdiv_eq_ediv_of_nonneg, Int.tmod_eq_emod_of_nonneg, tn_add, tn_add1, Int.toNat_natCast, Int.toNat_zero, List.drop_zero] at hg | simp only [wrapu64m, wrapu32m] at hg))))
  all_goals try omega
  · refine step_lp ⟨i + 2, ⟨by omega, by omega⟩, by omega, ?_⟩
    rw [pairL_take hm (by omega)]
    (refine AS.le_ren [(1, some 19)] ?_ ?_ rfl <;> simp only [slLeR, memLeR, entLeR, rn, entLe, lkS, lkM, Nat.reduceEqDiff, Nat.reduceLT, Nat.reduceAdd, or_true, true_or, reduceCtorEq, ↓reduceIte, and_true, true_and] <;> (repeat' with_reducible apply And.intro) <;> (try (first | exact AV.leR_ptr (Nat.le_of_ble_eq_true rfl) rfl | exact AV.leR_row (Nat.le_of_ble_eq_true rfl) rfl | exact AV.leR_nil (Nat.le_of_ble_eq_true rfl) rfl | exact AV.leR_ep (Nat.le_of_ble_eq_true rfl) rfl | ((with_reducible refine AV.leR_of rfl ?_); try (first | ((with_reducible refine AV.le_refl ?_); rfl) | with_reducible exact AV.le_junk | with_reducible exact AV.le_nil | ((with_reducible refine AV.le_int ?_); omega) | (with_reducible refine AV.le_int ?_) | (with_reducible refine AV.le_bool ?_) | ((with_reducible refine AV.le_lst ?_); try rfl) | (with_reducible refine AV.le_q ?_ ?_ ?_) | exact fun _ _ h => h | (with_reducible refine RC_qle ?_ ?_ ?_))) | exact fun _ _ h => h)))
  all_goals
    have hof := of_z (neg := neg) hp2
    have htk : (trimL h).take i = trimL h := List.take_of_length_le (by omega)
    rw [hg] at hof ⊢
    simp only [finR, resAs, resA, resLe, lsLe, lkS, lkM, pubs, pub, tie_sz, ti_sz, tie_ek, ti_ek, tie2_sz, tie2_ek, ti_ek2, nilAV, MM.upd, MM.set, AV.part, AV.cells, AV.agg, List.tail, List.headD, Nat.reduceAdd, Nat.reduceEqDiff, Nat.reduceLT, ↓reduceIte, and_true, true_and, and_self, reduceCtorEq]
    rw [htk]
    simp only [Bool.false_eq_true, ↓reduceIte, gt_iff_lt] at hof ⊢
    exact AVle_z (by rw [pairL_length]; omega) hof.1.symm (fun _ => hof.2)
/-- An integer, as a value or open. -/
def zA : AV → Option (Int × Nat)
  | .z x _ s => some (x, s)
  | .pair (.v (.bool n)) (.lst .u32 ws) => some (zval n ws, ws.length)
  | _ => none
theorem zA_open {F : Fz} {a : AV} {x : Int} {s : Nat} (h : zA a = some (x, s)) {v : Value} (hv : RVp F a v) : ∃ neg ws, RVp F (.pair (vb neg) (.lst .u32 ws)) v ∧ okW ws ∧ ws.length ≤ s ∧ x = zval neg ws := by
  unfold zA at h
  split at h <;> cases h
  · obtain ⟨neg, ws, h1, h2, h3, h4, _⟩ := open_z hv
    exact ⟨neg, ws, h1, h2, h3, h4⟩
  · exact ⟨_, _, hv, okW_pair hv, Nat.le_refl _, rfl⟩
def env32 : Env := fun g => match g with | 118 => some ctHalves | 125 => some ctOfH | _ => none
theorem env32_ok : EnvOk Tryz.prog env32 := by
  intro g ct h
  simp only [env32] at h
  split at h <;> first | (cases h; exact ok118) | (cases h; exact ok125) | cases h
def ctLeastZ : Ct := fun l => match l with
  | [a] => match zA a with
    | some (x, s) => some (s ≤ 1073741824, .z x true s)
    | none => none
  | _ => none
theorem ok117 : Sound Tryz.prog 117 ctLeastZ := by
  refine sound_of (fn := Tryz.f117) rfl rfl rfl tiOk env32_ok mix ?_ (by intro l p r h; unfold ctLeastZ at h; split at h <;> first | cases h | (split at h <;> cases h; exact Nat.le_of_ble_eq_true rfl))
  intro l p r h hp F vs hv
  unfold ctLeastZ at h
  split at h
  rotate_left
  · cases h
  split at h <;> cases h
  rename_i az _ x s ha
  obtain ⟨v0, r0, rfl, a0, hv⟩ := hv
  obtain ⟨n0, w0, a0, ok0, len0, val0⟩ := zA_open ha a0
  refine ⟨[_], ⟨_, _, rfl, a0, hv⟩, ?_⟩
  obtain ⟨h1, h2, h3⟩ := hv_halvL ok0
  have h4 := trimL_length (halvL w0)
  show Run Tryz.prog ti env32 9 (finR ti [.cell 2 25] _) _ _ _
  repeat' (first | with_reducible refine run_seq ?_ | with_reducible refine run_block ?_ | with_reducible refine step_code ?_ | with_reducible refine step_blk ?_ | with_reducible refine run_skip ?_ | with_reducible refine run_exit ?_ | with_reducible refine exits_code ?_ | with_reducible refine exits_here ?_ | with_reducible refine exits_blk rfl ?_ | with_reducible refine exits_lp ?_ | with_reducible refine run_ret ?_ | ((first | with_reducible refine run_region ?_ | with_reducible refine run_draw (by kernel_rfl) ?_); simp only [↓guardP_tt, ↓guardP_tf, ↓guardP_ft, ↓guardP_ff, guardP_t, guardP_f, evalQ, evalR, effQ, effR, skipS, opEff, evO, plainV, lkS, lkM, updL, putS, tie_sz, tie_zero, tie_zeroB, tie_fld, tie_ek, tie_int, tie_isb, tie_eq2, tie_f1, tie_ms, tie2_sz, tie2_zero, tie2_zeroB, tie2_fld, tie2_ek, tie2_int, tie2_isb, tie2_eq2, tie2_f1, tie2_ms, ti_ek2, ti_f1, ti_ms, ti_sz, ti_zero, ti_zeroB, ti_fld, ti_ek, ti_int, ti_isb, ti_eq2, binA, binI, intOp, funOf_v, cloOf_v, calIds, appEff, frE, foldB, foldS, castL_self, K.enc, K.dec, K.zero, K.es, K.bytes, AV.part, AV.setPart, AV.cells, AV.agg, AV.nth, Bool.false_eq_true, callEff, pubs, pub, nilAV, MM.upd, MM.set, argS, gdst, opIds, lids, AV.ids, List.getD_cons_succ, List.getD_cons_zero, List.map, List.tail, List.headD, List.nil_append, List.append_nil, List.cons_append, List.length_nil, List.length_cons, List.zip_cons_cons, List.zip_nil_right, List.set_cons_zero, List.set_cons_succ, List.replicate, Option.isSome_some, Option.map_some, Bool.not_true, Bool.not_false, forall_const, false_implies, Nat.reduceAdd, Nat.reduceEqDiff, Nat.reduceLT, Nat.reduceSub, Nat.reduceMul, Nat.reduceLeDiff, ↓reduceIte, and_true, true_and, and_self, false_and, and_false, reduceCtorEq, env32, ctHalves, ctOfH, halK]) | (with_reducible refine run_cond (by with_unfolding_all exact rfl) ?_ ?_ <;> intro hc <;> (try simp only [vb, decide_eq_true_eq, decide_eq_false_iff_not, beq_iff_eq, beq_eq_false_iff_ne, bne_iff_ne, bne_eq_false_iff_eq, Bool.not_eq_true', Bool.not_eq_false', reduceCtorEq] at hc) <;> (try (first | simp (disch := omega) only [wrap64, wrapu64, wrapu32, sh32, fdiv32, Int.tdiv_eq_ediv_of_nonneg, Int.tmod_eq_emod_of_nonneg, tn_add, tn_add1, Int.toNat_natCast, Int.toNat_zero, List.drop_zero] at hc | simp only [wrapu64m, wrapu32m] at hc))) | ((with_reducible refine compat_ok ?_); kernel_rfl) | with_reducible apply And.intro | (first | simp (disch := omega) only [wrap64, wrapu64, wrapu32, sh32, fdiv32, Int.tdiv_eq_ediv_of_nonneg, Int.tmod_eq_emod_of_nonneg, tn_add, tn_add1, Int.toNat_natCast, Int.toNat_zero, List.drop_zero] | simp only [wrapu64m, wrapu32m]) | (with_reducible intro hg; (try simp only [vb, decide_eq_true_eq, decide_eq_false_iff_not, beq_iff_eq, beq_eq_false_iff_ne, bne_iff_ne, bne_eq_false_iff_eq, Bool.not_eq_true', Bool.not_eq_false', reduceCtorEq] at hg); (try (first | simp (disch := omega) only [wrap64, wrapu64, wrapu32, sh32, fdiv32, Int.tdiv_eq_ediv_of_nonneg, Int.tmod_eq_emod_of_nonneg, tn_add, tn_add1, Int.toNat_natCast, Int.toNat_zero, List.drop_zero] at hg | simp only [wrapu64m, wrapu32m] at hg))))
  all_goals try omega
  · exact okH_trimL h2
  · simp only [finR, resAs, resA, resLe, lsLe, lkS, lkM, pubs, pub, tie_sz, ti_sz, tie_ek, ti_ek, tie2_sz, tie2_ek, ti_ek2, nilAV, MM.upd, MM.set, AV.part, AV.cells, AV.agg, List.tail, List.headD, Nat.reduceAdd, Nat.reduceEqDiff, Nat.reduceLT, ↓reduceIte, and_true, true_and, and_self, reduceCtorEq]
    refine AVle_zz ?_ (by omega) (fun h => h)
    rw [val0, trimL_hv, h1, zval]
def env33 : Env := fun g => match g with | 117 => some ctLeastZ | _ => none
theorem env33_ok : EnvOk Tryz.prog env33 := by
  intro g ct h
  simp only [env33] at h
  split at h <;> first | (cases h; exact ok117) | cases h
theorem ok88 : Sound Tryz.prog 88 ctFromI := by
  refine sound_of (fn := Tryz.f88) rfl rfl rfl tiOk env33_ok mix ?_ (by intro l p r h; unfold ctFromI at h; split at h <;> cases h <;> exact Nat.le_of_ble_eq_true rfl)
  intro l p r h hp F vs hv
  unfold ctFromI at h
  split at h <;> cases h
  rename_i n
  obtain ⟨v0, rest0, rfl, a0, hv⟩ := hv
  refine ⟨[_], ⟨_, _, rfl, a0, hv⟩, ?_⟩
  show Run Tryz.prog ti env33 21 (finR ti [.cell 2 25] _) _ _ _
  repeat' (first | with_reducible refine run_seq ?_ | with_reducible refine run_block ?_ | with_reducible refine step_code ?_ | with_reducible refine step_blk ?_ | with_reducible refine run_skip ?_ | with_reducible refine run_exit ?_ | with_reducible refine exits_code ?_ | with_reducible refine exits_here ?_ | with_reducible refine exits_blk rfl ?_ | with_reducible refine exits_lp ?_ | with_reducible refine run_ret ?_ | ((first | with_reducible refine run_region ?_ | with_reducible refine run_draw (by kernel_rfl) ?_); simp only [↓guardP_tt, ↓guardP_tf, ↓guardP_ft, ↓guardP_ff, guardP_t, guardP_f, evalQ, evalR, effQ, effR, skipS, opEff, evO, plainV, lkS, lkM, updL, putS, tie_sz, tie_zero, tie_zeroB, tie_fld, tie_ek, tie_int, tie_isb, tie_eq2, tie_f1, tie_ms, tie2_sz, tie2_zero, tie2_zeroB, tie2_fld, tie2_ek, tie2_int, tie2_isb, tie2_eq2, tie2_f1, tie2_ms, ti_ek2, ti_f1, ti_ms, ti_sz, ti_zero, ti_zeroB, ti_fld, ti_ek, ti_int, ti_isb, ti_eq2, binA, binI, intOp, funOf_v, cloOf_v, calIds, appEff, frE, foldB, foldS, castL_self, K.enc, K.dec, K.zero, K.es, K.bytes, AV.part, AV.setPart, AV.cells, AV.agg, AV.nth, Bool.false_eq_true, callEff, pubs, pub, nilAV, MM.upd, MM.set, argS, gdst, opIds, lids, AV.ids, List.getD_cons_succ, List.getD_cons_zero, List.map, List.tail, List.headD, List.nil_append, List.append_nil, List.cons_append, List.length_nil, List.length_cons, List.zip_cons_cons, List.zip_nil_right, List.set_cons_zero, List.set_cons_succ, List.replicate, Option.isSome_some, Option.map_some, Bool.not_true, Bool.not_false, forall_const, false_implies, Nat.reduceAdd, Nat.reduceEqDiff, Nat.reduceLT, Nat.reduceSub, Nat.reduceMul, Nat.reduceLeDiff, ↓reduceIte, and_true, true_and, and_self, false_and, and_false, reduceCtorEq, env33, ctLeastZ, zA]) | (with_reducible refine run_cond (by with_unfolding_all exact rfl) ?_ ?_ <;> intro hc <;> (try simp only [vb, decide_eq_true_eq, decide_eq_false_iff_not, beq_iff_eq, beq_eq_false_iff_ne, bne_iff_ne, bne_eq_false_iff_eq, Bool.not_eq_true', Bool.not_eq_false', reduceCtorEq] at hc) <;> (try (first | simp (disch := omega) only [wrap64, wrapu64, wrapu32, sh32, fdiv32, Int.tdiv_eq_ediv_of_nonneg, Int.tmod_eq_emod_of_nonneg, tn_add, tn_add1, Int.toNat_natCast, Int.toNat_zero, List.drop_zero] at hc | simp only [wrapu64m, wrapu32m] at hc))) | ((with_reducible refine compat_ok ?_); kernel_rfl) | with_reducible apply And.intro | (first | simp (disch := omega) only [wrap64, wrapu64, wrapu32, sh32, fdiv32, Int.tdiv_eq_ediv_of_nonneg, Int.tmod_eq_emod_of_nonneg, tn_add, tn_add1, Int.toNat_natCast, Int.toNat_zero, List.drop_zero] | simp only [wrapu64m, wrapu32m]) | (with_reducible intro hg; (try simp only [vb, decide_eq_true_eq, decide_eq_false_iff_not, beq_iff_eq, beq_eq_false_iff_ne, bne_iff_ne, bne_eq_false_iff_eq, Bool.not_eq_true', Bool.not_eq_false', reduceCtorEq] at hg); (try (first | simp (disch := omega) only [wrap64, wrapu64, wrapu32, sh32, fdiv32, Int.tdiv_eq_ediv_of_nonneg, Int.tmod_eq_emod_of_nonneg, tn_add, tn_add1, Int.toNat_natCast, Int.toNat_zero, List.drop_zero] at hg | simp only [wrapu64m, wrapu32m] at hg))))
  all_goals try omega
  · simp only [finR, resAs, resA, resLe, lsLe, lkS, lkM, pubs, pub, tie_sz, ti_sz, tie_ek, ti_ek, tie2_sz, tie2_ek, ti_ek2, nilAV, MM.upd, MM.set, AV.part, AV.cells, AV.agg, List.tail, List.headD, Nat.reduceAdd, Nat.reduceEqDiff, Nat.reduceLT, ↓reduceIte, and_true, true_and, and_self, reduceCtorEq]
    refine AVle_zz ?_ (by decide) (fun _ => rfl)
    simp only [zval, wv, hc, decide_true, ↓reduceIte]
    omega
  · simp only [finR, resAs, resA, resLe, lsLe, lkS, lkM, pubs, pub, tie_sz, ti_sz, tie_ek, ti_ek, tie2_sz, tie2_ek, ti_ek2, nilAV, MM.upd, MM.set, AV.part, AV.cells, AV.agg, List.tail, List.headD, Nat.reduceAdd, Nat.reduceEqDiff, Nat.reduceLT, ↓reduceIte, and_true, true_and, and_self, reduceCtorEq]
    refine AVle_zz ?_ (by decide) (fun _ => rfl)
    simp only [zval, wv, hc, decide_false, ↓reduceIte]
    simp
    omega
theorem take_eq_succ {α : Type} (z : α) {a b : List α} (h : a.length = b.length) {i : Nat} (hi : i < a.length) : a.take (i + 1) = b.take (i + 1) ↔ a.take i = b.take i ∧ a.getD i z = b.getD i z := by
  have ea : a.take (i + 1) = a.take i ++ [a.getD i z] := by
    rw [List.take_add_one, List.getD_eq_getElem?_getD, List.getElem?_eq_getElem hi]; rfl
  have eb : b.take (i + 1) = b.take i ++ [b.getD i z] := by
    rw [List.take_add_one, List.getD_eq_getElem?_getD, List.getElem?_eq_getElem (h ▸ hi)]; rfl
  rw [ea, eb]
  constructor
  · intro h2
    have := List.append_inj h2 (by simp; omega)
    exact ⟨this.1, by simpa using this.2⟩
  · rintro ⟨h1, h2⟩; rw [h1, h2]
def ctSameZ : Ct := fun l => match l with
  | [.z x true s, .z y true t] => some (s ≤ 1099511627776 ∧ t ≤ 1099511627776, vb (decide (x = y)))
  | _ => none
theorem zval_inj {n m : Bool} {a b : List Int} (ha : okW a) (hb : okW b) (ca : canonZ n a) (cb : canonZ m b) (h : zval n a = zval m b) : n = m ∧ a = b := by
  have h1 := wv_nonneg ha
  have h2 := wv_nonneg hb
  have key : ∀ {k : Bool} {l : List Int}, okW l → canonZ k l → zval k l < 0 → k = true := by
    intro k l hl hk hlt
    cases k
    · have := wv_nonneg hl; simp only [zval, Bool.false_eq_true, ↓reduceIte] at hlt; omega
    · rfl
  have pos : ∀ {k : Bool} {l : List Int}, okW l → canonZ k l → k = true → zval k l < 0 := by
    intro k l hl hk hkt
    have := wv_pos hl hk.1 (hk.2 hkt)
    simp only [zval, hkt, ↓reduceIte]; omega
  have hnm : n = m := by
    cases n <;> cases m
    · rfl
    · have := key ha ca (h ▸ pos hb cb rfl); cases this
    · have := key hb cb (h ▸ pos ha ca rfl); cases this
    · rfl
  subst hnm
  refine ⟨rfl, wv_inj ha hb ca.1 cb.1 ?_⟩
  cases n <;> simp only [zval, Bool.false_eq_true, ↓reduceIte] at h <;> omega
theorem ok65 : Sound Tryz.prog 65 ctSameZ := by
  refine sound_of (fn := Tryz.f65) rfl rfl rfl tiOk env0_ok mix ?_ (by intro l p r h; unfold ctSameZ at h; split at h <;> cases h <;> exact Nat.le_of_ble_eq_true rfl)
  intro l p r h hp F vs hv
  unfold ctSameZ at h
  split at h <;> cases h
  rename_i x s y t
  obtain ⟨v0, rest0, rfl, a0, hv⟩ := hv
  obtain ⟨n0, w0, a0, ok0, len0, val0, can0⟩ := open_z a0
  obtain ⟨v1, rest1, rfl, a1, hv⟩ := hv
  obtain ⟨n1, w1, a1, ok1, len1, val1, can1⟩ := open_z a1
  refine ⟨[_, _], ⟨_, _, rfl, a0, _, _, rfl, a1, hv⟩, ?_⟩
  have c0 := can0 rfl
  have c1 := can1 rfl
  have key : x = y ↔ n0 = n1 ∧ w0 = w1 := by
    rw [val0, val1]
    exact ⟨fun h => zval_inj ok0 ok1 c0 c1 h, fun ⟨h1, h2⟩ => by rw [h1, h2]⟩
  show Run Tryz.prog ti env0 38 (finR ti [.tmp 4] _) _ _ _
  repeat' (first | with_reducible refine run_seq ?_ | with_reducible refine run_block ?_ | with_reducible refine step_code ?_ | with_reducible refine step_blk ?_ | with_reducible refine run_skip ?_ | with_reducible refine run_exit ?_ | with_reducible refine exits_code ?_ | with_reducible refine exits_here ?_ | with_reducible refine exits_blk rfl ?_ | with_reducible refine exits_lp ?_ | with_reducible refine run_ret ?_ | ((first | with_reducible refine run_region ?_ | with_reducible refine run_draw (by kernel_rfl) ?_); simp only [↓guardP_tt, ↓guardP_tf, ↓guardP_ft, ↓guardP_ff, guardP_t, guardP_f, evalQ, evalR, effQ, effR, skipS, opEff, evO, plainV, lkS, lkM, updL, putS, tie_sz, tie_zero, tie_zeroB, tie_fld, tie_ek, tie_int, tie_isb, tie_eq2, tie_f1, tie_ms, tie2_sz, tie2_zero, tie2_zeroB, tie2_fld, tie2_ek, tie2_int, tie2_isb, tie2_eq2, tie2_f1, tie2_ms, ti_ek2, ti_f1, ti_ms, ti_sz, ti_zero, ti_zeroB, ti_fld, ti_ek, ti_int, ti_isb, ti_eq2, binA, binI, intOp, funOf_v, cloOf_v, calIds, appEff, frE, foldB, foldS, castL_self, K.enc, K.dec, K.zero, K.es, K.bytes, AV.part, AV.setPart, AV.cells, AV.agg, AV.nth, Bool.false_eq_true, callEff, pubs, pub, nilAV, MM.upd, MM.set, argS, gdst, opIds, lids, AV.ids, List.getD_cons_succ, List.getD_cons_zero, List.map, List.tail, List.headD, List.nil_append, List.append_nil, List.cons_append, List.length_nil, List.length_cons, List.zip_cons_cons, List.zip_nil_right, List.set_cons_zero, List.set_cons_succ, List.replicate, Option.isSome_some, Option.map_some, Bool.not_true, Bool.not_false, forall_const, false_implies, Nat.reduceAdd, Nat.reduceEqDiff, Nat.reduceLT, Nat.reduceSub, Nat.reduceMul, Nat.reduceLeDiff, ↓reduceIte, and_true, true_and, and_self, false_and, and_false, reduceCtorEq, env0]) | (with_reducible refine run_cond (by with_unfolding_all exact rfl) ?_ ?_ <;> intro hc <;> (try simp only [vb, decide_eq_true_eq, decide_eq_false_iff_not, beq_iff_eq, beq_eq_false_iff_ne, bne_iff_ne, bne_eq_false_iff_eq, Bool.not_eq_true', Bool.not_eq_false', reduceCtorEq] at hc) <;> (try (first | simp (disch := omega) only [wrap64, wrapu64, wrapu32, sh32, fdiv32, Int.tdiv_eq_ediv_of_nonneg, Int.tmod_eq_emod_of_nonneg, tn_add, tn_add1, Int.toNat_natCast, Int.toNat_zero, List.drop_zero] at hc | simp only [wrapu64m, wrapu32m] at hc))) | ((with_reducible refine compat_ok ?_); kernel_rfl) | with_reducible apply And.intro | (first | simp (disch := omega) only [wrap64, wrapu64, wrapu32, sh32, fdiv32, Int.tdiv_eq_ediv_of_nonneg, Int.tmod_eq_emod_of_nonneg, tn_add, tn_add1, Int.toNat_natCast, Int.toNat_zero, List.drop_zero] | simp only [wrapu64m, wrapu32m]) | (with_reducible intro hg; (try simp only [vb, decide_eq_true_eq, decide_eq_false_iff_not, beq_iff_eq, beq_eq_false_iff_ne, bne_iff_ne, bne_eq_false_iff_eq, Bool.not_eq_true', Bool.not_eq_false', reduceCtorEq] at hg); (try (first | simp (disch := omega) only [wrap64, wrapu64, wrapu32, sh32, fdiv32, Int.tdiv_eq_ediv_of_nonneg, Int.tmod_eq_emod_of_nonneg, tn_add, tn_add1, Int.toNat_natCast, Int.toNat_zero, List.drop_zero] at hg | simp only [wrapu64m, wrapu32m] at hg))))
  all_goals try omega
  · simp only [finR, resAs, resA, resLe, lsLe, lkS, lkM, pubs, pub, tie_sz, ti_sz, tie_ek, ti_ek, tie2_sz, tie2_ek, ti_ek2, nilAV, MM.upd, MM.set, AV.part, AV.cells, AV.agg, List.tail, List.headD, Nat.reduceAdd, Nat.reduceEqDiff, Nat.reduceLT, ↓reduceIte, and_true, true_and, and_self, reduceCtorEq]
    refine AVle_bool ?_
    symm
    rw [decide_eq_false_iff_not, key]
    rintro ⟨_, h⟩
    rw [h] at hc
    exact hc rfl
  · have hlen : w0.length = w1.length := by omega
    refine run_loop (ι := Nat) (fun i => ⟨[(5, vi i), (2, .ptr 0 0), (3, .ptr 1 0)], [(1, some (.box 25 (.pair (vb n1) (.lst .u32 w1)))), (0, some (.box 25 (.pair (vb n0) (.lst .u32 w0))))], 18⟩) (fun i => i ≤ w0.length ∧ w0.take i = w1.take i) (fun i => w0.length - i) 0 ⟨Nat.zero_le _, rfl⟩ ?_ ?_
    · (refine AS.le_of ?_ ?_ <;> simp only [slLe, memLe, entLe, lkS, lkM, Nat.reduceEqDiff, Nat.reduceLT, or_true, true_or, reduceCtorEq, ↓reduceIte, and_true, true_and] <;> (repeat' with_reducible apply And.intro) <;> (try (first | ((with_reducible refine AV.le_refl ?_); rfl) | with_reducible exact AV.le_junk | with_reducible exact AV.le_nil | ((with_reducible refine AV.le_int ?_); omega) | (with_reducible refine AV.le_int ?_) | (with_reducible refine AV.le_bool ?_) | ((with_reducible refine AV.le_lst ?_); try rfl) | (with_reducible refine AV.le_q ?_ ?_ ?_) | exact fun _ _ h => h | (with_reducible refine RC_qle ?_ ?_ ?_))))
    rintro i ⟨hi, ht⟩
    repeat' (first | with_reducible refine run_seq ?_ | with_reducible refine run_block ?_ | with_reducible refine step_code ?_ | with_reducible refine step_blk ?_ | with_reducible refine run_skip ?_ | with_reducible refine run_exit ?_ | with_reducible refine exits_code ?_ | with_reducible refine exits_here ?_ | with_reducible refine exits_blk rfl ?_ | with_reducible refine exits_lp ?_ | with_reducible refine run_ret ?_ | ((first | with_reducible refine run_region ?_ | with_reducible refine run_draw (by kernel_rfl) ?_); simp only [↓guardP_tt, ↓guardP_tf, ↓guardP_ft, ↓guardP_ff, guardP_t, guardP_f, evalQ, evalR, effQ, effR, skipS, opEff, evO, plainV, lkS, lkM, updL, putS, tie_sz, tie_zero, tie_zeroB, tie_fld, tie_ek, tie_int, tie_isb, tie_eq2, tie_f1, tie_ms, tie2_sz, tie2_zero, tie2_zeroB, tie2_fld, tie2_ek, tie2_int, tie2_isb, tie2_eq2, tie2_f1, tie2_ms, ti_ek2, ti_f1, ti_ms, ti_sz, ti_zero, ti_zeroB, ti_fld, ti_ek, ti_int, ti_isb, ti_eq2, binA, binI, intOp, funOf_v, cloOf_v, calIds, appEff, frE, foldB, foldS, castL_self, K.enc, K.dec, K.zero, K.es, K.bytes, AV.part, AV.setPart, AV.cells, AV.agg, AV.nth, Bool.false_eq_true, callEff, pubs, pub, nilAV, MM.upd, MM.set, argS, gdst, opIds, lids, AV.ids, List.getD_cons_succ, List.getD_cons_zero, List.map, List.tail, List.headD, List.nil_append, List.append_nil, List.cons_append, List.length_nil, List.length_cons, List.zip_cons_cons, List.zip_nil_right, List.set_cons_zero, List.set_cons_succ, List.replicate, Option.isSome_some, Option.map_some, Bool.not_true, Bool.not_false, forall_const, false_implies, Nat.reduceAdd, Nat.reduceEqDiff, Nat.reduceLT, Nat.reduceSub, Nat.reduceMul, Nat.reduceLeDiff, ↓reduceIte, and_true, true_and, and_self, false_and, and_false, reduceCtorEq, env0]) | (with_reducible refine run_cond (by with_unfolding_all exact rfl) ?_ ?_ <;> intro hc <;> (try simp only [vb, decide_eq_true_eq, decide_eq_false_iff_not, beq_iff_eq, beq_eq_false_iff_ne, bne_iff_ne, bne_eq_false_iff_eq, Bool.not_eq_true', Bool.not_eq_false', reduceCtorEq] at hc) <;> (try (first | simp (disch := omega) only [wrap64, wrapu64, wrapu32, sh32, fdiv32, Int.tdiv_eq_ediv_of_nonneg, Int.tmod_eq_emod_of_nonneg, tn_add, tn_add1, Int.toNat_natCast, Int.toNat_zero, List.drop_zero] at hc | simp only [wrapu64m, wrapu32m] at hc))) | ((with_reducible refine compat_ok ?_); kernel_rfl) | with_reducible apply And.intro | (first | simp (disch := omega) only [wrap64, wrapu64, wrapu32, sh32, fdiv32, Int.tdiv_eq_ediv_of_nonneg, Int.tmod_eq_emod_of_nonneg, tn_add, tn_add1, Int.toNat_natCast, Int.toNat_zero, List.drop_zero] | simp only [wrapu64m, wrapu32m]) | (with_reducible intro hg; (try simp only [vb, decide_eq_true_eq, decide_eq_false_iff_not, beq_iff_eq, beq_eq_false_iff_ne, bne_iff_ne, bne_eq_false_iff_eq, Bool.not_eq_true', Bool.not_eq_false', reduceCtorEq] at hg); (try (first | simp (disch := omega) only [wrap64, wrapu64, wrapu32, sh32, fdiv32, Int.tdiv_eq_ediv_of_nonneg, Int.tmod_eq_emod_of_nonneg, tn_add, tn_add1, Int.toNat_natCast, Int.toNat_zero, List.drop_zero] at hg | simp only [wrapu64m, wrapu32m] at hg))))
    all_goals try omega
    · simp only [finR, resAs, resA, resLe, lsLe, lkS, lkM, pubs, pub, tie_sz, ti_sz, tie_ek, ti_ek, tie2_sz, tie2_ek, ti_ek2, nilAV, MM.upd, MM.set, AV.part, AV.cells, AV.agg, List.tail, List.headD, Nat.reduceAdd, Nat.reduceEqDiff, Nat.reduceLT, ↓reduceIte, and_true, true_and, and_self, reduceCtorEq]
      refine AVle_bool ?_
      symm
      rw [decide_eq_false_iff_not, key]
      rintro ⟨_, h⟩
      rw [h] at hc
      exact hc rfl
    · refine step_lp ⟨i + 1, ⟨by omega, (take_eq_succ 0 hlen (by omega)).2 ⟨ht, hc⟩⟩, by omega, ?_⟩
      (refine AS.le_of ?_ ?_ <;> simp only [slLe, memLe, entLe, lkS, lkM, Nat.reduceEqDiff, Nat.reduceLT, or_true, true_or, reduceCtorEq, ↓reduceIte, and_true, true_and] <;> (repeat' with_reducible apply And.intro) <;> (try (first | ((with_reducible refine AV.le_refl ?_); rfl) | with_reducible exact AV.le_junk | with_reducible exact AV.le_nil | ((with_reducible refine AV.le_int ?_); omega) | (with_reducible refine AV.le_int ?_) | (with_reducible refine AV.le_bool ?_) | ((with_reducible refine AV.le_lst ?_); try rfl) | (with_reducible refine AV.le_q ?_ ?_ ?_) | exact fun _ _ h => h | (with_reducible refine RC_qle ?_ ?_ ?_))))
    · simp only [finR, resAs, resA, resLe, lsLe, lkS, lkM, pubs, pub, tie_sz, ti_sz, tie_ek, ti_ek, tie2_sz, tie2_ek, ti_ek2, nilAV, MM.upd, MM.set, AV.part, AV.cells, AV.agg, List.tail, List.headD, Nat.reduceAdd, Nat.reduceEqDiff, Nat.reduceLT, ↓reduceIte, and_true, true_and, and_self, reduceCtorEq]
      refine AVle_bool ?_
      symm
      rw [decide_eq_true_eq, key]
      rw [List.take_of_length_le (by omega), List.take_of_length_le (by omega)] at ht
      exact ⟨hg, ht⟩
  · simp only [finR, resAs, resA, resLe, lsLe, lkS, lkM, pubs, pub, tie_sz, ti_sz, tie_ek, ti_ek, tie2_sz, tie2_ek, ti_ek2, nilAV, MM.upd, MM.set, AV.part, AV.cells, AV.agg, List.tail, List.headD, Nat.reduceAdd, Nat.reduceEqDiff, Nat.reduceLT, ↓reduceIte, and_true, true_and, and_self, reduceCtorEq]
    refine AVle_bool ?_
    symm
    rw [decide_eq_false_iff_not, key]
    rintro ⟨h, _⟩
    exact hg h
def ctIntR : Ct := fun l => match l with
  | [.v (.int .i64 n)] => some (-9223372036854775808 ≤ n ∧ n < 9223372036854775808, .q (n : Rat) true 2)
  | _ => none
def env35 : Env := fun g => match g with | 88 => some ctFromI | _ => none
theorem env35_ok : EnvOk Tryz.prog env35 := by
  intro g ct h
  simp only [env35] at h
  split at h <;> first | (cases h; exact ok88) | cases h
theorem ok41 : Sound Tryz.prog 41 ctIntR := by
  refine sound_of (fn := Tryz.f41) rfl rfl rfl tiOk env35_ok mix ?_ (by intro l p r h; unfold ctIntR at h; split at h <;> cases h <;> exact Nat.le_of_ble_eq_true rfl)
  intro l p r h hp F vs hv
  unfold ctIntR at h
  split at h <;> cases h
  rename_i n
  obtain ⟨v0, rest0, rfl, a0, hv⟩ := hv
  refine ⟨[_], ⟨_, _, rfl, a0, hv⟩, ?_⟩
  show Run Tryz.prog ti env35 6 (finR ti [.cell 2 27] _) _ _ _
  repeat' (first | with_reducible refine run_seq ?_ | with_reducible refine run_block ?_ | with_reducible refine step_code ?_ | with_reducible refine step_blk ?_ | with_reducible refine run_skip ?_ | with_reducible refine run_exit ?_ | with_reducible refine exits_code ?_ | with_reducible refine exits_here ?_ | with_reducible refine exits_blk rfl ?_ | with_reducible refine exits_lp ?_ | with_reducible refine run_ret ?_ | ((first | with_reducible refine run_region ?_ | with_reducible refine run_draw (by kernel_rfl) ?_); simp only [↓guardP_tt, ↓guardP_tf, ↓guardP_ft, ↓guardP_ff, guardP_t, guardP_f, evalQ, evalR, effQ, effR, skipS, opEff, evO, plainV, lkS, lkM, updL, putS, tie_sz, tie_zero, tie_zeroB, tie_fld, tie_ek, tie_int, tie_isb, tie_eq2, tie_f1, tie_ms, tie2_sz, tie2_zero, tie2_zeroB, tie2_fld, tie2_ek, tie2_int, tie2_isb, tie2_eq2, tie2_f1, tie2_ms, ti_ek2, ti_f1, ti_ms, ti_sz, ti_zero, ti_zeroB, ti_fld, ti_ek, ti_int, ti_isb, ti_eq2, binA, binI, intOp, funOf_v, cloOf_v, calIds, appEff, frE, foldB, foldS, castL_self, K.enc, K.dec, K.zero, K.es, K.bytes, AV.part, AV.setPart, AV.cells, AV.agg, AV.nth, Bool.false_eq_true, callEff, pubs, pub, nilAV, MM.upd, MM.set, argS, gdst, opIds, lids, AV.ids, List.getD_cons_succ, List.getD_cons_zero, List.map, List.tail, List.headD, List.nil_append, List.append_nil, List.cons_append, List.length_nil, List.length_cons, List.zip_cons_cons, List.zip_nil_right, List.set_cons_zero, List.set_cons_succ, List.replicate, Option.isSome_some, Option.map_some, Bool.not_true, Bool.not_false, forall_const, false_implies, Nat.reduceAdd, Nat.reduceEqDiff, Nat.reduceLT, Nat.reduceSub, Nat.reduceMul, Nat.reduceLeDiff, ↓reduceIte, and_true, true_and, and_self, false_and, and_false, reduceCtorEq, env35, ctFromI]) | (with_reducible refine run_cond (by with_unfolding_all exact rfl) ?_ ?_ <;> intro hc <;> (try simp only [vb, decide_eq_true_eq, decide_eq_false_iff_not, beq_iff_eq, beq_eq_false_iff_ne, bne_iff_ne, bne_eq_false_iff_eq, Bool.not_eq_true', Bool.not_eq_false', reduceCtorEq] at hc) <;> (try (first | simp (disch := omega) only [wrap64, wrapu64, wrapu32, sh32, fdiv32, Int.tdiv_eq_ediv_of_nonneg, Int.tmod_eq_emod_of_nonneg, tn_add, tn_add1, Int.toNat_natCast, Int.toNat_zero, List.drop_zero] at hc | simp only [wrapu64m, wrapu32m] at hc))) | ((with_reducible refine compat_ok ?_); kernel_rfl) | with_reducible apply And.intro | (first | simp (disch := omega) only [wrap64, wrapu64, wrapu32, sh32, fdiv32, Int.tdiv_eq_ediv_of_nonneg, Int.tmod_eq_emod_of_nonneg, tn_add, tn_add1, Int.toNat_natCast, Int.toNat_zero, List.drop_zero] | simp only [wrapu64m, wrapu32m]) | (with_reducible intro hg; (try simp only [vb, decide_eq_true_eq, decide_eq_false_iff_not, beq_iff_eq, beq_eq_false_iff_ne, bne_iff_ne, bne_eq_false_iff_eq, Bool.not_eq_true', Bool.not_eq_false', reduceCtorEq] at hg); (try (first | simp (disch := omega) only [wrap64, wrapu64, wrapu32, sh32, fdiv32, Int.tdiv_eq_ediv_of_nonneg, Int.tmod_eq_emod_of_nonneg, tn_add, tn_add1, Int.toNat_natCast, Int.toNat_zero, List.drop_zero] at hg | simp only [wrapu64m, wrapu32m] at hg))))
  all_goals try omega
  simp only [finR, resAs, resA, resLe, lsLe, lkS, lkM, pubs, pub, tie_sz, ti_sz, tie_ek, ti_ek, tie2_sz, tie2_ek, ti_ek2, nilAV, MM.upd, MM.set, AV.part, AV.cells, AV.agg, List.tail, List.headD, Nat.reduceAdd, Nat.reduceEqDiff, Nat.reduceLT, ↓reduceIte, and_true, true_and, and_self, reduceCtorEq]
  exact AVle_q (by omega) (by omega) (by simp [qval]) (fun _ => ⟨rfl, rfl, .inl rfl⟩)
end Go.AE

/- Contracts: the helpers of the laws of curves. -/
namespace Go.AE
open Go.Proofs Go.RowKit
set_option linter.unusedVariables false
set_option linter.unusedSimpArgs false
set_option maxRecDepth 20000

/-- Canonical rationals: the parts are equal only if they are. -/
def qC : AV → Option Rat
  | .q x true _ => some x
  | .pair (.z n true _) (.z d true _) => if d = 0 then some (n : Rat) else none
  | _ => none
theorem qC_q {F : Fz} {a : AV} {x : Rat} (h : qC a = some x) {v : Value} (hv : RVp F a v) : ∃ s, RVp F (.q x true s) v ∧ ∀ y t, qA a = some (y, t) → s ≤ t ∧ x = y := by
  unfold qC at h
  split at h
  · cases h
    exact ⟨_, hv, fun y t h => by simp only [qA, Option.some.injEq, Prod.mk.injEq] at h; exact ⟨Nat.le_of_eq h.2, h.1⟩⟩
  · split at h
    · cases h
      rename_i n s d t hd
      subst hd
      refine ⟨max s t, AVle_q (by omega) (by omega) (by simp [qval]) (fun _ => ⟨rfl, rfl, .inl rfl⟩) F v hv, fun y t h => ?_⟩
      simp only [qA, Option.some.injEq, Prod.mk.injEq, qval] at h
      exact ⟨by omega, by simpa using h.1⟩
    · cases h
  · cases h
theorem rat_parts {x y : Rat} : x = y ↔ x.num = y.num ∧ cden x = cden y := by
  constructor
  · rintro rfl; exact ⟨rfl, rfl⟩
  · rintro ⟨h1, h2⟩
    have hx := x.den_pos
    have hy := y.den_pos
    refine Rat.ext h1 ?_
    unfold cden at h2
    split at h2 <;> split at h2 <;> omega
def env34 : Env := fun g => match g with | 65 => some ctSameZ | _ => none
theorem env34_ok : EnvOk Tryz.prog env34 := by
  intro g ct h
  simp only [env34] at h
  split at h <;> first | (cases h; exact ok65) | cases h
def ctIs : Ct := fun l => match l with
  | [a, b] => match qC a, qC b with
    | some x, some y => some (∃ q s r t, qA a = some (q, s) ∧ qA b = some (r, t) ∧ s ≤ 1099511627776 ∧ t ≤ 1099511627776, vb (decide (x = y)))
    | _, _ => none
  | _ => none
theorem ok15 : Sound Tryz.prog 15 ctIs := by
  refine sound_of (fn := Tryz.f15) rfl rfl rfl tiOk env34_ok mix ?_ (by intro l p r h; unfold ctIs at h; split at h <;> first | cases h | (split at h <;> cases h; exact Nat.le_of_ble_eq_true rfl))
  intro l p r h hp F vs hv
  unfold ctIs at h
  split at h
  rotate_left
  · cases h
  split at h <;> cases h
  rename_i az bz _ _ x y ha hb
  obtain ⟨v0, r0, rfl, a0, v1, r1, rfl, a1, hv⟩ := hv
  obtain ⟨q, s0, r, t0, hq, hr, hs, ht⟩ := hp
  obtain ⟨s, a0, hs2⟩ := qC_q ha a0
  obtain ⟨t, a1, ht2⟩ := qC_q hb a1
  have hs3 := (hs2 _ _ hq).1
  have ht3 := (ht2 _ _ hr).1
  refine ⟨[_, _], ⟨_, _, rfl, a0, _, _, rfl, a1, hv⟩, ?_⟩
  show Run Tryz.prog ti env34 17 (finR ti [.tmp 4] _) _ _ _
  repeat' (first | with_reducible refine run_seq ?_ | with_reducible refine run_block ?_ | with_reducible refine step_code ?_ | with_reducible refine step_blk ?_ | with_reducible refine run_skip ?_ | with_reducible refine run_exit ?_ | with_reducible refine exits_code ?_ | with_reducible refine exits_here ?_ | with_reducible refine exits_blk rfl ?_ | with_reducible refine exits_lp ?_ | with_reducible refine run_ret ?_ | ((first | with_reducible refine run_region ?_ | with_reducible refine run_draw (by kernel_rfl) ?_); simp only [↓guardP_tt, ↓guardP_tf, ↓guardP_ft, ↓guardP_ff, guardP_t, guardP_f, evalQ, evalR, effQ, effR, skipS, opEff, evO, plainV, lkS, lkM, updL, putS, tie_sz, tie_zero, tie_zeroB, tie_fld, tie_ek, tie_int, tie_isb, tie_eq2, tie_f1, tie_ms, tie2_sz, tie2_zero, tie2_zeroB, tie2_fld, tie2_ek, tie2_int, tie2_isb, tie2_eq2, tie2_f1, tie2_ms, ti_ek2, ti_f1, ti_ms, ti_sz, ti_zero, ti_zeroB, ti_fld, ti_ek, ti_int, ti_isb, ti_eq2, binA, binI, intOp, funOf_v, cloOf_v, calIds, appEff, frE, foldB, foldS, castL_self, K.enc, K.dec, K.zero, K.es, K.bytes, AV.part, AV.setPart, AV.cells, AV.agg, AV.nth, Bool.false_eq_true, callEff, pubs, pub, nilAV, MM.upd, MM.set, argS, gdst, opIds, lids, AV.ids, List.getD_cons_succ, List.getD_cons_zero, List.map, List.tail, List.headD, List.nil_append, List.append_nil, List.cons_append, List.length_nil, List.length_cons, List.zip_cons_cons, List.zip_nil_right, List.set_cons_zero, List.set_cons_succ, List.replicate, Option.isSome_some, Option.map_some, Bool.not_true, Bool.not_false, forall_const, false_implies, Nat.reduceAdd, Nat.reduceEqDiff, Nat.reduceLT, Nat.reduceSub, Nat.reduceMul, Nat.reduceLeDiff, ↓reduceIte, and_true, true_and, and_self, false_and, and_false, reduceCtorEq, env34, ctSameZ]) | (with_reducible refine run_cond (by with_unfolding_all exact rfl) ?_ ?_ <;> intro hc <;> (try simp only [vb, decide_eq_true_eq, decide_eq_false_iff_not, beq_iff_eq, beq_eq_false_iff_ne, bne_iff_ne, bne_eq_false_iff_eq, Bool.not_eq_true', Bool.not_eq_false', reduceCtorEq] at hc) <;> (try (first | simp (disch := omega) only [wrap64, wrapu64, wrapu32, sh32, fdiv32, Int.tdiv_eq_ediv_of_nonneg, Int.tmod_eq_emod_of_nonneg, tn_add, tn_add1, Int.toNat_natCast, Int.toNat_zero, List.drop_zero] at hc | simp only [wrapu64m, wrapu32m] at hc))) | ((with_reducible refine compat_ok ?_); kernel_rfl) | with_reducible apply And.intro | (first | simp (disch := omega) only [wrap64, wrapu64, wrapu32, sh32, fdiv32, Int.tdiv_eq_ediv_of_nonneg, Int.tmod_eq_emod_of_nonneg, tn_add, tn_add1, Int.toNat_natCast, Int.toNat_zero, List.drop_zero] | simp only [wrapu64m, wrapu32m]) | (with_reducible intro hg; (try simp only [vb, decide_eq_true_eq, decide_eq_false_iff_not, beq_iff_eq, beq_eq_false_iff_ne, bne_iff_ne, bne_eq_false_iff_eq, Bool.not_eq_true', Bool.not_eq_false', reduceCtorEq] at hg); (try (first | simp (disch := omega) only [wrap64, wrapu64, wrapu32, sh32, fdiv32, Int.tdiv_eq_ediv_of_nonneg, Int.tmod_eq_emod_of_nonneg, tn_add, tn_add1, Int.toNat_natCast, Int.toNat_zero, List.drop_zero] at hg | simp only [wrapu64m, wrapu32m] at hg))))
  all_goals try omega
  · simp only [finR, resAs, resA, resLe, lsLe, lkS, lkM, pubs, pub, tie_sz, ti_sz, tie_ek, ti_ek, tie2_sz, tie2_ek, ti_ek2, nilAV, MM.upd, MM.set, AV.part, AV.cells, AV.agg, List.tail, List.headD, Nat.reduceAdd, Nat.reduceEqDiff, Nat.reduceLT, ↓reduceIte, and_true, true_and, and_self, reduceCtorEq]
    refine AVle_bool ?_
    rw [decide_eq_decide, rat_parts]
    exact ⟨fun h => ⟨hg, h⟩, fun h => h.2⟩
  · simp only [finR, resAs, resA, resLe, lsLe, lkS, lkM, pubs, pub, tie_sz, ti_sz, tie_ek, ti_ek, tie2_sz, tie2_ek, ti_ek2, nilAV, MM.upd, MM.set, AV.part, AV.cells, AV.agg, List.tail, List.headD, Nat.reduceAdd, Nat.reduceEqDiff, Nat.reduceLT, ↓reduceIte, and_true, true_and, and_self, reduceCtorEq]
    refine AVle_bool ?_
    symm
    rw [decide_eq_false_iff_not]
    rintro rfl
    exact hg rfl
def ctCurve18 : Ct := fun l => match l with
  | [.lst .stp l] => some (l.length ≤ 1099511627776, vb (decide (offK l = 0 ∨ bidK l = 0)))
  | _ => none
def env36 : Env := fun g => match g with | 41 => some ctIntR | _ => none
theorem env36_ok : EnvOk Tryz.prog env36 := by
  intro g ct h
  simp only [env36] at h
  split at h <;> first | (cases h; exact ok41) | cases h
theorem ok46 : Sound Tryz.prog 46 ctIntR := by
  refine sound_of (fn := Tryz.f46) rfl rfl rfl tiOk env36_ok mix ?_ (by intro l p r h; unfold ctIntR at h; split at h <;> cases h <;> exact Nat.le_of_ble_eq_true rfl)
  intro l p r h hp F vs hv
  unfold ctIntR at h
  split at h <;> cases h
  rename_i n
  obtain ⟨v0, rest0, rfl, a0, hv⟩ := hv
  refine ⟨[_], ⟨_, _, rfl, a0, hv⟩, ?_⟩
  show Run Tryz.prog ti env36 5 (finR ti [.cell 2 27] _) _ _ _
  repeat' (first | with_reducible refine run_seq ?_ | with_reducible refine run_block ?_ | with_reducible refine step_code ?_ | with_reducible refine step_blk ?_ | with_reducible refine run_skip ?_ | with_reducible refine run_exit ?_ | with_reducible refine exits_code ?_ | with_reducible refine exits_here ?_ | with_reducible refine exits_blk rfl ?_ | with_reducible refine exits_lp ?_ | with_reducible refine run_ret ?_ | ((first | with_reducible refine run_region ?_ | with_reducible refine run_draw (by kernel_rfl) ?_); simp only [↓guardP_tt, ↓guardP_tf, ↓guardP_ft, ↓guardP_ff, guardP_t, guardP_f, evalQ, evalR, effQ, effR, skipS, opEff, evO, plainV, lkS, lkM, updL, putS, tie_sz, tie_zero, tie_zeroB, tie_fld, tie_ek, tie_int, tie_isb, tie_eq2, tie_f1, tie_ms, tie2_sz, tie2_zero, tie2_zeroB, tie2_fld, tie2_ek, tie2_int, tie2_isb, tie2_eq2, tie2_f1, tie2_ms, ti_ek2, ti_f1, ti_ms, ti_sz, ti_zero, ti_zeroB, ti_fld, ti_ek, ti_int, ti_isb, ti_eq2, binA, binI, intOp, funOf_v, cloOf_v, calIds, appEff, frE, foldB, foldS, castL_self, K.enc, K.dec, K.zero, K.es, K.bytes, AV.part, AV.setPart, AV.cells, AV.agg, AV.nth, Bool.false_eq_true, callEff, pubs, pub, nilAV, MM.upd, MM.set, argS, gdst, opIds, lids, AV.ids, List.getD_cons_succ, List.getD_cons_zero, List.map, List.tail, List.headD, List.nil_append, List.append_nil, List.cons_append, List.length_nil, List.length_cons, List.zip_cons_cons, List.zip_nil_right, List.set_cons_zero, List.set_cons_succ, List.replicate, Option.isSome_some, Option.map_some, Bool.not_true, Bool.not_false, forall_const, false_implies, Nat.reduceAdd, Nat.reduceEqDiff, Nat.reduceLT, Nat.reduceSub, Nat.reduceMul, Nat.reduceLeDiff, ↓reduceIte, and_true, true_and, and_self, false_and, and_false, reduceCtorEq, env36, ctIntR]) | (with_reducible refine run_cond (by with_unfolding_all exact rfl) ?_ ?_ <;> intro hc <;> (try simp only [vb, decide_eq_true_eq, decide_eq_false_iff_not, beq_iff_eq, beq_eq_false_iff_ne, bne_iff_ne, bne_eq_false_iff_eq, Bool.not_eq_true', Bool.not_eq_false', reduceCtorEq] at hc) <;> (try (first | simp (disch := omega) only [wrap64, wrapu64, wrapu32, sh32, fdiv32, Int.tdiv_eq_ediv_of_nonneg, Int.tmod_eq_emod_of_nonneg, tn_add, tn_add1, Int.toNat_natCast, Int.toNat_zero, List.drop_zero] at hc | simp only [wrapu64m, wrapu32m] at hc))) | ((with_reducible refine compat_ok ?_); kernel_rfl) | with_reducible apply And.intro | (first | simp (disch := omega) only [wrap64, wrapu64, wrapu32, sh32, fdiv32, Int.tdiv_eq_ediv_of_nonneg, Int.tmod_eq_emod_of_nonneg, tn_add, tn_add1, Int.toNat_natCast, Int.toNat_zero, List.drop_zero] | simp only [wrapu64m, wrapu32m]) | (with_reducible intro hg; (try simp only [vb, decide_eq_true_eq, decide_eq_false_iff_not, beq_iff_eq, beq_eq_false_iff_ne, bne_iff_ne, bne_eq_false_iff_eq, Bool.not_eq_true', Bool.not_eq_false', reduceCtorEq] at hg); (try (first | simp (disch := omega) only [wrap64, wrapu64, wrapu32, sh32, fdiv32, Int.tdiv_eq_ediv_of_nonneg, Int.tmod_eq_emod_of_nonneg, tn_add, tn_add1, Int.toNat_natCast, Int.toNat_zero, List.drop_zero] at hg | simp only [wrapu64m, wrapu32m] at hg))))
  all_goals try omega
  simp only [finR, resAs, resA, resLe, lsLe, lkS, lkM, pubs, pub, tie_sz, ti_sz, tie_ek, ti_ek, tie2_sz, tie2_ek, ti_ek2, nilAV, MM.upd, MM.set, AV.part, AV.cells, AV.agg, List.tail, List.headD, Nat.reduceAdd, Nat.reduceEqDiff, Nat.reduceLT, ↓reduceIte, and_true, true_and, and_self, reduceCtorEq]
  exact AVle.rfl
theorem any_take_succ {α : Type} {f : α → Bool} (z : α) {l : List α} {i : Nat} (hi : i < l.length) : (l.take (i + 1)).any f = ((l.take i).any f || f (l.getD i z)) := by
  rw [List.take_add_one, List.getD_eq_getElem?_getD, List.getElem?_eq_getElem hi, List.any_append]; simp
theorem any_get {α : Type} {f : α → Bool} (z : α) {l : List α} {i : Nat} (hi : i < l.length) (h : f (l.getD i z) = true) : l.any f = true := by
  rw [List.getD_eq_getElem?_getD, List.getElem?_eq_getElem hi] at h
  exact List.any_eq_true.2 ⟨_, List.getElem_mem hi, h⟩
def longB (x : QX) : Bool := decide (6 < x.nw.length ∨ 6 < x.dw.length)
def ctLong23 : Ct := fun l => match l with
  | [.lst .qx l] => some (l.length ≤ 9223372036854775807, vb (l.any longB))
  | _ => none
theorem ok8 : Sound Tryz.prog 8 ctLong23 := by
  refine sound_of (ti := ti2) (fn := Tryz.f8) rfl rfl rfl ti2Ok env0_ok mix ?_ (by intro l p r h; unfold ctLong23 at h; split at h <;> cases h <;> exact Nat.le_of_ble_eq_true rfl)
  intro l p r h hp F vs hv
  unfold ctLong23 at h
  split at h <;> cases h
  rename_i l
  obtain ⟨v0, rest0, rfl, a0, hv⟩ := hv
  refine ⟨[_], ⟨_, _, rfl, a0, hv⟩, ?_⟩
  show Run Tryz.prog ti2 env0 28 (finR ti2 [.tmp 2] _) _ _ _
  repeat' (first | with_reducible refine run_seq ?_ | with_reducible refine run_block ?_ | with_reducible refine step_code ?_ | with_reducible refine step_blk ?_ | with_reducible refine run_skip ?_ | with_reducible refine run_exit ?_ | with_reducible refine exits_code ?_ | with_reducible refine exits_here ?_ | with_reducible refine exits_blk rfl ?_ | with_reducible refine exits_lp ?_ | with_reducible refine run_ret ?_ | ((first | with_reducible refine run_region ?_ | with_reducible refine run_draw (by kernel_rfl) ?_); simp only [↓guardP_tt, ↓guardP_tf, ↓guardP_ft, ↓guardP_ff, guardP_t, guardP_f, evalQ, evalR, effQ, effR, skipS, opEff, evO, plainV, lkS, lkM, updL, putS, tie_sz, tie_zero, tie_zeroB, tie_fld, tie_ek, tie_int, tie_isb, tie_eq2, tie_f1, tie_ms, tie2_sz, tie2_zero, tie2_zeroB, tie2_fld, tie2_ek, tie2_int, tie2_isb, tie2_eq2, tie2_f1, tie2_ms, ti_ek2, ti_f1, ti_ms, ti_sz, ti_zero, ti_zeroB, ti_fld, ti_ek, ti_int, ti_isb, ti_eq2, binA, binI, intOp, funOf_v, cloOf_v, calIds, appEff, frE, foldB, foldS, castL_self, K.enc, K.dec, K.zero, K.es, K.bytes, AV.part, AV.setPart, AV.cells, AV.agg, AV.nth, Bool.false_eq_true, callEff, pubs, pub, nilAV, MM.upd, MM.set, argS, gdst, opIds, lids, AV.ids, List.getD_cons_succ, List.getD_cons_zero, List.map, List.tail, List.headD, List.nil_append, List.append_nil, List.cons_append, List.length_nil, List.length_cons, List.zip_cons_cons, List.zip_nil_right, List.set_cons_zero, List.set_cons_succ, List.replicate, Option.isSome_some, Option.map_some, Bool.not_true, Bool.not_false, forall_const, false_implies, Nat.reduceAdd, Nat.reduceEqDiff, Nat.reduceLT, Nat.reduceSub, Nat.reduceMul, Nat.reduceLeDiff, ↓reduceIte, and_true, true_and, and_self, false_and, and_false, reduceCtorEq, env0]) | (with_reducible refine run_cond (by with_unfolding_all exact rfl) ?_ ?_ <;> intro hc <;> (try simp only [vb, decide_eq_true_eq, decide_eq_false_iff_not, beq_iff_eq, beq_eq_false_iff_ne, bne_iff_ne, bne_eq_false_iff_eq, Bool.not_eq_true', Bool.not_eq_false', reduceCtorEq] at hc) <;> (try (first | simp (disch := omega) only [wrap64, wrapu64, wrapu32, sh32, fdiv32, Int.tdiv_eq_ediv_of_nonneg, Int.tmod_eq_emod_of_nonneg, tn_add, tn_add1, Int.toNat_natCast, Int.toNat_zero, List.drop_zero] at hc | simp only [wrapu64m, wrapu32m] at hc))) | ((with_reducible refine compat_ok ?_); kernel_rfl) | with_reducible apply And.intro | (first | simp (disch := omega) only [wrap64, wrapu64, wrapu32, sh32, fdiv32, Int.tdiv_eq_ediv_of_nonneg, Int.tmod_eq_emod_of_nonneg, tn_add, tn_add1, Int.toNat_natCast, Int.toNat_zero, List.drop_zero] | simp only [wrapu64m, wrapu32m]) | (with_reducible intro hg; (try simp only [vb, decide_eq_true_eq, decide_eq_false_iff_not, beq_iff_eq, beq_eq_false_iff_ne, bne_iff_ne, bne_eq_false_iff_eq, Bool.not_eq_true', Bool.not_eq_false', reduceCtorEq] at hg); (try (first | simp (disch := omega) only [wrap64, wrapu64, wrapu32, sh32, fdiv32, Int.tdiv_eq_ediv_of_nonneg, Int.tmod_eq_emod_of_nonneg, tn_add, tn_add1, Int.toNat_natCast, Int.toNat_zero, List.drop_zero] at hg | simp only [wrapu64m, wrapu32m] at hg))))
  refine run_loop (ι := Nat) (fun i => ⟨[(3, vi i), (0, .lst .qx l)], [], 0⟩) (fun i => i ≤ l.length ∧ (l.take i).any longB = false) (fun i => l.length - i) 0 ⟨Nat.zero_le _, rfl⟩ ?_ ?_
  · (refine AS.le_of ?_ ?_ <;> simp only [slLe, memLe, entLe, lkS, lkM, Nat.reduceEqDiff, Nat.reduceLT, or_true, true_or, reduceCtorEq, ↓reduceIte, and_true, true_and] <;> (repeat' with_reducible apply And.intro) <;> (try (first | ((with_reducible refine AV.le_refl ?_); rfl) | with_reducible exact AV.le_junk | with_reducible exact AV.le_nil | ((with_reducible refine AV.le_int ?_); omega) | (with_reducible refine AV.le_int ?_) | (with_reducible refine AV.le_bool ?_) | ((with_reducible refine AV.le_lst ?_); try rfl) | (with_reducible refine AV.le_q ?_ ?_ ?_) | exact fun _ _ h => h | (with_reducible refine RC_qle ?_ ?_ ?_))))
  rintro i ⟨hi, ht⟩
  repeat' (first | with_reducible refine run_seq ?_ | with_reducible refine run_block ?_ | with_reducible refine step_code ?_ | with_reducible refine step_blk ?_ | with_reducible refine run_skip ?_ | with_reducible refine run_exit ?_ | with_reducible refine exits_code ?_ | with_reducible refine exits_here ?_ | with_reducible refine exits_blk rfl ?_ | with_reducible refine exits_lp ?_ | with_reducible refine run_ret ?_ | ((first | with_reducible refine run_region ?_ | with_reducible refine run_draw (by kernel_rfl) ?_); simp only [↓guardP_tt, ↓guardP_tf, ↓guardP_ft, ↓guardP_ff, guardP_t, guardP_f, evalQ, evalR, effQ, effR, skipS, opEff, evO, plainV, lkS, lkM, updL, putS, tie_sz, tie_zero, tie_zeroB, tie_fld, tie_ek, tie_int, tie_isb, tie_eq2, tie_f1, tie_ms, tie2_sz, tie2_zero, tie2_zeroB, tie2_fld, tie2_ek, tie2_int, tie2_isb, tie2_eq2, tie2_f1, tie2_ms, ti_ek2, ti_f1, ti_ms, ti_sz, ti_zero, ti_zeroB, ti_fld, ti_ek, ti_int, ti_isb, ti_eq2, binA, binI, intOp, funOf_v, cloOf_v, calIds, appEff, frE, foldB, foldS, castL_self, K.enc, K.dec, K.zero, K.es, K.bytes, AV.part, AV.setPart, AV.cells, AV.agg, AV.nth, Bool.false_eq_true, callEff, pubs, pub, nilAV, MM.upd, MM.set, argS, gdst, opIds, lids, AV.ids, List.getD_cons_succ, List.getD_cons_zero, List.map, List.tail, List.headD, List.nil_append, List.append_nil, List.cons_append, List.length_nil, List.length_cons, List.zip_cons_cons, List.zip_nil_right, List.set_cons_zero, List.set_cons_succ, List.replicate, Option.isSome_some, Option.map_some, Bool.not_true, Bool.not_false, forall_const, false_implies, Nat.reduceAdd, Nat.reduceEqDiff, Nat.reduceLT, Nat.reduceSub, Nat.reduceMul, Nat.reduceLeDiff, ↓reduceIte, and_true, true_and, and_self, false_and, and_false, reduceCtorEq, env0]) | (with_reducible refine run_cond (by with_unfolding_all exact rfl) ?_ ?_ <;> intro hc <;> (try simp only [vb, decide_eq_true_eq, decide_eq_false_iff_not, beq_iff_eq, beq_eq_false_iff_ne, bne_iff_ne, bne_eq_false_iff_eq, Bool.not_eq_true', Bool.not_eq_false', reduceCtorEq] at hc) <;> (try (first | simp (disch := omega) only [wrap64, wrapu64, wrapu32, sh32, fdiv32, Int.tdiv_eq_ediv_of_nonneg, Int.tmod_eq_emod_of_nonneg, tn_add, tn_add1, Int.toNat_natCast, Int.toNat_zero, List.drop_zero] at hc | simp only [wrapu64m, wrapu32m] at hc))) | ((with_reducible refine compat_ok ?_); kernel_rfl) | with_reducible apply And.intro | (first | simp (disch := omega) only [wrap64, wrapu64, wrapu32, sh32, fdiv32, Int.tdiv_eq_ediv_of_nonneg, Int.tmod_eq_emod_of_nonneg, tn_add, tn_add1, Int.toNat_natCast, Int.toNat_zero, List.drop_zero] | simp only [wrapu64m, wrapu32m]) | (with_reducible intro hg; (try simp only [vb, decide_eq_true_eq, decide_eq_false_iff_not, beq_iff_eq, beq_eq_false_iff_ne, bne_iff_ne, bne_eq_false_iff_eq, Bool.not_eq_true', Bool.not_eq_false', reduceCtorEq] at hg); (try (first | simp (disch := omega) only [wrap64, wrapu64, wrapu32, sh32, fdiv32, Int.tdiv_eq_ediv_of_nonneg, Int.tmod_eq_emod_of_nonneg, tn_add, tn_add1, Int.toNat_natCast, Int.toNat_zero, List.drop_zero] at hg | simp only [wrapu64m, wrapu32m] at hg))))
  all_goals try omega
  · simp only [finR, resAs, resA, resLe, lsLe, lkS, lkM, pubs, pub, tie_sz, ti_sz, tie_ek, ti_ek, tie2_sz, tie2_ek, ti_ek2, nilAV, MM.upd, MM.set, AV.part, AV.cells, AV.agg, List.tail, List.headD, Nat.reduceAdd, Nat.reduceEqDiff, Nat.reduceLT, ↓reduceIte, and_true, true_and, and_self, reduceCtorEq]
    exact AVle_bool (any_get ⟨false, [], false, []⟩ (show i < l.length by omega) (by simp only [longB, decide_eq_true_eq]; omega)).symm
  · refine step_lp ⟨i + 1, ⟨by omega, ?_⟩, by omega, ?_⟩
    · rw [any_take_succ ⟨false, [], false, []⟩ (show i < l.length by omega), ht]
      simp only [longB, Bool.false_or, decide_eq_false_iff_not]
      omega
    · (refine AS.le_of ?_ ?_ <;> simp only [slLe, memLe, entLe, lkS, lkM, Nat.reduceEqDiff, Nat.reduceLT, or_true, true_or, reduceCtorEq, ↓reduceIte, and_true, true_and] <;> (repeat' with_reducible apply And.intro) <;> (try (first | ((with_reducible refine AV.le_refl ?_); rfl) | with_reducible exact AV.le_junk | with_reducible exact AV.le_nil | ((with_reducible refine AV.le_int ?_); omega) | (with_reducible refine AV.le_int ?_) | (with_reducible refine AV.le_bool ?_) | ((with_reducible refine AV.le_lst ?_); try rfl) | (with_reducible refine AV.le_q ?_ ?_ ?_) | exact fun _ _ h => h | (with_reducible refine RC_qle ?_ ?_ ?_))))
  · simp only [finR, resAs, resA, resLe, lsLe, lkS, lkM, pubs, pub, tie_sz, ti_sz, tie_ek, ti_ek, tie2_sz, tie2_ek, ti_ek2, nilAV, MM.upd, MM.set, AV.part, AV.cells, AV.agg, List.tail, List.headD, Nat.reduceAdd, Nat.reduceEqDiff, Nat.reduceLT, ↓reduceIte, and_true, true_and, and_self, reduceCtorEq]
    exact AVle_bool (any_get ⟨false, [], false, []⟩ (show i < l.length by omega) (by simp only [longB, decide_eq_true_eq]; omega)).symm
  · simp only [finR, resAs, resA, resLe, lsLe, lkS, lkM, pubs, pub, tie_sz, ti_sz, tie_ek, ti_ek, tie2_sz, tie2_ek, ti_ek2, nilAV, MM.upd, MM.set, AV.part, AV.cells, AV.agg, List.tail, List.headD, Nat.reduceAdd, Nat.reduceEqDiff, Nat.reduceLT, ↓reduceIte, and_true, true_and, and_self, reduceCtorEq]
    refine AVle_bool ?_
    rw [List.take_of_length_le (by omega)] at ht
    exact ht.symm
def ctCosts : Ct := fun l => match l with
  | [.lst .stp l, a, b] => match qA a, qC b, qA b with
    | some (q, s), some w, some (_, t) => some (l.length ≤ 1099511627776 ∧ s ≤ 1000 ∧ t ≤ 1099511627776, vb (decide (allE l q = 0 ∧ costK l q = w)))
    | _, _, _ => none
  | _ => none
def env37 : Env := fun g => match g with | 13 => some ctCost | 15 => some ctIs | _ => none
theorem env37_ok : EnvOk Tryz.prog env37 := by
  intro g ct h
  simp only [env37] at h
  split at h <;> first | (cases h; exact ok13) | (cases h; exact ok15) | cases h
theorem ok47 : Sound Tryz.prog 47 ctCosts := by
  refine sound_of (fn := Tryz.f47) rfl rfl rfl tiOk env37_ok mix ?_ (by intro l p r h; unfold ctCosts at h; split at h <;> first | cases h | (split at h <;> cases h; exact Nat.le_of_ble_eq_true rfl))
  intro l p r h hp F vs hv
  unfold ctCosts at h
  split at h
  rotate_left
  · cases h
  split at h <;> cases h
  rename_i l az bz _ _ _ q s w _ t ha hb hb2
  obtain ⟨v0, r0, rfl, a0, v1, r1, rfl, a1, v2, r2, rfl, a2, hv⟩ := hv
  replace a1 := qA_q ha a1
  obtain ⟨s2, a2, hs2⟩ := qC_q hb a2
  have hs3 := (hs2 _ _ hb2).1
  refine ⟨[_, _, _], ⟨_, _, rfl, a0, _, _, rfl, a1, _, _, rfl, a2, hv⟩, ?_⟩
  show Run Tryz.prog ti env37 22 (finR ti [.tmp 6] _) _ _ _
  repeat' (first | with_reducible refine run_seq ?_ | with_reducible refine run_block ?_ | with_reducible refine step_code ?_ | with_reducible refine step_blk ?_ | with_reducible refine run_skip ?_ | with_reducible refine run_exit ?_ | with_reducible refine exits_code ?_ | with_reducible refine exits_here ?_ | with_reducible refine exits_blk rfl ?_ | with_reducible refine exits_lp ?_ | with_reducible refine run_ret ?_ | ((first | with_reducible refine run_region ?_ | with_reducible refine run_draw (by kernel_rfl) ?_); simp only [↓guardP_tt, ↓guardP_tf, ↓guardP_ft, ↓guardP_ff, guardP_t, guardP_f, evalQ, evalR, effQ, effR, skipS, opEff, evO, plainV, lkS, lkM, updL, putS, tie_sz, tie_zero, tie_zeroB, tie_fld, tie_ek, tie_int, tie_isb, tie_eq2, tie_f1, tie_ms, tie2_sz, tie2_zero, tie2_zeroB, tie2_fld, tie2_ek, tie2_int, tie2_isb, tie2_eq2, tie2_f1, tie2_ms, ti_ek2, ti_f1, ti_ms, ti_sz, ti_zero, ti_zeroB, ti_fld, ti_ek, ti_int, ti_isb, ti_eq2, binA, binI, intOp, funOf_v, cloOf_v, calIds, appEff, frE, foldB, foldS, castL_self, K.enc, K.dec, K.zero, K.es, K.bytes, AV.part, AV.setPart, AV.cells, AV.agg, AV.nth, Bool.false_eq_true, callEff, pubs, pub, nilAV, MM.upd, MM.set, argS, gdst, opIds, lids, AV.ids, List.getD_cons_succ, List.getD_cons_zero, List.map, List.tail, List.headD, List.nil_append, List.append_nil, List.cons_append, List.length_nil, List.length_cons, List.zip_cons_cons, List.zip_nil_right, List.set_cons_zero, List.set_cons_succ, List.replicate, Option.isSome_some, Option.map_some, Bool.not_true, Bool.not_false, forall_const, false_implies, Nat.reduceAdd, Nat.reduceEqDiff, Nat.reduceLT, Nat.reduceSub, Nat.reduceMul, Nat.reduceLeDiff, ↓reduceIte, and_true, true_and, and_self, false_and, and_false, reduceCtorEq, env37, ctCost, ctIs, qA, qC]) | (with_reducible refine run_cond (by with_unfolding_all exact rfl) ?_ ?_ <;> intro hc <;> (try simp only [vb, decide_eq_true_eq, decide_eq_false_iff_not, beq_iff_eq, beq_eq_false_iff_ne, bne_iff_ne, bne_eq_false_iff_eq, Bool.not_eq_true', Bool.not_eq_false', reduceCtorEq] at hc) <;> (try (first | simp (disch := omega) only [wrap64, wrapu64, wrapu32, sh32, fdiv32, Int.tdiv_eq_ediv_of_nonneg, Int.tmod_eq_emod_of_nonneg, tn_add, tn_add1, Int.toNat_natCast, Int.toNat_zero, List.drop_zero] at hc | simp only [wrapu64m, wrapu32m] at hc))) | ((with_reducible refine compat_ok ?_); kernel_rfl) | with_reducible apply And.intro | (first | simp (disch := omega) only [wrap64, wrapu64, wrapu32, sh32, fdiv32, Int.tdiv_eq_ediv_of_nonneg, Int.tmod_eq_emod_of_nonneg, tn_add, tn_add1, Int.toNat_natCast, Int.toNat_zero, List.drop_zero] | simp only [wrapu64m, wrapu32m]) | (with_reducible intro hg; (try simp only [vb, decide_eq_true_eq, decide_eq_false_iff_not, beq_iff_eq, beq_eq_false_iff_ne, bne_iff_ne, bne_eq_false_iff_eq, Bool.not_eq_true', Bool.not_eq_false', reduceCtorEq] at hg); (try (first | simp (disch := omega) only [wrap64, wrapu64, wrapu32, sh32, fdiv32, Int.tdiv_eq_ediv_of_nonneg, Int.tmod_eq_emod_of_nonneg, tn_add, tn_add1, Int.toNat_natCast, Int.toNat_zero, List.drop_zero] at hg | simp only [wrapu64m, wrapu32m] at hg))))
  all_goals try omega
  · exact ⟨_, _, _, _, rfl, rfl, by omega, by omega⟩
  all_goals (simp only [finR, resAs, resA, resLe, lsLe, lkS, lkM, pubs, pub, tie_sz, ti_sz, tie_ek, ti_ek, tie2_sz, tie2_ek, ti_ek2, nilAV, MM.upd, MM.set, AV.part, AV.cells, AV.agg, List.tail, List.headD, Nat.reduceAdd, Nat.reduceEqDiff, Nat.reduceLT, ↓reduceIte, and_true, true_and, and_self, reduceCtorEq]; refine AVle_bool ?_; rw [Bool.eq_iff_iff]; simp_all)
def ctWanted : Ct := fun l => match l with
  | [.lst .stp l, a, .v (.bool bid), .v (.int .i64 x), .v (.int .i64 y)] => match qA a with
    | some (p, s) => some (l.length ≤ 1099511627776 ∧ s ≤ 33554432, vb (decide (if bid = true then bidK l = 0 ∧ demL l p = x ∧ demM l p = y else offK l = 0 ∧ supL l p = x ∧ supM l p = y)))
    | none => none
  | _ => none
def env38 : Env := fun g => match g with | 18 => some ctSupply | 20 => some ctDemand | _ => none
theorem env38_ok : EnvOk Tryz.prog env38 := by
  intro g ct h
  simp only [env38] at h
  split at h <;> first | (cases h; exact ok18) | (cases h; exact ok20) | cases h
theorem ok48 : Sound Tryz.prog 48 ctWanted := by
  refine sound_of (fn := Tryz.f48) rfl rfl rfl tiOk env38_ok mix ?_ (by intro l p r h; unfold ctWanted at h; split at h <;> first | cases h | (split at h <;> cases h; exact Nat.le_of_ble_eq_true rfl))
  intro l p r h hp F vs hv
  unfold ctWanted at h
  split at h
  rotate_left
  · cases h
  split at h <;> cases h
  rename_i l az bid x y _ p s ha
  obtain ⟨v0, r0, rfl, a0, v1, r1, rfl, a1, hv⟩ := hv
  replace a1 := qA_q ha a1
  refine ⟨[_, _, _, _, _], ⟨_, _, rfl, a0, _, _, rfl, a1, hv⟩, ?_⟩
  show Run Tryz.prog ti env38 41 (finR ti [.tmp 10] _) _ _ _
  repeat' (first | with_reducible refine run_seq ?_ | with_reducible refine run_block ?_ | with_reducible refine step_code ?_ | with_reducible refine step_blk ?_ | with_reducible refine run_skip ?_ | with_reducible refine run_exit ?_ | with_reducible refine exits_code ?_ | with_reducible refine exits_here ?_ | with_reducible refine exits_blk rfl ?_ | with_reducible refine exits_lp ?_ | with_reducible refine run_ret ?_ | ((first | with_reducible refine run_region ?_ | with_reducible refine run_draw (by kernel_rfl) ?_); simp only [↓guardP_tt, ↓guardP_tf, ↓guardP_ft, ↓guardP_ff, guardP_t, guardP_f, evalQ, evalR, effQ, effR, skipS, opEff, evO, plainV, lkS, lkM, updL, putS, tie_sz, tie_zero, tie_zeroB, tie_fld, tie_ek, tie_int, tie_isb, tie_eq2, tie_f1, tie_ms, tie2_sz, tie2_zero, tie2_zeroB, tie2_fld, tie2_ek, tie2_int, tie2_isb, tie2_eq2, tie2_f1, tie2_ms, ti_ek2, ti_f1, ti_ms, ti_sz, ti_zero, ti_zeroB, ti_fld, ti_ek, ti_int, ti_isb, ti_eq2, binA, binI, intOp, funOf_v, cloOf_v, calIds, appEff, frE, foldB, foldS, castL_self, K.enc, K.dec, K.zero, K.es, K.bytes, AV.part, AV.setPart, AV.cells, AV.agg, AV.nth, Bool.false_eq_true, callEff, pubs, pub, nilAV, MM.upd, MM.set, argS, gdst, opIds, lids, AV.ids, List.getD_cons_succ, List.getD_cons_zero, List.map, List.tail, List.headD, List.nil_append, List.append_nil, List.cons_append, List.length_nil, List.length_cons, List.zip_cons_cons, List.zip_nil_right, List.set_cons_zero, List.set_cons_succ, List.replicate, Option.isSome_some, Option.map_some, Bool.not_true, Bool.not_false, forall_const, false_implies, Nat.reduceAdd, Nat.reduceEqDiff, Nat.reduceLT, Nat.reduceSub, Nat.reduceMul, Nat.reduceLeDiff, ↓reduceIte, and_true, true_and, and_self, false_and, and_false, reduceCtorEq, env38, ctSupply, ctDemand, ctWant2, qA]) | (with_reducible refine run_cond (by with_unfolding_all exact rfl) ?_ ?_ <;> intro hc <;> (try simp only [vb, decide_eq_true_eq, decide_eq_false_iff_not, beq_iff_eq, beq_eq_false_iff_ne, bne_iff_ne, bne_eq_false_iff_eq, Bool.not_eq_true', Bool.not_eq_false', reduceCtorEq] at hc) <;> (try (first | simp (disch := omega) only [wrap64, wrapu64, wrapu32, sh32, fdiv32, Int.tdiv_eq_ediv_of_nonneg, Int.tmod_eq_emod_of_nonneg, tn_add, tn_add1, Int.toNat_natCast, Int.toNat_zero, List.drop_zero] at hc | simp only [wrapu64m, wrapu32m] at hc))) | ((with_reducible refine compat_ok ?_); kernel_rfl) | with_reducible apply And.intro | (first | simp (disch := omega) only [wrap64, wrapu64, wrapu32, sh32, fdiv32, Int.tdiv_eq_ediv_of_nonneg, Int.tmod_eq_emod_of_nonneg, tn_add, tn_add1, Int.toNat_natCast, Int.toNat_zero, List.drop_zero] | simp only [wrapu64m, wrapu32m]) | (with_reducible intro hg; (try simp only [vb, decide_eq_true_eq, decide_eq_false_iff_not, beq_iff_eq, beq_eq_false_iff_ne, bne_iff_ne, bne_eq_false_iff_eq, Bool.not_eq_true', Bool.not_eq_false', reduceCtorEq] at hg); (try (first | simp (disch := omega) only [wrap64, wrapu64, wrapu32, sh32, fdiv32, Int.tdiv_eq_ediv_of_nonneg, Int.tmod_eq_emod_of_nonneg, tn_add, tn_add1, Int.toNat_natCast, Int.toNat_zero, List.drop_zero] at hg | simp only [wrapu64m, wrapu32m] at hg))))
  all_goals try omega
  all_goals (simp only [finR, resAs, resA, resLe, lsLe, lkS, lkM, pubs, pub, tie_sz, ti_sz, tie_ek, ti_ek, tie2_sz, tie2_ek, ti_ek2, nilAV, MM.upd, MM.set, AV.part, AV.cells, AV.agg, List.tail, List.headD, Nat.reduceAdd, Nat.reduceEqDiff, Nat.reduceLT, ↓reduceIte, and_true, true_and, and_self, reduceCtorEq]; refine AVle_bool ?_; rw [Bool.eq_iff_iff]; simp_all)
def stepL : List Int → List Stp
  | a :: b :: r => (a, b) :: stepL r
  | _ => []
theorem stepL_take : ∀ {l : List Int} {i : Nat}, i % 2 = 0 → i + 1 < l.length → stepL (l.take (i + 2)) = stepL (l.take i) ++ [(l.getD i 0, l.getD (i + 1) 0)]
  | [], i, _, h => by simp at h
  | [a], i, _, h => by simp at h
  | a :: b :: r, 0, _, _ => by simp [stepL]
  | a :: b :: r, 1, h, _ => by simp at h
  | a :: b :: r, i + 2, h0, h => by
    have := stepL_take (l := r) (i := i) (by omega) (by simp only [List.length_cons] at h; omega)
    simp only [List.take_succ_cons, stepL, this, List.getD_cons_succ, List.cons_append]
theorem stepL_all : ∀ {l : List Int} {i : Nat}, i % 2 = 0 → i ≤ l.length → ¬ i + 1 < l.length → stepL (l.take i) = stepL l
  | [], i, _, _, _ => by simp
  | [a], 0, _, _, _ => by simp [stepL]
  | [a], 1, h, _, _ => by simp at h
  | [a], i + 2, _, h, _ => by simp at h
  | a :: b :: r, 0, _, _, h => by simp at h
  | a :: b :: r, 1, h, _, _ => by simp at h
  | a :: b :: r, i + 2, h0, h1, h => by
    have := stepL_all (l := r) (i := i) (by omega) (by simp only [List.length_cons] at h1; omega) (by simp only [List.length_cons] at h; omega)
    simp only [List.take_succ_cons, stepL, this]
theorem stepL_length : ∀ l : List Int, (stepL l).length = l.length / 2
  | [] => by simp [stepL]
  | [a] => by simp [stepL]
  | a :: b :: r => by simp only [stepL, List.length_cons, stepL_length r]; omega
def ctSteps : Ct := fun l => match l with
  | [.lst .i64 l] => some (l.length ≤ 1099511627776, .lst .stp (stepL l))
  | _ => none
theorem ok45 : Sound Tryz.prog 45 ctSteps := by
  refine sound_of (fn := Tryz.f45) rfl rfl rfl tiOk env0_ok mix ?_ (by intro l p r h; unfold ctSteps at h; split at h <;> cases h <;> exact Nat.le_of_ble_eq_true rfl)
  intro l p r h hp F vs hv
  unfold ctSteps at h
  split at h <;> cases h
  rename_i l
  obtain ⟨v0, rest0, rfl, a0, hv⟩ := hv
  refine ⟨[_], ⟨_, _, rfl, a0, hv⟩, ?_⟩
  show Run Tryz.prog ti env0 26 (finR ti [.tmp 2] _) _ _ _
  repeat' (first | with_reducible refine run_seq ?_ | with_reducible refine run_block ?_ | with_reducible refine step_code ?_ | with_reducible refine step_blk ?_ | with_reducible refine run_skip ?_ | with_reducible refine run_exit ?_ | with_reducible refine exits_code ?_ | with_reducible refine exits_here ?_ | with_reducible refine exits_blk rfl ?_ | with_reducible refine exits_lp ?_ | with_reducible refine run_ret ?_ | ((first | with_reducible refine run_region ?_ | with_reducible refine run_draw (by kernel_rfl) ?_); simp only [↓guardP_tt, ↓guardP_tf, ↓guardP_ft, ↓guardP_ff, guardP_t, guardP_f, evalQ, evalR, effQ, effR, skipS, opEff, evO, plainV, lkS, lkM, updL, putS, tie_sz, tie_zero, tie_zeroB, tie_fld, tie_ek, tie_int, tie_isb, tie_eq2, tie_f1, tie_ms, tie2_sz, tie2_zero, tie2_zeroB, tie2_fld, tie2_ek, tie2_int, tie2_isb, tie2_eq2, tie2_f1, tie2_ms, ti_ek2, ti_f1, ti_ms, ti_sz, ti_zero, ti_zeroB, ti_fld, ti_ek, ti_int, ti_isb, ti_eq2, binA, binI, intOp, funOf_v, cloOf_v, calIds, appEff, frE, foldB, foldS, castL_self, K.enc, K.dec, K.zero, K.es, K.bytes, AV.part, AV.setPart, AV.cells, AV.agg, AV.nth, Bool.false_eq_true, callEff, pubs, pub, nilAV, MM.upd, MM.set, argS, gdst, opIds, lids, AV.ids, List.getD_cons_succ, List.getD_cons_zero, List.map, List.tail, List.headD, List.nil_append, List.append_nil, List.cons_append, List.length_nil, List.length_cons, List.zip_cons_cons, List.zip_nil_right, List.set_cons_zero, List.set_cons_succ, List.replicate, Option.isSome_some, Option.map_some, Bool.not_true, Bool.not_false, forall_const, false_implies, Nat.reduceAdd, Nat.reduceEqDiff, Nat.reduceLT, Nat.reduceSub, Nat.reduceMul, Nat.reduceLeDiff, ↓reduceIte, and_true, true_and, and_self, false_and, and_false, reduceCtorEq, env0]) | (with_reducible refine run_cond (by with_unfolding_all exact rfl) ?_ ?_ <;> intro hc <;> (try simp only [vb, decide_eq_true_eq, decide_eq_false_iff_not, beq_iff_eq, beq_eq_false_iff_ne, bne_iff_ne, bne_eq_false_iff_eq, Bool.not_eq_true', Bool.not_eq_false', reduceCtorEq] at hc) <;> (try (first | simp (disch := omega) only [wrap64, wrapu64, wrapu32, sh32, fdiv32, Int.tdiv_eq_ediv_of_nonneg, Int.tmod_eq_emod_of_nonneg, tn_add, tn_add1, Int.toNat_natCast, Int.toNat_zero, List.drop_zero] at hc | simp only [wrapu64m, wrapu32m] at hc))) | ((with_reducible refine compat_ok ?_); kernel_rfl) | with_reducible apply And.intro | (first | simp (disch := omega) only [wrap64, wrapu64, wrapu32, sh32, fdiv32, Int.tdiv_eq_ediv_of_nonneg, Int.tmod_eq_emod_of_nonneg, tn_add, tn_add1, Int.toNat_natCast, Int.toNat_zero, List.drop_zero] | simp only [wrapu64m, wrapu32m]) | (with_reducible intro hg; (try simp only [vb, decide_eq_true_eq, decide_eq_false_iff_not, beq_iff_eq, beq_eq_false_iff_ne, bne_iff_ne, bne_eq_false_iff_eq, Bool.not_eq_true', Bool.not_eq_false', reduceCtorEq] at hg); (try (first | simp (disch := omega) only [wrap64, wrapu64, wrapu32, sh32, fdiv32, Int.tdiv_eq_ediv_of_nonneg, Int.tmod_eq_emod_of_nonneg, tn_add, tn_add1, Int.toNat_natCast, Int.toNat_zero, List.drop_zero] at hg | simp only [wrapu64m, wrapu32m] at hg))))
  all_goals try omega
  refine run_loop (ι := Nat) (fun i => ⟨[(4, vi i), (3, .row 0), (0, .lst .i64 l)], [(0, some (.row 47 .stp (stepL (l.take i)) false))], 1⟩) (fun i => i ≤ l.length ∧ i % 2 = 0) (fun i => l.length - i) 0 ⟨Nat.zero_le _, rfl⟩ ?_ ?_
  · (refine AS.le_ren [(0, none)] ?_ ?_ rfl <;> simp only [slLeR, memLeR, entLeR, rn, entLe, lkS, lkM, Nat.reduceEqDiff, Nat.reduceLT, Nat.reduceAdd, or_true, true_or, reduceCtorEq, ↓reduceIte, and_true, true_and] <;> (repeat' with_reducible apply And.intro) <;> (try (first | exact AV.leR_ptr (Nat.le_of_ble_eq_true rfl) rfl | exact AV.leR_row (Nat.le_of_ble_eq_true rfl) rfl | exact AV.leR_nil (Nat.le_of_ble_eq_true rfl) rfl | exact AV.leR_ep (Nat.le_of_ble_eq_true rfl) rfl | ((with_reducible refine AV.leR_of rfl ?_); try (first | ((with_reducible refine AV.le_refl ?_); rfl) | with_reducible exact AV.le_junk | with_reducible exact AV.le_nil | ((with_reducible refine AV.le_int ?_); omega) | (with_reducible refine AV.le_int ?_) | (with_reducible refine AV.le_bool ?_) | ((with_reducible refine AV.le_lst ?_); try rfl) | (with_reducible refine AV.le_q ?_ ?_ ?_) | exact fun _ _ h => h | (with_reducible refine RC_qle ?_ ?_ ?_))) | exact fun _ _ h => h)))
    rfl
  rintro i ⟨hi, hm⟩
  have hsl := stepL_length (l.take i)
  have hlen := List.length_take_le i l
  repeat' (first | with_reducible refine run_seq ?_ | with_reducible refine run_block ?_ | with_reducible refine step_code ?_ | with_reducible refine step_blk ?_ | with_reducible refine run_skip ?_ | with_reducible refine run_exit ?_ | with_reducible refine exits_code ?_ | with_reducible refine exits_here ?_ | with_reducible refine exits_blk rfl ?_ | with_reducible refine exits_lp ?_ | with_reducible refine run_ret ?_ | ((first | with_reducible refine run_region ?_ | with_reducible refine run_draw (by kernel_rfl) ?_); simp only [↓guardP_tt, ↓guardP_tf, ↓guardP_ft, ↓guardP_ff, guardP_t, guardP_f, evalQ, evalR, effQ, effR, skipS, opEff, evO, plainV, lkS, lkM, updL, putS, tie_sz, tie_zero, tie_zeroB, tie_fld, tie_ek, tie_int, tie_isb, tie_eq2, tie_f1, tie_ms, tie2_sz, tie2_zero, tie2_zeroB, tie2_fld, tie2_ek, tie2_int, tie2_isb, tie2_eq2, tie2_f1, tie2_ms, ti_ek2, ti_f1, ti_ms, ti_sz, ti_zero, ti_zeroB, ti_fld, ti_ek, ti_int, ti_isb, ti_eq2, binA, binI, intOp, funOf_v, cloOf_v, calIds, appEff, frE, foldB, foldS, castL_self, K.enc, K.dec, K.zero, K.es, K.bytes, AV.part, AV.setPart, AV.cells, AV.agg, AV.nth, Bool.false_eq_true, callEff, pubs, pub, nilAV, MM.upd, MM.set, argS, gdst, opIds, lids, AV.ids, List.getD_cons_succ, List.getD_cons_zero, List.map, List.tail, List.headD, List.nil_append, List.append_nil, List.cons_append, List.length_nil, List.length_cons, List.zip_cons_cons, List.zip_nil_right, List.set_cons_zero, List.set_cons_succ, List.replicate, Option.isSome_some, Option.map_some, Bool.not_true, Bool.not_false, forall_const, false_implies, Nat.reduceAdd, Nat.reduceEqDiff, Nat.reduceLT, Nat.reduceSub, Nat.reduceMul, Nat.reduceLeDiff, ↓reduceIte, and_true, true_and, and_self, false_and, and_false, reduceCtorEq, env0]) | (with_reducible refine run_cond (by with_unfolding_all exact rfl) ?_ ?_ <;> intro hc <;> (try simp only [vb, decide_eq_true_eq, decide_eq_false_iff_not, beq_iff_eq, beq_eq_false_iff_ne, bne_iff_ne, bne_eq_false_iff_eq, Bool.not_eq_true', Bool.not_eq_false', reduceCtorEq] at hc) <;> (try (first | simp (disch := omega) only [wrap64, wrapu64, wrapu32, sh32, fdiv32, Int.tdiv_eq_ediv_of_nonneg, Int.tmod_eq_emod_of_nonneg, tn_add, tn_add1, Int.toNat_natCast, Int.toNat_zero, List.drop_zero] at hc | simp only [wrapu64m, wrapu32m] at hc))) | ((with_reducible refine compat_ok ?_); kernel_rfl) | with_reducible apply And.intro | (first | simp (disch := omega) only [wrap64, wrapu64, wrapu32, sh32, fdiv32, Int.tdiv_eq_ediv_of_nonneg, Int.tmod_eq_emod_of_nonneg, tn_add, tn_add1, Int.toNat_natCast, Int.toNat_zero, List.drop_zero] | simp only [wrapu64m, wrapu32m]) | (with_reducible intro hg; (try simp only [vb, decide_eq_true_eq, decide_eq_false_iff_not, beq_iff_eq, beq_eq_false_iff_ne, bne_iff_ne, bne_eq_false_iff_eq, Bool.not_eq_true', Bool.not_eq_false', reduceCtorEq] at hg); (try (first | simp (disch := omega) only [wrap64, wrapu64, wrapu32, sh32, fdiv32, Int.tdiv_eq_ediv_of_nonneg, Int.tmod_eq_emod_of_nonneg, tn_add, tn_add1, Int.toNat_natCast, Int.toNat_zero, List.drop_zero] at hg | simp only [wrapu64m, wrapu32m] at hg))))
  all_goals try omega
  · refine step_lp ⟨i + 2, ⟨by omega, by omega⟩, by omega, ?_⟩
    rw [stepL_take hm (by omega)]
    (refine AS.le_ren [(0, some 18)] ?_ ?_ rfl <;> simp only [slLeR, memLeR, entLeR, rn, entLe, lkS, lkM, Nat.reduceEqDiff, Nat.reduceLT, Nat.reduceAdd, or_true, true_or, reduceCtorEq, ↓reduceIte, and_true, true_and] <;> (repeat' with_reducible apply And.intro) <;> (try (first | exact AV.leR_ptr (Nat.le_of_ble_eq_true rfl) rfl | exact AV.leR_row (Nat.le_of_ble_eq_true rfl) rfl | exact AV.leR_nil (Nat.le_of_ble_eq_true rfl) rfl | exact AV.leR_ep (Nat.le_of_ble_eq_true rfl) rfl | ((with_reducible refine AV.leR_of rfl ?_); try (first | ((with_reducible refine AV.le_refl ?_); rfl) | with_reducible exact AV.le_junk | with_reducible exact AV.le_nil | ((with_reducible refine AV.le_int ?_); omega) | (with_reducible refine AV.le_int ?_) | (with_reducible refine AV.le_bool ?_) | ((with_reducible refine AV.le_lst ?_); try rfl) | (with_reducible refine AV.le_q ?_ ?_ ?_) | exact fun _ _ h => h | (with_reducible refine RC_qle ?_ ?_ ?_))) | exact fun _ _ h => h)))
  · simp only [finR, resAs, resA, resLe, lsLe, lkS, lkM, pubs, pub, tie_sz, ti_sz, tie_ek, ti_ek, tie2_sz, tie2_ek, ti_ek2, nilAV, MM.upd, MM.set, AV.part, AV.cells, AV.agg, List.tail, List.headD, Nat.reduceAdd, Nat.reduceEqDiff, Nat.reduceLT, ↓reduceIte, and_true, true_and, and_self, reduceCtorEq]
    exact AVle_lst (stepL_all hm hi (by omega))
def ctGot : Ct := fun l => match l with
  | [.lst .stp l, a, b, .v (.bool bid)] => match qA a, qA b with
    | some (p, s), some (q, t) => some (l.length ≤ 1099511627776 ∧ s ≤ 1000 ∧ t ≤ 1000, .q (if bid = true then -(p * q - costK l q) else p * q - costK l q) true 24000)
    | _, _ => none
  | _ => none
def env39 : Env := fun g => match g with | 13 => some ctCost | 64 => some ctMulQ | 62 => some ctSubQ | _ => none
theorem env39_ok : EnvOk Tryz.prog env39 := by
  intro g ct h
  simp only [env39] at h
  split at h <;> first | (cases h; exact ok13) | (cases h; exact ok64) | (cases h; exact ok62) | cases h
def ctRows : Ct := fun l => match l with
  | [.lst .q a, .lst .q b] => some (a.length ≤ 1099511627776 ∧ b.length ≤ 1099511627776 ∧ (∀ v ∈ a, v.c = true ∧ v.s ≤ 1099511627776) ∧ (∀ v ∈ b, v.c = true ∧ v.s ≤ 1099511627776), vb (decide (a.map (·.x) = b.map (·.x))))
  | _ => none
def env40 : Env := fun g => match g with | 15 => some ctIs | _ => none
theorem env40_ok : EnvOk Tryz.prog env40 := by
  intro g ct h
  simp only [env40] at h
  split at h <;> first | (cases h; exact ok15) | cases h
theorem ok14 : Sound Tryz.prog 14 ctRows := by
  refine sound_of (fn := Tryz.f14) rfl rfl rfl tiOk env40_ok mix ?_ (by intro l p r h; unfold ctRows at h; split at h <;> cases h <;> exact Nat.le_of_ble_eq_true rfl)
  intro l p r h hp F vs hv
  unfold ctRows at h
  split at h <;> cases h
  rename_i a b
  obtain ⟨hl1, hl2, hca, hcb⟩ := hp
  obtain ⟨v0, rest0, rfl, a0, hv⟩ := hv
  obtain ⟨v1, rest1, rfl, a1, hv⟩ := hv
  refine ⟨[_, _], ⟨_, _, rfl, a0, _, _, rfl, a1, hv⟩, ?_⟩
  show Run Tryz.prog ti env40 27 (finR ti [.tmp 4] _) _ _ _
  repeat' (first | with_reducible refine run_seq ?_ | with_reducible refine run_block ?_ | with_reducible refine step_code ?_ | with_reducible refine step_blk ?_ | with_reducible refine run_skip ?_ | with_reducible refine run_exit ?_ | with_reducible refine exits_code ?_ | with_reducible refine exits_here ?_ | with_reducible refine exits_blk rfl ?_ | with_reducible refine exits_lp ?_ | with_reducible refine run_ret ?_ | ((first | with_reducible refine run_region ?_ | with_reducible refine run_draw (by kernel_rfl) ?_); simp only [↓guardP_tt, ↓guardP_tf, ↓guardP_ft, ↓guardP_ff, guardP_t, guardP_f, evalQ, evalR, effQ, effR, skipS, opEff, evO, plainV, lkS, lkM, updL, putS, tie_sz, tie_zero, tie_zeroB, tie_fld, tie_ek, tie_int, tie_isb, tie_eq2, tie_f1, tie_ms, tie2_sz, tie2_zero, tie2_zeroB, tie2_fld, tie2_ek, tie2_int, tie2_isb, tie2_eq2, tie2_f1, tie2_ms, ti_ek2, ti_f1, ti_ms, ti_sz, ti_zero, ti_zeroB, ti_fld, ti_ek, ti_int, ti_isb, ti_eq2, binA, binI, intOp, funOf_v, cloOf_v, calIds, appEff, frE, foldB, foldS, castL_self, K.enc, K.dec, K.zero, K.es, K.bytes, AV.part, AV.setPart, AV.cells, AV.agg, AV.nth, Bool.false_eq_true, callEff, pubs, pub, nilAV, MM.upd, MM.set, argS, gdst, opIds, lids, AV.ids, List.getD_cons_succ, List.getD_cons_zero, List.map, List.tail, List.headD, List.nil_append, List.append_nil, List.cons_append, List.length_nil, List.length_cons, List.zip_cons_cons, List.zip_nil_right, List.set_cons_zero, List.set_cons_succ, List.replicate, Option.isSome_some, Option.map_some, Bool.not_true, Bool.not_false, forall_const, false_implies, Nat.reduceAdd, Nat.reduceEqDiff, Nat.reduceLT, Nat.reduceSub, Nat.reduceMul, Nat.reduceLeDiff, ↓reduceIte, and_true, true_and, and_self, false_and, and_false, reduceCtorEq, env40]) | (with_reducible refine run_cond (by with_unfolding_all exact rfl) ?_ ?_ <;> intro hc <;> (try simp only [vb, decide_eq_true_eq, decide_eq_false_iff_not, beq_iff_eq, beq_eq_false_iff_ne, bne_iff_ne, bne_eq_false_iff_eq, Bool.not_eq_true', Bool.not_eq_false', reduceCtorEq] at hc) <;> (try (first | simp (disch := omega) only [wrap64, wrapu64, wrapu32, sh32, fdiv32, Int.tdiv_eq_ediv_of_nonneg, Int.tmod_eq_emod_of_nonneg, tn_add, tn_add1, Int.toNat_natCast, Int.toNat_zero, List.drop_zero] at hc | simp only [wrapu64m, wrapu32m] at hc))) | ((with_reducible refine compat_ok ?_); kernel_rfl) | with_reducible apply And.intro | (first | simp (disch := omega) only [wrap64, wrapu64, wrapu32, sh32, fdiv32, Int.tdiv_eq_ediv_of_nonneg, Int.tmod_eq_emod_of_nonneg, tn_add, tn_add1, Int.toNat_natCast, Int.toNat_zero, List.drop_zero] | simp only [wrapu64m, wrapu32m]) | (with_reducible intro hg; (try simp only [vb, decide_eq_true_eq, decide_eq_false_iff_not, beq_iff_eq, beq_eq_false_iff_ne, bne_iff_ne, bne_eq_false_iff_eq, Bool.not_eq_true', Bool.not_eq_false', reduceCtorEq] at hg); (try (first | simp (disch := omega) only [wrap64, wrapu64, wrapu32, sh32, fdiv32, Int.tdiv_eq_ediv_of_nonneg, Int.tmod_eq_emod_of_nonneg, tn_add, tn_add1, Int.toNat_natCast, Int.toNat_zero, List.drop_zero] at hg | simp only [wrapu64m, wrapu32m] at hg))))
  all_goals try omega
  · simp only [finR, resAs, resA, resLe, lsLe, lkS, lkM, pubs, pub, tie_sz, ti_sz, tie_ek, ti_ek, tie2_sz, tie2_ek, ti_ek2, nilAV, MM.upd, MM.set, AV.part, AV.cells, AV.agg, List.tail, List.headD, Nat.reduceAdd, Nat.reduceEqDiff, Nat.reduceLT, ↓reduceIte, and_true, true_and, and_self, reduceCtorEq]
    refine AVle_bool ?_
    symm
    rw [decide_eq_false_iff_not]
    intro h
    have := congrArg List.length h
    simp only [List.length_map] at this
    omega
  have hlen : a.length = b.length := by omega
  refine run_loop (ι := Nat) (fun i => ⟨[(5, vi i), (0, .lst .q a), (1, .lst .q b)], [], 0⟩) (fun i => i ≤ a.length ∧ (a.map (·.x)).take i = (b.map (·.x)).take i) (fun i => a.length - i) 0 ⟨Nat.zero_le _, rfl⟩ ?_ ?_
  · (refine AS.le_of ?_ ?_ <;> simp only [slLe, memLe, entLe, lkS, lkM, Nat.reduceEqDiff, Nat.reduceLT, or_true, true_or, reduceCtorEq, ↓reduceIte, and_true, true_and] <;> (repeat' with_reducible apply And.intro) <;> (try (first | ((with_reducible refine AV.le_refl ?_); rfl) | with_reducible exact AV.le_junk | with_reducible exact AV.le_nil | ((with_reducible refine AV.le_int ?_); omega) | (with_reducible refine AV.le_int ?_) | (with_reducible refine AV.le_bool ?_) | ((with_reducible refine AV.le_lst ?_); try rfl) | (with_reducible refine AV.le_q ?_ ?_ ?_) | exact fun _ _ h => h | (with_reducible refine RC_qle ?_ ?_ ?_))))
  rintro i ⟨hi, ht⟩
  by_cases hlt : i < a.length
  · have ha := hca (a.getD i ⟨0, true, 0⟩) (by rw [List.getD_eq_getElem?_getD, List.getElem?_eq_getElem hlt]; exact List.getElem_mem _)
    have hb := hcb (b.getD i ⟨0, true, 0⟩) (by rw [List.getD_eq_getElem?_getD, List.getElem?_eq_getElem (hlen ▸ hlt)]; exact List.getElem_mem _)
    obtain ⟨ha1, ha2⟩ := ha
    obtain ⟨hb1, hb2⟩ := hb
    have hxa : (a.map (·.x)).getD i 0 = (a.getD i ⟨0, true, 0⟩).x := by simp [List.getD_eq_getElem?_getD, List.getElem?_eq_getElem hlt]
    have hxb : (b.map (·.x)).getD i 0 = (b.getD i ⟨0, true, 0⟩).x := by simp [List.getD_eq_getElem?_getD, List.getElem?_eq_getElem (hlen ▸ hlt : i < b.length)]
    have hts := take_eq_succ (0 : Rat) (a := a.map (·.x)) (b := b.map (·.x)) (by simpa using hlen) (i := i) (by simpa using hlt)
    rw [hxa, hxb] at hts
    have hqa : qC (.q (a.getD i ⟨0, true, 0⟩).x (a.getD i ⟨0, true, 0⟩).c (a.getD i ⟨0, true, 0⟩).s) = some (a.getD i ⟨0, true, 0⟩).x := by rw [ha1]; rfl
    have hqb : qC (.q (b.getD i ⟨0, true, 0⟩).x (b.getD i ⟨0, true, 0⟩).c (b.getD i ⟨0, true, 0⟩).s) = some (b.getD i ⟨0, true, 0⟩).x := by rw [hb1]; rfl
    repeat' (first | with_reducible refine run_seq ?_ | with_reducible refine run_block ?_ | with_reducible refine step_code ?_ | with_reducible refine step_blk ?_ | with_reducible refine run_skip ?_ | with_reducible refine run_exit ?_ | with_reducible refine exits_code ?_ | with_reducible refine exits_here ?_ | with_reducible refine exits_blk rfl ?_ | with_reducible refine exits_lp ?_ | with_reducible refine run_ret ?_ | ((first | with_reducible refine run_region ?_ | with_reducible refine run_draw (by kernel_rfl) ?_); simp only [↓guardP_tt, ↓guardP_tf, ↓guardP_ft, ↓guardP_ff, guardP_t, guardP_f, evalQ, evalR, effQ, effR, skipS, opEff, evO, plainV, lkS, lkM, updL, putS, tie_sz, tie_zero, tie_zeroB, tie_fld, tie_ek, tie_int, tie_isb, tie_eq2, tie_f1, tie_ms, tie2_sz, tie2_zero, tie2_zeroB, tie2_fld, tie2_ek, tie2_int, tie2_isb, tie2_eq2, tie2_f1, tie2_ms, ti_ek2, ti_f1, ti_ms, ti_sz, ti_zero, ti_zeroB, ti_fld, ti_ek, ti_int, ti_isb, ti_eq2, binA, binI, intOp, funOf_v, cloOf_v, calIds, appEff, frE, foldB, foldS, castL_self, K.enc, K.dec, K.zero, K.es, K.bytes, AV.part, AV.setPart, AV.cells, AV.agg, AV.nth, Bool.false_eq_true, callEff, pubs, pub, nilAV, MM.upd, MM.set, argS, gdst, opIds, lids, AV.ids, List.getD_cons_succ, List.getD_cons_zero, List.map, List.tail, List.headD, List.nil_append, List.append_nil, List.cons_append, List.length_nil, List.length_cons, List.zip_cons_cons, List.zip_nil_right, List.set_cons_zero, List.set_cons_succ, List.replicate, Option.isSome_some, Option.map_some, Bool.not_true, Bool.not_false, forall_const, false_implies, Nat.reduceAdd, Nat.reduceEqDiff, Nat.reduceLT, Nat.reduceSub, Nat.reduceMul, Nat.reduceLeDiff, ↓reduceIte, and_true, true_and, and_self, false_and, and_false, reduceCtorEq, env40, ctIs, hqa, hqb, qA, Int.toNat_natCast]) | (with_reducible refine run_cond (by with_unfolding_all exact rfl) ?_ ?_ <;> intro hc <;> (try simp only [vb, decide_eq_true_eq, decide_eq_false_iff_not, beq_iff_eq, beq_eq_false_iff_ne, bne_iff_ne, bne_eq_false_iff_eq, Bool.not_eq_true', Bool.not_eq_false', reduceCtorEq] at hc) <;> (try (first | simp (disch := omega) only [wrap64, wrapu64, wrapu32, sh32, fdiv32, Int.tdiv_eq_ediv_of_nonneg, Int.tmod_eq_emod_of_nonneg, tn_add, tn_add1, Int.toNat_natCast, Int.toNat_zero, List.drop_zero] at hc | simp only [wrapu64m, wrapu32m] at hc))) | ((with_reducible refine compat_ok ?_); kernel_rfl) | with_reducible apply And.intro | (first | simp (disch := omega) only [wrap64, wrapu64, wrapu32, sh32, fdiv32, Int.tdiv_eq_ediv_of_nonneg, Int.tmod_eq_emod_of_nonneg, tn_add, tn_add1, Int.toNat_natCast, Int.toNat_zero, List.drop_zero] | simp only [wrapu64m, wrapu32m]) | (with_reducible intro hg; (try simp only [vb, decide_eq_true_eq, decide_eq_false_iff_not, beq_iff_eq, beq_eq_false_iff_ne, bne_iff_ne, bne_eq_false_iff_eq, Bool.not_eq_true', Bool.not_eq_false', reduceCtorEq] at hg); (try (first | simp (disch := omega) only [wrap64, wrapu64, wrapu32, sh32, fdiv32, Int.tdiv_eq_ediv_of_nonneg, Int.tmod_eq_emod_of_nonneg, tn_add, tn_add1, Int.toNat_natCast, Int.toNat_zero, List.drop_zero] at hg | simp only [wrapu64m, wrapu32m] at hg))))
    all_goals try omega
    · exact ⟨_, _, _, _, rfl, rfl, ha2, hb2⟩
    · simp only [finR, resAs, resA, resLe, lsLe, lkS, lkM, pubs, pub, tie_sz, ti_sz, tie_ek, ti_ek, tie2_sz, tie2_ek, ti_ek2, nilAV, MM.upd, MM.set, AV.part, AV.cells, AV.agg, List.tail, List.headD, Nat.reduceAdd, Nat.reduceEqDiff, Nat.reduceLT, ↓reduceIte, and_true, true_and, and_self, reduceCtorEq]
      refine AVle_bool ?_
      symm
      rw [decide_eq_false_iff_not]
      intro h
      rw [h] at hxa
      exact hc (hxa.symm.trans hxb)
    · refine step_lp ⟨i + 1, ⟨by omega, hts.2 ⟨ht, hc⟩⟩, by omega, ?_⟩
      (refine AS.le_of ?_ ?_ <;> simp only [slLe, memLe, entLe, lkS, lkM, Nat.reduceEqDiff, Nat.reduceLT, or_true, true_or, reduceCtorEq, ↓reduceIte, and_true, true_and] <;> (repeat' with_reducible apply And.intro) <;> (try (first | ((with_reducible refine AV.le_refl ?_); rfl) | with_reducible exact AV.le_junk | with_reducible exact AV.le_nil | ((with_reducible refine AV.le_int ?_); omega) | (with_reducible refine AV.le_int ?_) | (with_reducible refine AV.le_bool ?_) | ((with_reducible refine AV.le_lst ?_); try rfl) | (with_reducible refine AV.le_q ?_ ?_ ?_) | exact fun _ _ h => h | (with_reducible refine RC_qle ?_ ?_ ?_))))
  · repeat' (first | with_reducible refine run_seq ?_ | with_reducible refine run_block ?_ | with_reducible refine step_code ?_ | with_reducible refine step_blk ?_ | with_reducible refine run_skip ?_ | with_reducible refine run_exit ?_ | with_reducible refine exits_code ?_ | with_reducible refine exits_here ?_ | with_reducible refine exits_blk rfl ?_ | with_reducible refine exits_lp ?_ | with_reducible refine run_ret ?_ | ((first | with_reducible refine run_region ?_ | with_reducible refine run_draw (by kernel_rfl) ?_); simp only [↓guardP_tt, ↓guardP_tf, ↓guardP_ft, ↓guardP_ff, guardP_t, guardP_f, evalQ, evalR, effQ, effR, skipS, opEff, evO, plainV, lkS, lkM, updL, putS, tie_sz, tie_zero, tie_zeroB, tie_fld, tie_ek, tie_int, tie_isb, tie_eq2, tie_f1, tie_ms, tie2_sz, tie2_zero, tie2_zeroB, tie2_fld, tie2_ek, tie2_int, tie2_isb, tie2_eq2, tie2_f1, tie2_ms, ti_ek2, ti_f1, ti_ms, ti_sz, ti_zero, ti_zeroB, ti_fld, ti_ek, ti_int, ti_isb, ti_eq2, binA, binI, intOp, funOf_v, cloOf_v, calIds, appEff, frE, foldB, foldS, castL_self, K.enc, K.dec, K.zero, K.es, K.bytes, AV.part, AV.setPart, AV.cells, AV.agg, AV.nth, Bool.false_eq_true, callEff, pubs, pub, nilAV, MM.upd, MM.set, argS, gdst, opIds, lids, AV.ids, List.getD_cons_succ, List.getD_cons_zero, List.map, List.tail, List.headD, List.nil_append, List.append_nil, List.cons_append, List.length_nil, List.length_cons, List.zip_cons_cons, List.zip_nil_right, List.set_cons_zero, List.set_cons_succ, List.replicate, Option.isSome_some, Option.map_some, Bool.not_true, Bool.not_false, forall_const, false_implies, Nat.reduceAdd, Nat.reduceEqDiff, Nat.reduceLT, Nat.reduceSub, Nat.reduceMul, Nat.reduceLeDiff, ↓reduceIte, and_true, true_and, and_self, false_and, and_false, reduceCtorEq, env40]) | (with_reducible refine run_cond (by with_unfolding_all exact rfl) ?_ ?_ <;> intro hc <;> (try simp only [vb, decide_eq_true_eq, decide_eq_false_iff_not, beq_iff_eq, beq_eq_false_iff_ne, bne_iff_ne, bne_eq_false_iff_eq, Bool.not_eq_true', Bool.not_eq_false', reduceCtorEq] at hc) <;> (try (first | simp (disch := omega) only [wrap64, wrapu64, wrapu32, sh32, fdiv32, Int.tdiv_eq_ediv_of_nonneg, Int.tmod_eq_emod_of_nonneg, tn_add, tn_add1, Int.toNat_natCast, Int.toNat_zero, List.drop_zero] at hc | simp only [wrapu64m, wrapu32m] at hc))) | ((with_reducible refine compat_ok ?_); kernel_rfl) | with_reducible apply And.intro | (first | simp (disch := omega) only [wrap64, wrapu64, wrapu32, sh32, fdiv32, Int.tdiv_eq_ediv_of_nonneg, Int.tmod_eq_emod_of_nonneg, tn_add, tn_add1, Int.toNat_natCast, Int.toNat_zero, List.drop_zero] | simp only [wrapu64m, wrapu32m]) | (with_reducible intro hg; (try simp only [vb, decide_eq_true_eq, decide_eq_false_iff_not, beq_iff_eq, beq_eq_false_iff_ne, bne_iff_ne, bne_eq_false_iff_eq, Bool.not_eq_true', Bool.not_eq_false', reduceCtorEq] at hg); (try (first | simp (disch := omega) only [wrap64, wrapu64, wrapu32, sh32, fdiv32, Int.tdiv_eq_ediv_of_nonneg, Int.tmod_eq_emod_of_nonneg, tn_add, tn_add1, Int.toNat_natCast, Int.toNat_zero, List.drop_zero] at hg | simp only [wrapu64m, wrapu32m] at hg))))
    all_goals try omega
    simp only [finR, resAs, resA, resLe, lsLe, lkS, lkM, pubs, pub, tie_sz, ti_sz, tie_ek, ti_ek, tie2_sz, tie2_ek, ti_ek2, nilAV, MM.upd, MM.set, AV.part, AV.cells, AV.agg, List.tail, List.headD, Nat.reduceAdd, Nat.reduceEqDiff, Nat.reduceLT, ↓reduceIte, and_true, true_and, and_self, reduceCtorEq]
    refine AVle_bool ?_
    symm
    rw [decide_eq_true_eq]
    rw [List.take_of_length_le (by simp; omega), List.take_of_length_le (by simp; omega)] at ht
    exact ht
def ctSame23 : Ct := fun l => match l with
  | [.lst .stp a, .lst .stp b] => some (a.length ≤ 1099511627776 ∧ b.length ≤ 1099511627776, vb (decide (a = b)))
  | _ => none
theorem ok16 : Sound Tryz.prog 16 ctSame23 := by
  refine sound_of (fn := Tryz.f16) rfl rfl rfl tiOk env0_ok mix ?_ (by intro l p r h; unfold ctSame23 at h; split at h <;> cases h <;> exact Nat.le_of_ble_eq_true rfl)
  intro l p r h hp F vs hv
  unfold ctSame23 at h
  split at h <;> cases h
  rename_i a b
  obtain ⟨v0, rest0, rfl, a0, hv⟩ := hv
  obtain ⟨v1, rest1, rfl, a1, hv⟩ := hv
  refine ⟨[_, _], ⟨_, _, rfl, a0, _, _, rfl, a1, hv⟩, ?_⟩
  show Run Tryz.prog ti env0 26 (finR ti [.tmp 4] _) _ _ _
  repeat' (first | with_reducible refine run_seq ?_ | with_reducible refine run_block ?_ | with_reducible refine step_code ?_ | with_reducible refine step_blk ?_ | with_reducible refine run_skip ?_ | with_reducible refine run_exit ?_ | with_reducible refine exits_code ?_ | with_reducible refine exits_here ?_ | with_reducible refine exits_blk rfl ?_ | with_reducible refine exits_lp ?_ | with_reducible refine run_ret ?_ | ((first | with_reducible refine run_region ?_ | with_reducible refine run_draw (by kernel_rfl) ?_); simp only [↓guardP_tt, ↓guardP_tf, ↓guardP_ft, ↓guardP_ff, guardP_t, guardP_f, evalQ, evalR, effQ, effR, skipS, opEff, evO, plainV, lkS, lkM, updL, putS, tie_sz, tie_zero, tie_zeroB, tie_fld, tie_ek, tie_int, tie_isb, tie_eq2, tie_f1, tie_ms, tie2_sz, tie2_zero, tie2_zeroB, tie2_fld, tie2_ek, tie2_int, tie2_isb, tie2_eq2, tie2_f1, tie2_ms, ti_ek2, ti_f1, ti_ms, ti_sz, ti_zero, ti_zeroB, ti_fld, ti_ek, ti_int, ti_isb, ti_eq2, binA, binI, intOp, funOf_v, cloOf_v, calIds, appEff, frE, foldB, foldS, castL_self, K.enc, K.dec, K.zero, K.es, K.bytes, AV.part, AV.setPart, AV.cells, AV.agg, AV.nth, Bool.false_eq_true, callEff, pubs, pub, nilAV, MM.upd, MM.set, argS, gdst, opIds, lids, AV.ids, List.getD_cons_succ, List.getD_cons_zero, List.map, List.tail, List.headD, List.nil_append, List.append_nil, List.cons_append, List.length_nil, List.length_cons, List.zip_cons_cons, List.zip_nil_right, List.set_cons_zero, List.set_cons_succ, List.replicate, Option.isSome_some, Option.map_some, Bool.not_true, Bool.not_false, forall_const, false_implies, Nat.reduceAdd, Nat.reduceEqDiff, Nat.reduceLT, Nat.reduceSub, Nat.reduceMul, Nat.reduceLeDiff, ↓reduceIte, and_true, true_and, and_self, false_and, and_false, reduceCtorEq, env0]) | (with_reducible refine run_cond (by with_unfolding_all exact rfl) ?_ ?_ <;> intro hc <;> (try simp only [vb, decide_eq_true_eq, decide_eq_false_iff_not, beq_iff_eq, beq_eq_false_iff_ne, bne_iff_ne, bne_eq_false_iff_eq, Bool.not_eq_true', Bool.not_eq_false', reduceCtorEq] at hc) <;> (try (first | simp (disch := omega) only [wrap64, wrapu64, wrapu32, sh32, fdiv32, Int.tdiv_eq_ediv_of_nonneg, Int.tmod_eq_emod_of_nonneg, tn_add, tn_add1, Int.toNat_natCast, Int.toNat_zero, List.drop_zero] at hc | simp only [wrapu64m, wrapu32m] at hc))) | ((with_reducible refine compat_ok ?_); kernel_rfl) | with_reducible apply And.intro | (first | simp (disch := omega) only [wrap64, wrapu64, wrapu32, sh32, fdiv32, Int.tdiv_eq_ediv_of_nonneg, Int.tmod_eq_emod_of_nonneg, tn_add, tn_add1, Int.toNat_natCast, Int.toNat_zero, List.drop_zero] | simp only [wrapu64m, wrapu32m]) | (with_reducible intro hg; (try simp only [vb, decide_eq_true_eq, decide_eq_false_iff_not, beq_iff_eq, beq_eq_false_iff_ne, bne_iff_ne, bne_eq_false_iff_eq, Bool.not_eq_true', Bool.not_eq_false', reduceCtorEq] at hg); (try (first | simp (disch := omega) only [wrap64, wrapu64, wrapu32, sh32, fdiv32, Int.tdiv_eq_ediv_of_nonneg, Int.tmod_eq_emod_of_nonneg, tn_add, tn_add1, Int.toNat_natCast, Int.toNat_zero, List.drop_zero] at hg | simp only [wrapu64m, wrapu32m] at hg))))
  all_goals try omega
  · simp only [finR, resAs, resA, resLe, lsLe, lkS, lkM, pubs, pub, tie_sz, ti_sz, tie_ek, ti_ek, tie2_sz, tie2_ek, ti_ek2, nilAV, MM.upd, MM.set, AV.part, AV.cells, AV.agg, List.tail, List.headD, Nat.reduceAdd, Nat.reduceEqDiff, Nat.reduceLT, ↓reduceIte, and_true, true_and, and_self, reduceCtorEq]
    refine AVle_bool ?_
    symm
    rw [decide_eq_false_iff_not]
    rintro rfl
    exact hc rfl
  have hlen : a.length = b.length := by omega
  refine run_loop (ι := Nat) (fun i => ⟨[(5, vi i), (0, .lst .stp a), (1, .lst .stp b)], [], 0⟩) (fun i => i ≤ a.length ∧ a.take i = b.take i) (fun i => a.length - i) 0 ⟨Nat.zero_le _, rfl⟩ ?_ ?_
  · (refine AS.le_of ?_ ?_ <;> simp only [slLe, memLe, entLe, lkS, lkM, Nat.reduceEqDiff, Nat.reduceLT, or_true, true_or, reduceCtorEq, ↓reduceIte, and_true, true_and] <;> (repeat' with_reducible apply And.intro) <;> (try (first | ((with_reducible refine AV.le_refl ?_); rfl) | with_reducible exact AV.le_junk | with_reducible exact AV.le_nil | ((with_reducible refine AV.le_int ?_); omega) | (with_reducible refine AV.le_int ?_) | (with_reducible refine AV.le_bool ?_) | ((with_reducible refine AV.le_lst ?_); try rfl) | (with_reducible refine AV.le_q ?_ ?_ ?_) | exact fun _ _ h => h | (with_reducible refine RC_qle ?_ ?_ ?_))))
  rintro i ⟨hi, ht⟩
  have hts := fun h => take_eq_succ ((0, 0) : Stp) (a := a) (b := b) hlen (i := i) h
  repeat' (first | with_reducible refine run_seq ?_ | with_reducible refine run_block ?_ | with_reducible refine step_code ?_ | with_reducible refine step_blk ?_ | with_reducible refine run_skip ?_ | with_reducible refine run_exit ?_ | with_reducible refine exits_code ?_ | with_reducible refine exits_here ?_ | with_reducible refine exits_blk rfl ?_ | with_reducible refine exits_lp ?_ | with_reducible refine run_ret ?_ | ((first | with_reducible refine run_region ?_ | with_reducible refine run_draw (by kernel_rfl) ?_); simp only [↓guardP_tt, ↓guardP_tf, ↓guardP_ft, ↓guardP_ff, guardP_t, guardP_f, evalQ, evalR, effQ, effR, skipS, opEff, evO, plainV, lkS, lkM, updL, putS, tie_sz, tie_zero, tie_zeroB, tie_fld, tie_ek, tie_int, tie_isb, tie_eq2, tie_f1, tie_ms, tie2_sz, tie2_zero, tie2_zeroB, tie2_fld, tie2_ek, tie2_int, tie2_isb, tie2_eq2, tie2_f1, tie2_ms, ti_ek2, ti_f1, ti_ms, ti_sz, ti_zero, ti_zeroB, ti_fld, ti_ek, ti_int, ti_isb, ti_eq2, binA, binI, intOp, funOf_v, cloOf_v, calIds, appEff, frE, foldB, foldS, castL_self, K.enc, K.dec, K.zero, K.es, K.bytes, AV.part, AV.setPart, AV.cells, AV.agg, AV.nth, Bool.false_eq_true, callEff, pubs, pub, nilAV, MM.upd, MM.set, argS, gdst, opIds, lids, AV.ids, List.getD_cons_succ, List.getD_cons_zero, List.map, List.tail, List.headD, List.nil_append, List.append_nil, List.cons_append, List.length_nil, List.length_cons, List.zip_cons_cons, List.zip_nil_right, List.set_cons_zero, List.set_cons_succ, List.replicate, Option.isSome_some, Option.map_some, Bool.not_true, Bool.not_false, forall_const, false_implies, Nat.reduceAdd, Nat.reduceEqDiff, Nat.reduceLT, Nat.reduceSub, Nat.reduceMul, Nat.reduceLeDiff, ↓reduceIte, and_true, true_and, and_self, false_and, and_false, reduceCtorEq, env0]) | (with_reducible refine run_cond (by with_unfolding_all exact rfl) ?_ ?_ <;> intro hc <;> (try simp only [vb, decide_eq_true_eq, decide_eq_false_iff_not, beq_iff_eq, beq_eq_false_iff_ne, bne_iff_ne, bne_eq_false_iff_eq, Bool.not_eq_true', Bool.not_eq_false', reduceCtorEq] at hc) <;> (try (first | simp (disch := omega) only [wrap64, wrapu64, wrapu32, sh32, fdiv32, Int.tdiv_eq_ediv_of_nonneg, Int.tmod_eq_emod_of_nonneg, tn_add, tn_add1, Int.toNat_natCast, Int.toNat_zero, List.drop_zero] at hc | simp only [wrapu64m, wrapu32m] at hc))) | ((with_reducible refine compat_ok ?_); kernel_rfl) | with_reducible apply And.intro | (first | simp (disch := omega) only [wrap64, wrapu64, wrapu32, sh32, fdiv32, Int.tdiv_eq_ediv_of_nonneg, Int.tmod_eq_emod_of_nonneg, tn_add, tn_add1, Int.toNat_natCast, Int.toNat_zero, List.drop_zero] | simp only [wrapu64m, wrapu32m]) | (with_reducible intro hg; (try simp only [vb, decide_eq_true_eq, decide_eq_false_iff_not, beq_iff_eq, beq_eq_false_iff_ne, bne_iff_ne, bne_eq_false_iff_eq, Bool.not_eq_true', Bool.not_eq_false', reduceCtorEq] at hg); (try (first | simp (disch := omega) only [wrap64, wrapu64, wrapu32, sh32, fdiv32, Int.tdiv_eq_ediv_of_nonneg, Int.tmod_eq_emod_of_nonneg, tn_add, tn_add1, Int.toNat_natCast, Int.toNat_zero, List.drop_zero] at hg | simp only [wrapu64m, wrapu32m] at hg))))
  all_goals try omega
  · simp only [finR, resAs, resA, resLe, lsLe, lkS, lkM, pubs, pub, tie_sz, ti_sz, tie_ek, ti_ek, tie2_sz, tie2_ek, ti_ek2, nilAV, MM.upd, MM.set, AV.part, AV.cells, AV.agg, List.tail, List.headD, Nat.reduceAdd, Nat.reduceEqDiff, Nat.reduceLT, ↓reduceIte, and_true, true_and, and_self, reduceCtorEq]
    refine AVle_bool ?_
    symm
    rw [decide_eq_false_iff_not]
    rintro rfl
    simp at hc
  · refine step_lp ⟨i + 1, ⟨by omega, (hts (by omega)).2 ⟨ht, ?_⟩⟩, by omega, ?_⟩
    · simp only [Bool.and_eq_true, beq_iff_eq] at hc
      exact Prod.ext hc.1 hc.2
    · (refine AS.le_of ?_ ?_ <;> simp only [slLe, memLe, entLe, lkS, lkM, Nat.reduceEqDiff, Nat.reduceLT, or_true, true_or, reduceCtorEq, ↓reduceIte, and_true, true_and] <;> (repeat' with_reducible apply And.intro) <;> (try (first | ((with_reducible refine AV.le_refl ?_); rfl) | with_reducible exact AV.le_junk | with_reducible exact AV.le_nil | ((with_reducible refine AV.le_int ?_); omega) | (with_reducible refine AV.le_int ?_) | (with_reducible refine AV.le_bool ?_) | ((with_reducible refine AV.le_lst ?_); try rfl) | (with_reducible refine AV.le_q ?_ ?_ ?_) | exact fun _ _ h => h | (with_reducible refine RC_qle ?_ ?_ ?_))))
  · simp only [finR, resAs, resA, resLe, lsLe, lkS, lkM, pubs, pub, tie_sz, ti_sz, tie_ek, ti_ek, tie2_sz, tie2_ek, ti_ek2, nilAV, MM.upd, MM.set, AV.part, AV.cells, AV.agg, List.tail, List.headD, Nat.reduceAdd, Nat.reduceEqDiff, Nat.reduceLT, ↓reduceIte, and_true, true_and, and_self, reduceCtorEq]
    refine AVle_bool ?_
    symm
    rw [decide_eq_true_eq]
    rw [List.take_of_length_le (by omega), List.take_of_length_le (by omega)] at ht
    exact ht
end Go.AE

/- The chapter's examples hold: awake. -/
namespace Go.AE
open Go.Proofs Go.RowKit
set_option linter.unusedVariables false
set_option linter.unusedSimpArgs false
set_option maxRecDepth 20000

def env41 : Env := fun g => match g with | 45 => some ctSteps | 46 => some ctIntR | 12 => some ctAlloc | 13 => some ctCost | 22 => some ctOffer | 24 => some ctBid | 26 => some ctSum | 47 => some ctCosts | 14 => some ctRows | 48 => some ctWanted | _ => none
theorem env41_ok : EnvOk Tryz.prog env41 := by
  intro g ct h
  simp only [env41] at h
  split at h <;> first | (cases h; exact ok45) | (cases h; exact ok46) | (cases h; exact ok12) | (cases h; exact ok13) | (cases h; exact ok22) | (cases h; exact ok24) | (cases h; exact ok26) | (cases h; exact ok47) | (cases h; exact ok14) | (cases h; exact ok48) | cases h
def ctAwake : Ct := fun l => match l with
  | [] => some (True, vb true)
  | _ => none
abbrev lA : List Stp := [(10, 3), (5, 7)]
abbrev mA : List Stp := [(4, 9), (4, 2)]
theorem aw1 : offK lA = 0 := by decide +kernel
theorem aw2 : bidK lA = 3 := by decide +kernel
theorem aw3 : bidK mA = 0 := by decide +kernel
theorem aw4 : sumK lA = 15 := by decide +kernel
theorem aw5 : allE lA ((12 : Int) : Rat) = 0 := by decide +kernel
theorem aw6 : allE lA ((16 : Int) : Rat) = 1 := by decide +kernel
theorem aw7 : costK lA ((12 : Int) : Rat) = ((44 : Int) : Rat) := by decide +kernel
theorem aw8 : allE mA ((6 : Int) : Rat) = 0 ∧ costK mA ((6 : Int) : Rat) = ((40 : Int) : Rat) := by decide +kernel
theorem aw9 : offK [(0, 1)] = 1 := by decide +kernel
theorem aw10 : supL lA ((5 : Int) : Rat) = 10 ∧ supM lA ((5 : Int) : Rat) = 10 := by decide +kernel
theorem aw11 : supL lA ((7 : Int) : Rat) = 10 ∧ supM lA ((7 : Int) : Rat) = 15 := by decide +kernel
theorem aw12 : supL lA ((3 : Int) : Rat) = 0 ∧ supM lA ((3 : Int) : Rat) = 10 := by decide +kernel
theorem aw13 : demL mA ((9 : Int) : Rat) = 0 ∧ demM mA ((9 : Int) : Rat) = 4 := by decide +kernel
theorem aw14 : (alR lA ((12 : Int) : Rat) 2).map (·.x) = [((10 : Int) : Rat), ((2 : Int) : Rat)] := by decide +kernel
theorem aw15 : ∀ v ∈ alR lA ((12 : Int) : Rat) 2, v.c = true ∧ v.s ≤ 1099511627776 := by
  rw [alR, if_pos aw5]
  intro v hv
  obtain ⟨i, hi, rfl⟩ := List.mem_map.1 hv
  have hi2 : i < 2 := by simpa using hi
  have := sAt_le (s := 2) (i := i) (by omega)
  exact ⟨rfl, by simp only; omega⟩
theorem aw16 : (alR lA ((12 : Int) : Rat) 2).length = 2 := by decide +kernel
theorem ok9 : Sound Tryz.prog 9 ctAwake := by
  refine sound_of (fn := Tryz.f9) rfl rfl rfl tiOk env41_ok mix ?_ (by intro l p r h; unfold ctAwake at h; split at h <;> cases h; exact Nat.le_of_ble_eq_true rfl)
  intro l p r h hp F vs hv
  unfold ctAwake at h
  split at h <;> cases h
  refine ⟨_, hv, ?_⟩
  show Run Tryz.prog ti env41 94 (finR ti [.tmp 0] _) _ _ _
  repeat' (first | with_reducible refine run_seq ?_ | with_reducible refine run_block ?_ | with_reducible refine step_code ?_ | with_reducible refine step_blk ?_ | with_reducible refine run_skip ?_ | with_reducible refine run_exit ?_ | with_reducible refine exits_code ?_ | with_reducible refine exits_here ?_ | with_reducible refine exits_blk rfl ?_ | with_reducible refine exits_lp ?_ | with_reducible refine run_ret ?_ | ((first | with_reducible refine run_region ?_ | with_reducible refine run_draw (by kernel_rfl) ?_); simp only [↓guardP_tt, ↓guardP_tf, ↓guardP_ft, ↓guardP_ff, guardP_t, guardP_f, evalQ, evalR, effQ, effR, skipS, opEff, evO, plainV, lkS, lkM, updL, putS, tie_sz, tie_zero, tie_zeroB, tie_fld, tie_ek, tie_int, tie_isb, tie_eq2, tie_f1, tie_ms, tie2_sz, tie2_zero, tie2_zeroB, tie2_fld, tie2_ek, tie2_int, tie2_isb, tie2_eq2, tie2_f1, tie2_ms, ti_ek2, ti_f1, ti_ms, ti_sz, ti_zero, ti_zeroB, ti_fld, ti_ek, ti_int, ti_isb, ti_eq2, binA, binI, intOp, funOf_v, cloOf_v, calIds, appEff, frE, foldB, foldS, castL_self, K.enc, K.dec, K.zero, K.es, K.bytes, AV.part, AV.setPart, AV.cells, AV.agg, AV.nth, Bool.false_eq_true, callEff, pubs, pub, nilAV, MM.upd, MM.set, argS, gdst, opIds, lids, AV.ids, List.getD_cons_succ, List.getD_cons_zero, List.map, List.tail, List.headD, List.nil_append, List.append_nil, List.cons_append, List.length_nil, List.length_cons, List.zip_cons_cons, List.zip_nil_right, List.set_cons_zero, List.set_cons_succ, List.replicate, Option.isSome_some, Option.map_some, Bool.not_true, Bool.not_false, forall_const, false_implies, Nat.reduceAdd, Nat.reduceEqDiff, Nat.reduceLT, Nat.reduceSub, Nat.reduceMul, Nat.reduceLeDiff, ↓reduceIte, and_true, true_and, and_self, false_and, and_false, reduceCtorEq, env41, ctSteps, stepL, ctIntR, ctAlloc, ctCost, ctOffer, ctBid, ctSum, ctCosts, ctRows, ctWanted, qA, qC, List.append_eq, List.toList_toArray, aw1, aw2, aw3, aw4, aw5, aw6, aw7, aw8, aw9, aw10, aw11, aw12, aw13, aw14, beq_self_eq_true, decide_true, Int.reduceBEq, and_self, List.map_cons, List.map_nil, Bool.and_true, Bool.true_and]) | (with_reducible refine run_cond (by with_unfolding_all exact rfl) ?_ ?_ <;> intro hc <;> (try simp only [vb, decide_eq_true_eq, decide_eq_false_iff_not, beq_iff_eq, beq_eq_false_iff_ne, bne_iff_ne, bne_eq_false_iff_eq, Bool.not_eq_true', Bool.not_eq_false', reduceCtorEq] at hc) <;> (try (first | simp (disch := omega) only [wrap64, wrapu64, wrapu32, sh32, fdiv32, Int.tdiv_eq_ediv_of_nonneg, Int.tmod_eq_emod_of_nonneg, tn_add, tn_add1, Int.toNat_natCast, Int.toNat_zero, List.drop_zero] at hc | simp only [wrapu64m, wrapu32m] at hc))) | ((with_reducible refine compat_ok ?_); kernel_rfl) | with_reducible apply And.intro | (first | simp (disch := omega) only [wrap64, wrapu64, wrapu32, sh32, fdiv32, Int.tdiv_eq_ediv_of_nonneg, Int.tmod_eq_emod_of_nonneg, tn_add, tn_add1, Int.toNat_natCast, Int.toNat_zero, List.drop_zero] | simp only [wrapu64m, wrapu32m]) | (with_reducible intro hg; (try simp only [vb, decide_eq_true_eq, decide_eq_false_iff_not, beq_iff_eq, beq_eq_false_iff_ne, bne_iff_ne, bne_eq_false_iff_eq, Bool.not_eq_true', Bool.not_eq_false', reduceCtorEq] at hg); (try (first | simp (disch := omega) only [wrap64, wrapu64, wrapu32, sh32, fdiv32, Int.tdiv_eq_ediv_of_nonneg, Int.tmod_eq_emod_of_nonneg, tn_add, tn_add1, Int.toNat_natCast, Int.toNat_zero, List.drop_zero] at hg | simp only [wrapu64m, wrapu32m] at hg))))
  all_goals try omega
  · rw [aw16]; decide
  · exact (aw15 _ hg).1
  · exact (aw15 _ hg).2
  · simp only [List.mem_cons, List.not_mem_nil, or_false] at hg
    rcases hg with rfl | rfl <;> rfl
  · simp only [List.mem_cons, List.not_mem_nil, or_false] at hg
    rcases hg with rfl | rfl <;> decide
  · simp only [finR, resAs, resA, resLe, lsLe, lkS, lkM, pubs, pub, tie_sz, ti_sz, tie_ek, ti_ek, tie2_sz, tie2_ek, ti_ek2, nilAV, MM.upd, MM.set, AV.part, AV.cells, AV.agg, List.tail, List.headD, Nat.reduceAdd, Nat.reduceEqDiff, Nat.reduceLT, ↓reduceIte, and_true, true_and, and_self, reduceCtorEq]
    exact AVle.rfl
end Go.AE
