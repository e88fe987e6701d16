/- Plain laws of schedules: the best one. Plain laws of schedules: what the statements ask. Plain laws of schedules: the remainder of the best one. -/
import Derived.Test.YtaeicclhopehaaaGreatGh
import Derived.Test.YtaeicclhopehaaaGreatGi
namespace Go.AE
set_option linter.unusedVariables false
set_option linter.unusedSimpArgs false

/-- A state in which a valid unit may be. -/
def vS (u : U) (s : Int) : Prop := s ≠ 0 ∧ -u.down ≤ s ∧ s ≤ u.up
theorem okU_ud {u : U} (h : mayU u) : 1 ≤ u.up ∧ u.up ≤ 6 ∧ 1 ≤ u.down ∧ u.down ≤ 6 ∧ u.on ≠ 0 ∧ 0 ≤ u.start ∧ 0 ≤ u.min := by
  have := (mayU_ok h).2
  unfold okU at this
  omega
theorem nextU_v {u : U} (h : mayU u) {s : Int} (hs : vS u s) {on : Bool} (hn : (nextU u s on).2 = true) : vS u (nextU u s on).1 ∧ (0 < (nextU u s on).1 ↔ on = true) := by
  have h1 := okU_ud h
  unfold vS at hs ⊢
  unfold nextU at hn ⊢
  unfold heldU
  cases on
  · simp only [Bool.false_eq_true, false_and, true_and, ↓reduceIte, iff_false, Int.not_lt] at hn ⊢
    (repeat' split) <;> simp_all <;> omega
  · simp only [Bool.true_eq_false, false_and, true_and, ↓reduceIte, iff_true] at hn ⊢
    (repeat' split) <;> simp_all <;> omega
theorem nextU_ex {u : U} {s : Int} (hs : vS u s) : (nextU u s false).2 = true ∨ (nextU u s true).2 = true := by
  unfold vS at hs
  by_cases h : s > 0
  · right
    unfold nextU
    simp [h]
  · left
    have h2 : s < 0 := by omega
    unfold nextU
    simp [h2]
theorem nextK_U {u : U} (h : mayU u) {s : Int} (hs : vS u s) (on : Bool) : nextK u s on = nextU u s on := by
  unfold vS at hs
  unfold nextK
  rw [if_pos ⟨h, hs⟩]
theorem initU_v {u : U} (h : mayU u) : vS u (initU u) ∧ (0 < initU u ↔ 0 < u.on) := by
  have h1 := okU_ud h
  rw [initU, if_pos h]
  unfold vS heldU
  omega
/-- What a schedule gains from state s on. -/
def gainF (u : U) : Int → List Rat → List Bool → Rat
  | s, h :: r, on :: row => ((if on = true then h else 0) - (if on = true ∧ s < 0 then (u.start : Rat) else 0)) + gainF u (nextU u s on).1 r row
  | _, _, _ => 0
def lexle : List Bool → List Bool → Prop
  | a :: x, b :: y => if a = b then lexle x y else b = true
  | _, _ => True
def W (u : U) (hs : List Rat) (s : Int) : Way := (bestF u hs).getD (s + u.down).toNat wz
theorem W_cons {u : U} (h : mayU u) {p : Rat} {r : List Rat} {s : Int} (h1 : -u.down ≤ s) (h2 : s ≤ u.up) : (W u (p :: r) s).1.x = (out2 u s p (bestF u r)).1 ∧ (W u (p :: r) s).2 = (out2 u s p (bestF u r)).2 := by
  have hl := bestF_length u r
  have hud := okU_ud h
  have hi : (s + u.down).toNat < (bestF u r).length := by omega
  have hs : (((s + u.down).toNat : Nat) : Int) - u.down = s := by omega
  unfold W
  rw [bestF, stepF, List.getD_eq_getElem?_getD, List.getElem?_map, List.getElem?_range hi]
  simp only [Option.map_some, Option.getD_some, hs, and_self]
structure DP (u : U) (hs : List Rat) (s : Int) (g : Rat) (row : List Bool) : Prop where
  len : row.length = hs.length
  feas : feasF u s row = true
  gain : gainF u s hs row = g
  best : ∀ r : List Bool, r.length = hs.length → feasF u s r = true → gainF u s hs r ≤ g ∧ (gainF u s hs r = g → lexle row r)
theorem dp {u : U} (hm : mayU u) (hs : List Rat) : ∀ {s : Int}, vS u s → DP u hs s (W u hs s).1.x (W u hs s).2 := by
  induction hs with
  | nil =>
    intro s hv
    have hw : W u [] s = wz := by
      unfold W
      rw [bestF, List.getD_eq_getElem?_getD, List.getElem?_replicate]
      split <;> rfl
    rw [hw]
    refine ⟨rfl, rfl, rfl, fun r hr _ => ?_⟩
    have : r = [] := List.eq_nil_of_length_eq_zero hr
    subst this
    exact ⟨Rat.le_refl, fun _ => trivial⟩
  | cons p r ih =>
    intro s hv
    obtain ⟨w1, w2⟩ := W_cons hm (p := p) (r := r) hv.2.1 hv.2.2
    rw [w1, w2]
    have hcand : ∀ on, (nextU u s on).2 = true → DP u (p :: r) s (candG u s p (bestF u r) on) (candR u s (bestF u r) on) ∨ True := fun _ _ => .inr trivial
    have hc : ∀ on, (nextU u s on).2 = true → (candR u s (bestF u r) on).length = (p :: r).length ∧ feasF u s (candR u s (bestF u r) on) = true ∧ gainF u s (p :: r) (candR u s (bestF u r) on) = candG u s p (bestF u r) on ∧
        ∀ row : List Bool, row.length = r.length → feasF u s (on :: row) = true → gainF u s (p :: r) (on :: row) ≤ candG u s p (bestF u r) on ∧ (gainF u s (p :: r) (on :: row) = candG u s p (bestF u r) on → lexle (candR u s (bestF u r) on) (on :: row)) := by
      intro on hn
      have hv2 := (nextU_v hm hv hn).1
      have d := ih hv2
      have hx : candX u s (bestF u r) on = W u r (nextU u s on).1 := by
        unfold candX W
        rw [nextK_U hm hv]
      unfold candR candG
      rw [hx]
      refine ⟨by simp [d.len], by simp [feasF, hn, d.feas], by simp only [gainF, d.gain]; grind, fun row hl hf => ?_⟩
      simp only [feasF, hn, Bool.true_and] at hf
      obtain ⟨b1, b2⟩ := d.best row hl hf
      simp only [gainF]
      refine ⟨by grind, fun e => ?_⟩
      simp only [lexle, ↓reduceIte]
      exact b2 (by grind)
    have hfs : ∀ on (row : List Bool), feasF u s (on :: row) = true → (nextU u s on).2 = true := by
      intro on row hf
      simp only [feasF, Bool.and_eq_true] at hf
      exact hf.1
    have hfn : ∀ on, (nextK u s on).2 = (nextU u s on).2 := fun on => by rw [nextK_U hm hv]
    unfold out2 out1 fnd1
    rw [hfn, hfn]
    cases h0 : (nextU u s false).2 <;> cases h1 : (nextU u s true).2
    · rcases nextU_ex hv with h | h
      · rw [h0] at h; cases h
      · rw [h1] at h; cases h
    · simp only [Bool.false_eq_true, ↓reduceIte, true_or]
      obtain ⟨c1, c2, c3, c4⟩ := hc true h1
      refine ⟨c1, c2, c3, fun row hl hf => ?_⟩
      cases row with
      | nil => simp at hl
      | cons on row =>
        have := hfs on row hf
        cases on
        · rw [h0] at this; cases this
        · exact c4 row (by simpa using hl) hf
    · simp only [Bool.false_eq_true, ↓reduceIte]
      obtain ⟨c1, c2, c3, c4⟩ := hc false h0
      refine ⟨c1, c2, c3, fun row hl hf => ?_⟩
      cases row with
      | nil => simp at hl
      | cons on row =>
        have := hfs on row hf
        cases on
        · exact c4 row (by simpa using hl) hf
        · rw [h1] at this; cases this
    · simp only [↓reduceIte, Bool.true_eq_false, false_or]
      obtain ⟨c1, c2, c3, c4⟩ := hc false h0
      obtain ⟨d1, d2, d3, d4⟩ := hc true h1
      by_cases hlt : candG u s p (bestF u r) false < candG u s p (bestF u r) true
      · rw [if_pos hlt]
        refine ⟨d1, d2, d3, fun row hl hf => ?_⟩
        cases row with
        | nil => simp at hl
        | cons on row =>
          cases on
          · have := (c4 row (by simpa using hl) hf).1
            exact ⟨by grind, fun e => by exfalso; grind⟩
          · exact d4 row (by simpa using hl) hf
      · rw [if_neg hlt]
        refine ⟨c1, c2, c3, fun row hl hf => ?_⟩
        cases row with
        | nil => simp at hl
        | cons on row =>
          cases on
          · exact c4 row (by simpa using hl) hf
          · have := (d4 row (by simpa using hl) hf).1
            exact ⟨by grind, fun e => by simp [candR, lexle]⟩
/-- The profit of a schedule is what it gains. -/
theorem profit_gain {u : U} (hm : mayU u) {l : List QV} : ∀ {row : List Bool} {s : Int}, vS u s → row.length = l.length → feasF u s row = true →
    ((-(startF (decide (s > 0)) row * u.start) : Int) : Rat) + rowP u l row = gainF u s (hrs u l) row := by
  induction l with
  | nil =>
    intro row s hv hl hf
    have : row = [] := List.eq_nil_of_length_eq_zero hl
    subst this
    simp [startF, rowP, gainF, hrs]
    grind
  | cons x r ih =>
    intro row s hv hl hf
    cases row with
    | nil => simp at hl
    | cons on row =>
      simp only [feasF, Bool.and_eq_true] at hf
      obtain ⟨hv2, hpos⟩ := nextU_v hm hv hf.1
      have := ih hv2 (by simpa using hl) hf.2
      have hd : decide ((nextU u s on).1 > 0) = on := by
        cases on
        · exact decide_eq_false (fun h => by have := hpos.1 h; cases this)
        · exact decide_eq_true (hpos.2 rfl)
      rw [hd] at this
      simp only [startF, rowP, hrs, List.map_cons, gainF] at this ⊢
      rw [← this]
      have hs0 : s ≠ 0 := hv.1
      by_cases hon : on = true ∧ s < 0
      · rw [if_pos ⟨hon.1, decide_eq_false (by omega)⟩, if_pos hon, if_pos hon.1]
        simp only [Int.add_mul, Int.one_mul, Int.neg_add, Rat.intCast_add, Rat.intCast_neg]
        grind
      · rw [if_neg (fun h => hon ⟨h.1, by have := of_decide_eq_false h.2; omega⟩), if_neg hon, Int.zero_add]
        grind
end Go.AE

/- Plain laws of schedules: what the statements ask. -/
namespace Go.AE
set_option linter.unusedVariables false
set_option linter.unusedSimpArgs false

theorem wrong_may {u : U} {n : Nat} (h : wrongP u n = 0) : mayU u ∧ n ≤ 8 := by
  unfold wrongP at h
  by_cases hm : mayU u
  · rw [if_neg (fun h => h hm)] at h
    split at h
    · cases h
    · exact ⟨hm, by omega⟩
  · rw [if_pos hm] at h
    exact absurd h hm
theorem wrong_ok {u : U} {n : Nat} (hm : mayU u) (h : n ≤ 8) : wrongP u n = 0 := by
  unfold wrongP
  rw [if_neg (fun h => h hm), if_neg (by omega)]
theorem best_dp {u : U} {l : List QV} (h : wrongP u l.length = 0) : DP u (hrs u l) (initU u) (bestP u l) (bestR u l) := by
  obtain ⟨hm, _⟩ := wrong_may h
  rw [bestP, if_pos h, bestR, if_pos h]
  exact dp hm (hrs u l) (initU_v hm).1
theorem init_pos {u : U} (hm : mayU u) : decide (u.on > 0) = decide (initU u > 0) := by
  have := (initU_v hm).2
  rw [decide_eq_decide]
  exact this.symm
theorem prof_gain {u : U} {l : List QV} {row : List Bool} (h : profE u l row = 0) : wrongP u l.length = 0 ∧ row.length = l.length ∧ feasF u (initU u) row = true ∧ profR u l row = gainF u (initU u) (hrs u l) row := by
  have h' := h
  unfold profE at h
  split at h
  · contradiction
  · rename_i hw
    have hw' : wrongP u l.length = 0 := by simpa using hw
    obtain ⟨hm, _⟩ := wrong_may hw'
    split at h
    · cases h
    · rename_i hc
      have hl : row.length = l.length := by
        by_cases e : row.length = l.length
        · exact e
        · exact absurd (.inl e) hc
      have hf : feasU u row = true := by
        cases e : feasU u row
        · exact absurd (.inr e) hc
        · rfl
      simp only [feasU, Bool.and_eq_true] at hf
      refine ⟨hw', hl, hf.2, ?_⟩
      rw [profR, if_pos h', startU, if_pos hm, init_pos hm, Int.neg_mul]
      exact profit_gain hm (initU_v hm).1 hl hf.2
theorem prof_ok {u : U} {l : List QV} {row : List Bool} (hw : wrongP u l.length = 0) (hl : row.length = l.length) (hf : feasF u (initU u) row = true) : profE u l row = 0 ∧ feasU u row = true := by
  obtain ⟨hm, _⟩ := wrong_may hw
  have e : feasU u row = true := by simp [feasU, hm, hf]
  refine ⟨?_, e⟩
  rw [profE, if_neg (by simp [hw]), if_neg (by simp [hl, e])]
/-- The best schedule is one, gains what is told, and no other gains more; an equal one comes later. -/
theorem best_own {u : U} {l : List QV} (h : wrongP u l.length = 0) : profE u l (bestR u l) = 0 ∧ profR u l (bestR u l) = bestP u l ∧ feasU u (bestR u l) = true ∧ (bestR u l).length = l.length := by
  have d := best_dp h
  have hl : (bestR u l).length = l.length := by rw [d.len]; simp [hrs]
  obtain ⟨h1, h2⟩ := prof_ok h hl d.feas
  obtain ⟨_, _, _, h3⟩ := prof_gain h1
  exact ⟨h1, by rw [h3, d.gain], h2, hl⟩
theorem best_any {u : U} {l : List QV} {row : List Bool} (h : profE u l row = 0) : profR u l row ≤ bestP u l ∧ (profR u l row = bestP u l → lexle (bestR u l) row) := by
  obtain ⟨hw, hl, hf, hg⟩ := prof_gain h
  have d := best_dp hw
  have := d.best row (by rw [hl]; simp [hrs]) hf
  rw [hg]
  exact this

/-! ### Greater profits of the hours, smaller costs -/
def leL : List Rat → List Rat → Prop
  | a :: r, b :: s => a ≤ b ∧ leL r s
  | [], [] => True
  | _, _ => False
theorem leL_length {r s : List Rat} (h : leL r s) : r.length = s.length := by
  induction r generalizing s with
  | nil => cases s with
    | nil => rfl
    | cons b s => exact h.elim
  | cons a r ih => cases s with
    | nil => exact h.elim
    | cons b s => simp [ih h.2]
theorem gain_mono {u v : U} (hn : ∀ s on, nextU v s on = nextU u s on) (hst : u.start ≤ v.start) : ∀ {a b : List Rat} {row : List Bool} {s : Int}, leL a b → gainF v s a row ≤ gainF u s b row := by
  have hst' := rcast_le.2 hst
  intro a
  induction a with
  | nil =>
    intro b row s h
    cases b with
    | nil => cases row <;> simp [gainF]
    | cons x b => exact h.elim
  | cons x a ih =>
    intro b row s h
    cases b with
    | nil => exact h.elim
    | cons y b =>
      cases row with
      | nil => simp [gainF]
      | cons on row =>
        simp only [gainF, hn]
        have := ih (row := row) (s := (nextU u s on).1) h.2
        have h1 := h.1
        by_cases c1 : on = true
        · by_cases c2 : s < 0
          · rw [if_pos c1, if_pos c1, if_pos ⟨c1, c2⟩, if_pos ⟨c1, c2⟩]; grind
          · rw [if_pos c1, if_pos c1, if_neg (fun h => c2 h.2), if_neg (fun h => c2 h.2)]; grind
        · rw [if_neg c1, if_neg c1, if_neg (fun h => c1 h.1), if_neg (fun h => c1 h.1)]; grind
theorem feas_same {u v : U} (hn : ∀ s on, nextU v s on = nextU u s on) : ∀ {row : List Bool} {s : Int}, feasF v s row = feasF u s row := by
  intro row
  induction row with
  | nil => intro s; rfl
  | cons on row ih => intro s; simp only [feasF, hn, ih]
theorem best_mono {u v : U} {l m : List QV} (hn : ∀ s on, nextU v s on = nextU u s on) (hi : initU v = initU u) (hst : u.start ≤ v.start) (hl : leL (hrs v l) (hrs u m)) (h1 : wrongP v l.length = 0) (h2 : wrongP u m.length = 0) : bestP v l ≤ bestP u m := by
  have d1 := best_dp h1
  have d2 := best_dp h2
  have hlen : (bestR v l).length = (hrs u m).length := by rw [d1.len]; exact leL_length hl
  have hf : feasF u (initU u) (bestR v l) = true := by rw [← feas_same hn, ← hi]; exact d1.feas
  have := (d2.best _ hlen hf).1
  have g := gain_mono hn hst (row := bestR v l) (s := initU u) hl
  rw [← hi, d1.gain] at g
  rw [← hi] at this
  grind
theorem next_same {u v : U} (h1 : v.up = u.up) (h2 : v.down = u.down) (s : Int) (on : Bool) : nextU v s on = nextU u s on := by
  unfold nextU heldU
  rw [h1, h2]
theorem gain_off {u : U} : ∀ {hs : List Rat} {s : Int} {n : Nat}, gainF u s hs (List.replicate n false) = 0 := by
  intro hs
  induction hs with
  | nil => intro s n; cases n <;> rfl
  | cons h r ih =>
    intro s n
    cases n with
    | zero => rfl
    | succ n => rw [List.replicate_succ, gainF, ih]; simp; grind
theorem best_off {u : U} {l : List QV} (hw : wrongP u l.length = 0) (hf : feasU u (List.replicate l.length false) = true) : 0 ≤ bestP u l := by
  have d := best_dp hw
  simp only [feasU, Bool.and_eq_true] at hf
  have := (d.best (List.replicate l.length false) (by simp [hrs]) hf.2).1
  rw [gain_off] at this
  exact this
/-! ### The output of an hour -/
/-- Beyond the least best quantity, more gains no more. -/
theorem gain_desc {l : List Stp} (hp : ∀ s ∈ l, 0 < s.1) (hi : incr l) (hne : l ≠ []) {p a b : Rat} (h0 : 0 ≤ a) (hL : (wL l p : Rat) ≤ a) (hab : a ≤ b) (hb : b ≤ (sumL l : Rat)) : p * b - costR l b ≤ p * a - costR l a := by
  obtain ⟨p', h1, h2, _⟩ := price_at hp hi hne h0 (by grind)
  have ga := (gain_best hp hi p' h0 (by grind)).2.2 ⟨h1, h2⟩
  have gb := (gain_best hp hi p' (q := b) (by grind) hb).1
  by_cases hpp : p ≤ p'
  · have : 0 ≤ (p' - p) * (b - a) := rmul_nonneg (by grind) (by grind)
    grind
  · have hlt : p' < p := by grind
    have hm := rcast_le.2 ((wants_mono hp (p := p') (q := p) (by grind)).2.2 hlt)
    have hbd := rcast_le.2 (wants_bounds hp p).2.1
    have ea := (gain_best hp hi p h0 (by grind)).2.2 ⟨hL, by grind⟩
    have eb := (gain_best hp hi p (q := b) (by grind) hb).1
    grind
theorem may_steps {u : U} (hm : mayU u) : okS u.steps ∧ incr u.steps ∧ u.steps ≠ [] ∧ curveK u.steps = 0 ∧ offK u.steps = 0 ∧ 0 ≤ u.min ∧ u.min ≤ sumL u.steps ∧ sumK u.steps = sumL u.steps ∧ maxU u = sumL u.steps := by
  obtain ⟨h1, h2⟩ := mayU_ok hm
  obtain ⟨h3, h4⟩ := off_incr h1
  have hc := curve_of (.inl h1)
  have hs : sumK u.steps = sumL u.steps := by rw [sumK, if_pos hc]
  have hmx : maxU u = sumL u.steps := by rw [maxU, if_pos h1, hs]
  unfold okU at h2
  rw [hmx] at h2
  refine ⟨h3, h4, ?_, hc, h1, h2.1.1, h2.1.2, hs, hmx⟩
  intro e
  have := (curveK_ok hc).1
  rw [e] at this
  exact this rfl
theorem hour_best {u : U} (hm : mayU u) (p : Rat) : u.min ≤ hourQ u p ∧ hourQ u p ≤ maxU u ∧ allE u.steps (hourQ u p : Rat) = 0 ∧
    ∀ {q : Rat}, (u.min : Rat) ≤ q → q ≤ (maxU u : Rat) → allE u.steps q = 0 ∧ p * q - costK u.steps q - (u.idle : Rat) ≤ hourP u p ∧ (p * q - costK u.steps q - (u.idle : Rat) = hourP u p → (hourQ u p : Rat) ≤ q) := by
  obtain ⟨h1, h2, h3, h4, h5, h6, h7, h8, h9⟩ := may_steps hm
  have hp := okS_pos h1
  have hb := wants_bounds hp p
  have hL : supL u.steps p = wL u.steps p := by unfold supL; rw [if_pos h5, wantL_one]
  have hq0 : 0 ≤ hourQ u p := by unfold hourQ; omega
  have hqs : hourQ u p ≤ sumL u.steps := by unfold hourQ; rw [hL]; omega
  have hmin : u.min ≤ hourQ u p := by unfold hourQ; omega
  have hq0' : (0 : Rat) ≤ (hourQ u p : Rat) := by exact_mod_cast rcast_le.2 hq0
  have hqs' := rcast_le.2 hqs
  obtain ⟨e1, e2⟩ := costK_R h4 hq0' hqs'
  refine ⟨hmin, by rw [h9]; exact hqs, e1, fun {q} hq1 hq2 => ?_⟩
  rw [h9] at hq2
  have hm0 : (0 : Rat) ≤ (u.min : Rat) := by exact_mod_cast rcast_le.2 h6
  have hq3 : 0 ≤ q := by grind
  obtain ⟨e3, e4⟩ := costK_R h4 hq3 hq2
  have key : p * q - costR u.steps q ≤ p * (hourQ u p : Rat) - costR u.steps (hourQ u p : Rat) ∧ (p * q - costR u.steps q = p * (hourQ u p : Rat) - costR u.steps (hourQ u p : Rat) → (hourQ u p : Rat) ≤ q) := by
    by_cases hc : u.min ≤ wL u.steps p
    · have hn : hourQ u p = wL u.steps p := by unfold hourQ; rw [hL]; omega
      rw [hn] at hq0' hqs' ⊢
      have g := (gain_best hp h2 p hq0' hqs').2.2 ⟨by grind, rcast_le.2 hb.2.1⟩
      obtain ⟨g1, g2⟩ := gain_best hp h2 p hq3 hq2
      rw [g]
      exact ⟨g1, fun e => (g2.1 e).1⟩
    · have hn : hourQ u p = u.min := by unfold hourQ; rw [hL]; omega
      rw [hn]
      exact ⟨gain_desc hp h2 h3 hm0 (rcast_le.2 (by omega)) hq1 hq2, fun _ => hq1⟩
  refine ⟨e3, ?_, fun e => key.2 ?_⟩
  · unfold hourP
    rw [e2, e4]
    have := key.1
    grind
  · unfold hourP at e
    rw [e2, e4] at e
    grind
/-- A higher price: no less profit. -/
theorem hour_mono {u : U} (hm : mayU u) {p q : Rat} (h : p ≤ q) : hourP u p ≤ hourP u q := by
  obtain ⟨h1, h2, h3, _⟩ := hour_best hm p
  obtain ⟨_, _, _, h4⟩ := hour_best hm q
  have h5 := (h4 (q := (hourQ u p : Rat)) (rcast_le.2 h1) (rcast_le.2 h2)).2.1
  have h6 : 0 ≤ hourQ u p := by have := (may_steps hm).2.2.2.2.2.1; omega
  have h7 : (0 : Rat) ≤ (hourQ u p : Rat) := by exact_mod_cast rcast_le.2 h6
  have h8 : 0 ≤ (q - p) * (hourQ u p : Rat) := rmul_nonneg (by grind) h7
  have h9 : hourP u p = p * (hourQ u p : Rat) - (costK u.steps (hourQ u p : Rat) + (u.idle : Rat)) := rfl
  grind
end Go.AE

/- Plain laws of schedules: the remainder of the best one. -/
namespace Go.AE
set_option linter.unusedVariables false
set_option linter.unusedSimpArgs false

/-- The state behind a schedule's beginning. -/
def stF (u : U) : Int → List Bool → Int
  | s, [] => s
  | s, on :: r => stF u (nextU u s on).1 r
theorem feas_take {u : U} : ∀ {row : List Bool} {s : Int} (k : Nat), feasF u s row = true → feasF u s (row.take k) = true := by
  intro row
  induction row with
  | nil => intro s k h; simpa using h
  | cons on r ih =>
    intro s k h
    cases k with
    | zero => rfl
    | succ k =>
      simp only [feasF, Bool.and_eq_true, List.take_succ_cons] at h ⊢
      exact ⟨h.1, ih k h.2⟩
theorem st_v {u : U} (hm : mayU u) : ∀ {row : List Bool} {s : Int} (k : Nat), vS u s → feasF u s row = true → vS u (stF u s (row.take k)) := by
  intro row
  induction row with
  | nil => intro s k hv _; simpa [stF] using hv
  | cons on r ih =>
    intro s k hv h
    cases k with
    | zero => exact hv
    | succ k =>
      simp only [feasF, Bool.and_eq_true] at h
      simp only [List.take_succ_cons, stF]
      exact ih k (nextU_v hm hv h.1).1 h.2
theorem st_take {u : U} : ∀ {row : List Bool} {s : Int} {k : Nat}, k < row.length → stF u s (row.take (k + 1)) = (nextU u (stF u s (row.take k)) (row.getD k false)).1 := by
  intro row
  induction row with
  | nil => intro s k h; simp at h
  | cons on r ih =>
    intro s k h
    cases k with
    | zero => rfl
    | succ k =>
      simp only [List.take_succ_cons, stF, List.getD_cons_succ]
      exact ih (by simpa using h)
/-- The best schedule from a state goes on as the best one from the state behind its beginning. -/
theorem dp_drop {u : U} (hm : mayU u) : ∀ (hs : List Rat) {s : Int} (k : Nat), vS u s → k ≤ hs.length →
    (W u hs s).2.drop k = (W u (hs.drop k) (stF u s ((W u hs s).2.take k))).2 ∧
    (W u hs s).1.x = gainF u s (hs.take k) ((W u hs s).2.take k) + (W u (hs.drop k) (stF u s ((W u hs s).2.take k))).1.x := by
  intro hs
  induction hs with
  | nil =>
    intro s k hv hk
    have : k = 0 := by simpa using hk
    subst this
    simp [stF, gainF]
    grind
  | cons p r ih =>
    intro s k hv hk
    cases k with
    | zero => simp [stF, gainF]; grind
    | succ k =>
      have d := dp hm (p :: r) hv
      obtain ⟨w1, w2⟩ := W_cons hm (p := p) (r := r) hv.2.1 hv.2.2
      have hfn : ∀ on, (nextK u s on).2 = (nextU u s on).2 := fun on => by rw [nextK_U hm hv]
      have hx : ∀ on, candX u s (bestF u r) on = W u r (nextU u s on).1 := fun on => by unfold candX W; rw [nextK_U hm hv]
      obtain ⟨on, hon, ho⟩ : ∃ on, (nextU u s on).2 = true ∧ out2 u s p (bestF u r) = (candG u s p (bestF u r) on, candR u s (bestF u r) on) := by
        unfold out2 out1 fnd1
        rw [hfn, hfn]
        cases h0 : (nextU u s false).2 <;> cases h1 : (nextU u s true).2
        · rcases nextU_ex hv with h | h
          · rw [h0] at h; cases h
          · rw [h1] at h; cases h
        · exact ⟨true, h1, by simp⟩
        · exact ⟨false, h0, by simp⟩
        · simp only [↓reduceIte, Bool.true_eq_false, false_or]
          split
          · exact ⟨true, h1, rfl⟩
          · exact ⟨false, h0, rfl⟩
      rw [w1, w2, ho]
      obtain ⟨i1, i2⟩ := ih (s := (nextU u s on).1) k (nextU_v hm hv hon).1 (by simpa using hk)
      simp only [candR, candG, hx, List.drop_succ_cons, List.take_succ_cons, stF, gainF]
      refine ⟨i1, ?_⟩
      rw [i2]
      grind
theorem W_same {u v : U} (h1 : v.up = u.up) (h2 : v.down = u.down) (h3 : v.start = u.start) (hk : ∀ s on, nextK v s on = nextK u s on) (hs : List Rat) : bestF v hs = bestF u hs := by
  have hc : ∀ s l on, candX v s l on = candX u s l on := fun s l on => by unfold candX; rw [hk, h2]
  have hg : ∀ s p l on, candG v s p l on = candG u s p l on := fun s p l on => by unfold candG; rw [hc, h3]
  have hr : ∀ s l on, candR v s l on = candR u s l on := fun s l on => by unfold candR; rw [hc]
  have ho : ∀ s p l, out2 v s p l = out2 u s p l := fun s p l => by unfold out2 out1 fnd1; simp only [hk, hg, hr]
  induction hs with
  | nil => simp only [bestF, h1, h2]
  | cons p r ih =>
    rw [bestF, bestF, ih]
    unfold stepF
    simp only [ho, h2]
end Go.AE
