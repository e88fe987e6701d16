/- add, sub and cmp of words: their contracts. -/
import Derived.Test.YtaeicclhopehaaaH6
namespace Go.AE
open Go.Proofs Go.RowKit
set_option linter.unusedVariables false
set_option linter.unusedSimpArgs false
set_option maxRecDepth 20000

/-- All new blocks stay. -/
def Fz.all (F : Fz) (w w' : World) : Fz := fun b => if b < w.heap.size then F b else w'.heap[b]?
theorem Fz.all_ok {F : Fz} {w w' : World} (hF : ∀ b o, F b = some o → w.heap[b]? = some o) (hB : Below w.heap.size w w') :
    F.le (F.all w w') ∧ (∀ b, b < w.heap.size → F.all w w' b = F b) ∧ (∀ b o, F.all w w' b = some o → w'.heap[b]? = some o) := by
  refine ⟨fun b o e => ?_, fun b hb => by simp [Fz.all, hb], fun b o e => ?_⟩
  · have := (Array.getElem?_eq_some_iff.1 (hF b o e)).1
    simp [Fz.all, this, e]
  · simp only [Fz.all] at e
    split at e
    · rename_i hb; exact (hB.block b hb).trans (hF b o e)
    · exact e
def Fz.cel (F : Fz) : Fz := fun b => match F b with
  | some o => if o.isCells = true then some o else none
  | none => none
theorem Fz.cel_le {F : Fz} : F.cel.le F := by
  intro b o e
  simp only [Fz.cel] at e
  split at e
  · rename_i o' h; split at e
    · cases e; exact h
    · cases e
  · cases e
theorem Fz.cel_cells {F : Fz} {b : Nat} {o : Obj} (e : F.cel b = some o) : o.isCells = true := by
  simp only [Fz.cel] at e
  split at e
  · split at e
    · rename_i h; cases e; exact h
    · cases e
  · cases e
theorem RL.cel {α : Type} {F : Fz} {es : Nat} {R : α → List Value → Prop} {l : List α} {v : Value} (h : RL F es R l v) : RL F.cel es R l v := by
  obtain ⟨A, c, h1, h2, h3⟩ := h
  refine ⟨A, c, h1, h2, fun hl => ?_⟩
  obtain ⟨b, off, C, T, fr, h4, h5, h6⟩ := h3 hl
  exact ⟨b, off, C, T, fr, h4, by simp [Fz.cel, h5, Obj.isCells], h6⟩
theorem RL_of_owns {w : World} {base : Nat} {e : TypeId} {v : Value} {n : Nat} {l : List Int} (h : w.ownsRow base e 1 v n (l.map (Value.int .u32))) (hl : okW l) {F : Fz} (hF : ∀ b, base ≤ b → F b = w.heap[b]?) : RL F 1 Ru32 l v := by
  obtain ⟨h1, h2⟩ := h
  have hn : l.length = n := by simpa using h1
  rcases h2 with ⟨rfl, rfl⟩ | ⟨g, cap, cur, rfl, hb, hg, h3, h4, h5, h6⟩
  · rw [List.eq_nil_of_length_eq_zero hn]; exact rl_nil _ _ _
  · refine ⟨_, cap, by rw [hn], by omega, fun _ => ⟨g, 0, cur, e, (0, 0), rfl, (hF g hb).trans hg, fun i hi => ⟨[.int .u32 l[i]], rfl, ⟨rfl, hl _ (List.getElem_mem _)⟩, fun k hk => ?_⟩⟩⟩
    obtain rfl : k = 0 := by omega
    have : (cur.toList.take (n * 1))[i]? = some (.int .u32 l[i]) := by rw [h6]; simp [hi]
    rw [List.getElem?_take, if_pos (by omega)] at this
    simpa using this
theorem RL_of_owns1 {w : World} {base : Nat} {e : TypeId} {g cap m c : Nat} {A : Option Addr} {L l : List Int} {z : Int} (h : w.ownsRow base e 1 (.slice (some ⟨g, 0, none⟩) (m + 2) cap) (m + 2) (L.map (Value.int .u32))) (hA : 0 < m → A = some ⟨g, 1, none⟩) (hc : m ≤ c)
    (hL : L.drop 1 = l ++ [z]) (hm : l.length = m) (hl : okW l) {F : Fz} (hF : ∀ b, base ≤ b → F b = w.heap[b]?) : RL F 1 Ru32 l (.slice A m c) := by
  obtain ⟨h1, h2⟩ := h
  rcases h2 with ⟨h, _⟩ | ⟨g', cap', cur, h, hb, hg, h3, h4, h5, h6⟩
  · cases h
  · cases h
    refine ⟨_, c, by rw [hm], by omega, fun hne => ⟨g, 1, cur, e, (0, 0), hA (by rw [← hm]; exact List.length_pos_iff.2 hne), (hF g hb).trans hg, fun i hi => ⟨[.int .u32 l[i]], rfl, ⟨rfl, hl _ (List.getElem_mem _)⟩, fun k hk => ?_⟩⟩⟩
    obtain rfl : k = 0 := by omega
    have e1 : L[1 + i]? = some l[i] := by
      have : (L.drop 1)[i]? = some l[i] := by rw [hL, List.getElem?_append_left hi]; simp
      rwa [List.getElem?_drop] at this
    have : (cur.toList.take ((m + 2) * 1))[1 + i]? = some (.int .u32 l[i]) := by rw [h6, List.getElem?_map, e1]; rfl
    rw [List.getElem?_take, if_pos (by omega)] at this
    simpa using this

/-! ### Values -/
theorem fs_map_succ (f : Nat → Int) (l : List Nat) : fs f (l.map Nat.succ) = fs (fun k => f (k + 1)) l := by
  induction l with
  | nil => rfl
  | cons k r ih => simp only [List.map_cons, fs, ih]
theorem fs_range_succ (f : Nat → Int) (n : Nat) : fs f (List.range (n + 1)) = f 0 + 4294967296 * fs (fun k => f (k + 1)) (List.range n) := by
  rw [List.range_succ_eq_map]; simp only [fs, fs_map_succ]
theorem fs_zero (l : List Nat) : fs (fun _ => 0) l = 0 := by
  induction l with
  | nil => rfl
  | cons k r ih => simp only [fs, ih]; omega
theorem fs_getD {a : List Int} {n : Nat} (h : a.length ≤ n) : fs (fun k => a.getD k 0) (List.range n) = wv a := by
  induction n generalizing a with
  | zero => rw [List.eq_nil_of_length_eq_zero (l := a) (by omega)]; rfl
  | succ n ih =>
    rw [fs_range_succ]
    cases a with
    | nil => simp only [List.getD_nil]; rw [fs_zero]; rfl
    | cons x r => simp only [List.getD_cons_zero, List.getD_cons_succ, wv]; rw [ih (by simpa using h)]
theorem fs_add (f g : Nat → Int) (l : List Nat) : fs (fun k => f k + g k) l = fs f l + fs g l := by
  induction l with
  | nil => rfl
  | cons k r ih => simp only [fs, ih]; omega
theorem fs_sub (f g : Nat → Int) (n : Nat) : fs (fun k => f k + 4294967296 - 1 - g k) (List.range n) = fs f (List.range n) - fs g (List.range n) + 4294967296 ^ n - 1 := by
  induction n generalizing f g with
  | zero => simp [fs]
  | succ n ih =>
    rw [fs_range_succ, fs_range_succ, fs_range_succ, ih (fun k => f (k + 1)) (fun k => g (k + 1)), Int.pow_succ]
    omega
theorem cr_prefix (f : Nat → Int) (s : List Int × Int) (pre : List Nat) : ∃ t, (cr f s pre).1 = s.1 ++ t ∧ t.length = pre.length := by
  induction pre generalizing s with
  | nil => exact ⟨[], by simp [cr], rfl⟩
  | cons p r ih =>
    obtain ⟨t, h1, h2⟩ := ih (s.1 ++ [(f p + s.2) % 4294967296], (f p + s.2) / 4294967296)
    exact ⟨_ :: t, by simp only [cr, h1]; simp; rfl, by simp [h2]⟩
theorem add_value {a b : List Int} (ha : okW a) (hb : okW b) {l : List Int × Int} (h : l = cr (fun k => a.getD k 0 + b.getD k 0) ([], 0) (List.range (max a.length b.length))) :
    okW (l.1 ++ [l.2]) ∧ l.1 ++ [l.2] = digs (max a.length b.length + 1) (wv a + wv b) := by
  have hf : ∀ k, 0 ≤ a.getD k 0 + b.getD k 0 ∧ a.getD k 0 + b.getD k 0 ≤ 8589934590 := fun k => by have := okW_getD ha k; have := okW_getD hb k; omega
  have h1 := cr_carry hf (s := ([], 0)) ⟨by decide, by decide⟩ (List.range (max a.length b.length))
  have h2 := cr_okW (f := fun k => a.getD k 0 + b.getD k 0) (s := ([], 0)) (by intro x hx; cases hx) (List.range (max a.length b.length))
  have h3 := cr_value (fun k => a.getD k 0 + b.getD k 0) ([], 0) (List.range (max a.length b.length))
  have h4 := cr_length (fun k => a.getD k 0 + b.getD k 0) ([], 0) (List.range (max a.length b.length))
  rw [← h] at h1 h2 h3 h4
  simp only [List.length_nil, Nat.zero_add, List.length_range, wv, Int.pow_zero, Int.one_mul, Int.zero_add] at h3 h4
  rw [fs_add, fs_getD (by omega), fs_getD (by omega)] at h3
  have hok : okW (l.1 ++ [l.2]) := okW_append h2 (by intro x hx; simp at hx; omega)
  refine ⟨hok, eq_digs_of hok (by simp [h4]) ?_⟩
  rw [wv_append, h4]; simp only [wv]; rw [← h3]; simp
theorem sub_value {a b : List Int} (ha : okW a) (hb : okW b) (hab : wv b ≤ wv a) {l : List Int × Int} (h : l = cr (fun k => a.getD k 0 + 4294967296 - 1 - b.getD k 0) ([0], 1) (List.range (max a.length b.length))) :
    okW (digs (max a.length b.length) (wv a - wv b)) ∧ (l.1 ++ [l.2]).drop 1 = digs (max a.length b.length) (wv a - wv b) ++ [l.2] := by
  have hf : ∀ k, 0 ≤ a.getD k 0 + 4294967296 - 1 - b.getD k 0 ∧ a.getD k 0 + 4294967296 - 1 - b.getD k 0 ≤ 8589934590 := fun k => by have := okW_getD ha k; have := okW_getD hb k; omega
  have h1 := cr_carry hf (s := ([0], 1)) ⟨by decide, by decide⟩ (List.range (max a.length b.length))
  have h2 := cr_okW (f := fun k => a.getD k 0 + 4294967296 - 1 - b.getD k 0) (s := ([0], 1)) (by intro x hx; simp at hx; omega) (List.range (max a.length b.length))
  have h3 := cr_value (fun k => a.getD k 0 + 4294967296 - 1 - b.getD k 0) ([0], 1) (List.range (max a.length b.length))
  obtain ⟨t, h4, h5⟩ := cr_prefix (fun k => a.getD k 0 + 4294967296 - 1 - b.getD k 0) ([0], 1) (List.range (max a.length b.length))
  rw [← h] at h1 h2 h3 h4
  rw [h4] at h2 h3
  simp only [List.length_cons, List.length_nil, Nat.zero_add, List.length_range, wv, List.cons_append, List.nil_append] at h3 h5
  rw [fs_sub, fs_getD (by omega), fs_getD (by omega), Nat.add_comm 1, Int.pow_succ] at h3
  have ht : okW t := fun x hx => h2 x (by simp [hx])
  have h6 := wv_lt ht
  have h7 := wv_nonneg ht
  rw [h5] at h6
  have h8 : wv a - wv b < 4294967296 ^ max a.length b.length := by
    have := wv_lt ha; have := wv_nonneg hb; have := pow_mono (show a.length ≤ max a.length b.length by omega); omega
  have h9 : l.2 = 0 ∨ l.2 = 1 := by omega
  have h10 : wv t = wv a - wv b := by
    rcases h9 with h9 | h9 <;> rw [h9] at h3 <;> simp at h3 <;> omega
  refine ⟨okW_digs _ _, ?_⟩
  rw [h4]
  simp only [List.cons_append, List.nil_append, List.drop_succ_cons, List.drop_zero]
  rw [← eq_digs_of ht h5 h10]
theorem cmf_value {a b : List Int} (ha : okW a) (hb : okW b) (n : Nat) (hna : n ≤ a.length) (hnb : n ≤ b.length) : cmf (fun k => a.getD k 0) (fun k => b.getD k 0) (List.range n) = sgn (wv (a.take n) - wv (b.take n)) := by
  induction n with
  | zero => simp [cmf, wv, sgn]
  | succ n ih =>
    rw [List.range_succ, cmf_snoc, ih (by omega) (by omega), wv_take_succ (by omega), wv_take_succ (by omega)]
    have h1 := okW_getD ha n
    have h2 := okW_getD hb n
    have h3 := wv_lt (okW_take ha n)
    have h4 := wv_lt (okW_take hb n)
    have h5 := wv_nonneg (okW_take ha n)
    have h6 := wv_nonneg (okW_take hb n)
    rw [List.length_take, Nat.min_eq_left (by omega)] at h3 h4
    have h7 := pow_pos n
    generalize (4294967296 : Int) ^ n = q at *
    generalize a.getD n 0 = x at *
    generalize b.getD n 0 = y at *
    split
    · rename_i h
      have : q * (y - x - 1) ≥ 0 := Int.mul_nonneg (by omega) (by omega)
      have : q * (y - x - 1) = q * y - q * x - q := by grind
      simp only [sgn]; split
      · omega
      · split
        · rfl
        · omega
    · split
      · rename_i h
        have : q * (x - y - 1) ≥ 0 := Int.mul_nonneg (by omega) (by omega)
        have : q * (x - y - 1) = q * x - q * y - q := by grind
        simp only [sgn]; split
        · omega
        · split
          · omega
          · rfl
      · have : x = y := by omega
        subst this
        congr 1; omega
theorem cmpW_value {a b : List Int} (ha : okW a) (hb : okW b) (ca : a.getLast? ≠ some 0) (cb : b.getLast? ≠ some 0) : sgn (cmpW a b) = sgn (wv a - wv b) := by
  unfold cmpW
  split
  · rename_i h
    rcases Nat.lt_or_ge a.length b.length with h1 | h1
    · have := wv_lt_of_length ha hb cb h1
      simp only [sgn]; split
      · omega
      · split <;> split <;> omega
    · have := wv_lt_of_length hb ha ca (show b.length < a.length by omega)
      simp only [sgn]; split
      · omega
      · split <;> split <;> omega
  · rename_i h
    have h1 : a.length = b.length := by omega
    rw [cmf_value ha hb _ (by omega) (by omega), show max a.length b.length = a.length by omega, List.take_length]
    rw [h1, List.take_length]
    simp only [sgn]; split
    · rfl
    · split <;> simp
theorem sgn_nonneg {x : Int} : 0 ≤ x ↔ 0 ≤ sgn x := by unfold sgn; split <;> (try split) <;> omega
theorem sgn_nonpos {x : Int} : x ≤ 0 ↔ sgn x ≤ 0 := by unfold sgn; split <;> (try split) <;> omega
theorem cmpW_ge {a b : List Int} (ha : okW a) (hb : okW b) (ca : a.getLast? ≠ some 0) (cb : b.getLast? ≠ some 0) : 0 ≤ cmpW a b ↔ wv b ≤ wv a := by
  rw [sgn_nonneg, cmpW_value ha hb ca cb, ← sgn_nonneg]; omega
theorem cmpW_le {a b : List Int} (ha : okW a) (hb : okW b) (ca : a.getLast? ≠ some 0) (cb : b.getLast? ≠ some 0) : cmpW a b ≤ 0 ↔ wv a ≤ wv b := by
  rw [sgn_nonpos, cmpW_value ha hb ca cb, ← sgn_nonpos]; omega

/-! ### Contracts -/
def ctAddW : Ct := fun l => match l with
  | [.lst .u32 a, .lst .u32 b] => some (a.length ≤ 1099511627776 ∧ b.length ≤ 1099511627776, .lst .u32 (digs (max a.length b.length + 1) (wv a + wv b)))
  | _ => none
def ctSubW : Ct := fun l => match l with
  | [.lst .u32 a, .lst .u32 b] => some (a.length ≤ 1099511627776 ∧ b.length ≤ 1099511627776 ∧ wv b ≤ wv a, .lst .u32 (digs (max a.length b.length) (wv a - wv b)))
  | _ => none
def ctCmpW : Ct := fun l => match l with
  | [.lst .u32 a, .lst .u32 b] => some (a.length ≤ 1099511627776 ∧ b.length ≤ 1099511627776, vi (cmpW a b))
  | _ => none
theorem args2 {F : Fz} {a b : List Int} {vs : List Value} (h : RVs F [.lst .u32 a, .lst .u32 b] vs) : ∃ A B ca cb, vs = [.slice A a.length ca, .slice B b.length cb] ∧ RL F.cel 1 Ru32 a (.slice A a.length ca) ∧ RL F.cel 1 Ru32 b (.slice B b.length cb) ∧ okW a ∧ okW b := by
  obtain ⟨v1, r1, rfl, h1, v2, r2, rfl, h2, rfl⟩ := h
  obtain ⟨u1, e1, k1⟩ := (show ∃ u, [v1] = [u] ∧ RL F 1 Ru32 a u from h1)
  obtain ⟨u2, e2, k2⟩ := (show ∃ u, [v2] = [u] ∧ RL F 1 Ru32 b u from h2)
  cases e1; cases e2
  have o1 := okW_of_RL k1
  have o2 := okW_of_RL k2
  obtain ⟨A, ca, rfl, _⟩ := id k1
  obtain ⟨B, cb, rfl, _⟩ := id k2
  exact ⟨A, B, ca, cb, rfl, k1.cel, k2.cel, o1, o2⟩
theorem wide_calls {f : FuncId} {args : Array Value} {w : World} {R : Ending → World → Prop} (h : CallsIn Fence.wide 5 Try.prog f args w R) : Calls Try.prog f args w R := callsIn_wide.1 h

theorem ok129 : Sound Try.prog 129 ctAddW := by
  refine ⟨⟨Try.f129, _, rfl, rfl, rfl⟩, ?_⟩
  intro l p r h hp w F args hF hv
  unfold ctAddW at h
  split at h <;> cases h
  rename_i a b
  obtain ⟨A, B, ca, cb, rfl, k1, k2, o1, o2⟩ := args2 hv
  refine Calls.mono (wide_calls (add_in Fence.wide 5 (fun _ => trivial) rfl (by omega) a b F.cel A B ca cb k1 k2 hp.1 hp.2 w (fun x o e => hF x o (Fz.cel_le x o e)) (fun x o e => Fz.cel_cells e))) ?_
  rintro e w' ⟨v, rfl, l, hl, hrow, hB⟩
  obtain ⟨f1, f2, f3⟩ := Fz.all_ok hF hB
  obtain ⟨v1, v2⟩ := add_value o1 o2 hl
  refine ⟨F.all w w', v, f1, f2, f3, hB, rfl, ?_⟩
  rw [v2] at hrow v1
  exact (show ∃ u, [v] = [u] ∧ RL _ 1 Ru32 _ u from ⟨v, rfl, RL_of_owns hrow v1 (fun b hb => by simp only [Fz.all]; rw [if_neg (by omega)])⟩)
theorem ok131 : Sound Try.prog 131 ctSubW := by
  refine ⟨⟨Try.f131, _, rfl, rfl, rfl⟩, ?_⟩
  intro l p r h hp w F args hF hv
  unfold ctSubW at h
  split at h <;> cases h
  rename_i a b
  obtain ⟨A, B, ca, cb, rfl, k1, k2, o1, o2⟩ := args2 hv
  refine Calls.mono (wide_calls (sub_in Fence.wide 5 (fun _ => trivial) rfl (by omega) a b F.cel A B ca cb k1 k2 hp.1 hp.2.1 w (fun x o e => hF x o (Fz.cel_le x o e)) (fun x o e => Fz.cel_cells e))) ?_
  rintro e w' ⟨v, rfl, l, hl, ⟨g, cap, hrow, A', c, rfl, hc, hA⟩, hB⟩
  obtain ⟨f1, f2, f3⟩ := Fz.all_ok hF hB
  obtain ⟨v1, v2⟩ := sub_value o1 o2 hp.2.2 hl
  refine ⟨F.all w w', _, f1, f2, f3, hB, rfl, ?_⟩
  exact (show ∃ u, [_] = [u] ∧ RL _ 1 Ru32 _ u from ⟨_, rfl, RL_of_owns1 hrow hA hc v2 (digs_length _ _) v1 (fun b hb => by simp only [Fz.all]; rw [if_neg (by omega)])⟩)
theorem ok130 : Sound Try.prog 130 ctCmpW := by
  refine ⟨⟨Try.f130, _, rfl, rfl, rfl⟩, ?_⟩
  intro l p r h hp w F args hF hv
  unfold ctCmpW at h
  split at h <;> cases h
  rename_i a b
  obtain ⟨A, B, ca, cb, rfl, k1, k2, o1, o2⟩ := args2 hv
  refine Calls.mono (wide_calls (cmp_in Fence.wide 5 (fun _ => trivial) rfl (by omega) a b F.cel A B ca cb k1 k2 hp.1 hp.2 w (fun x o e => hF x o (Fz.cel_le x o e)) (fun x o e => Fz.cel_cells e))) ?_
  rintro e w' ⟨rfl, hB⟩
  obtain ⟨f1, f2, f3⟩ := Fz.all_ok hF hB
  exact ⟨F.all w w', _, f1, f2, f3, hB, rfl, ⟨rfl, rfl⟩⟩
end Go.AE
