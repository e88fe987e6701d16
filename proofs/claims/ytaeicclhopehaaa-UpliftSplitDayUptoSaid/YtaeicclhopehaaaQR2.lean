/- How arguments read, and their bulk. -/
import Derived.Test.YtaeicclhopehaaaQR1
import Derived.Test.YtaeicclhopehaaaRows
import Derived.JoinedCond
namespace Go.AE
open Go.Proofs Go.RowKit Go.ChangeShapes Go.WideShapes Go.ChangeAt
open Go.Proofs.Ytaeicclhopehaaa
set_option linter.unusedVariables false
set_option linter.unusedSimpArgs false
set_option maxRecDepth 20000

theorem bulk_one {H : Type} (d : DataW H) : 1 ≤ Rows.uptoBulk d := by
  cases d with
  | lit l => cases l <;> simp [Rows.uptoBulk]
  | nil => simp [Rows.uptoBulk]
  | ptr d => simp [Rows.uptoBulk]
  | slice elems spare => simp [Rows.uptoBulk]
  | agg parts => simp [Rows.uptoBulk]
  | iface t d => simp [Rows.uptoBulk]
  | map entries => simp [Rows.uptoBulk]
  | held h => simp [Rows.uptoBulk]
theorem bulk_part {H : Type} {d : DataW H} {l : List (DataW H)} (h : d ∈ l) : Rows.uptoBulk d ≤ Rows.uptoBulkAll l := by
  induction l with
  | nil => cases h
  | cons x r ih =>
    simp only [Rows.uptoBulkAll]
    cases List.mem_cons.1 h with
    | inl e => subst e; omega
    | inr e => have := ih e; omega
theorem bulk_len {H : Type} (l : List (DataW H)) : l.length ≤ Rows.uptoBulkAll l := by
  induction l with
  | nil => simp [Rows.uptoBulkAll]
  | cons x r ih => have := bulk_one x; simp only [Rows.uptoBulkAll, List.length_cons]; omega
/-- What is read of type t fits R, whose size is at most the reading's bulk. -/
def Rb {α : Type} (P : Program) (W : World) (t : TypeId) (R : α → List Value → Prop) (B : α → Nat) : Prop :=
  ∀ (H : Type) (enc : TypeId × Value → H) (base : Nat) (spare : Nat → Bool) (held : Bool) (fuel : Nat) (cs : List Value) (x : DataW H × List MemPlace), DataW.trod enc P W base spare held fuel t cs = some x → ∃ a, R a cs ∧ B a ≤ Rows.uptoBulk x.1
theorem Rb_slice {α : Type} {P : Program} {W : World} {t e : TypeId} {es : Nat} {R : α → List Value → Prop} {B : α → Nat} (ht : P.underlying t = some (.slice e)) (hc : P.cellsOf e = es) (h0 : 0 < es) (hR : Rb P W e R B) :
    ∀ (H : Type) (enc : TypeId × Value → H) (base : Nat) (spare : Nat → Bool) (held : Bool) (fuel : Nat) (cs : List Value) (x : DataW H × List MemPlace), DataW.trod enc P W base spare held fuel t cs = some x →
      ∃ l : List α, (∃ v, cs = [v] ∧ RL (heapF W) es R l v) ∧ (∀ a ∈ l, B a ≤ Rows.uptoBulk x.1) ∧ l.length ≤ Rows.uptoBulk x.1 := by
  intro H enc base spare held fuel cs x h
  rcases DataW.trod_slice ht h with ⟨rfl, _⟩ | ⟨a, len, cap, elems, rest, n, _, rfl, rfl, hb, hl, hm, hlen, hel, _⟩
  · exact ⟨[], ⟨_, rfl, none, 0, rfl, by simp, fun h => absurd rfl h⟩, by simp, by simp⟩
  · have each : ∀ i, i < len → ∃ p : α × List Value, (R p.1 p.2 ∧ p.2.length = es ∧ ∀ k, k < es → W.cell? ((a.add (i * es)).add k) = p.2[k]?) ∧ B p.1 ≤ Rows.uptoBulkAll (elems.map (·.1)) := by
      intro i hi
      have h1 := hel i hi
      rw [List.getElem?_eq_getElem (by omega), Option.bind_eq_some_iff] at h1
      obtain ⟨cs, h2, h3⟩ := h1
      rw [hc] at h2
      obtain ⟨h4, h5⟩ := cells_get h2
      obtain ⟨y, hy, hB⟩ := hR H enc base spare held n cs _ h3
      exact ⟨(y, cs), ⟨hy, h4, h5⟩, Nat.le_trans hB (bulk_part (List.mem_map.2 ⟨_, List.getElem_mem _, rfl⟩))⟩
    obtain ⟨L, hLl, hL⟩ := list_choose len each
    refine ⟨L.map (·.1), ⟨_, rfl, some a, cap, by simp [hLl], by simpa [hLl] using hl, fun hne => ?_⟩, ?_, ?_⟩
    · have hpos : 0 < len := by
        rcases Nat.eq_zero_or_pos len with h | h
        · subst h; exact absurd (List.eq_nil_of_length_eq_zero (by simpa using hLl)) hne
        · exact h
      have hfirst : a.spot = none ∧ ∃ C T fr, W.heap[a.block]? = some (.cells C T fr) := by
        obtain ⟨⟨_, h6, h7⟩, _⟩ := hL 0 (by omega)
        have h8 := h7 0 h0
        simp only [Nat.zero_mul, Addr.add, ↓reduceIte] at h8
        rw [List.getElem?_eq_getElem (by omega)] at h8
        obtain ⟨h9, C, T, fr, h10, _⟩ := cell_get h8
        exact ⟨h9, C, T, fr, h10⟩
      obtain ⟨hsp, C, T, fr, hC⟩ := hfirst
      refine ⟨a.block, a.off, C, T, fr, by cases a; simp_all, hC, fun i hi => ?_⟩
      have hi2 : i < L.length := by simpa using hi
      obtain ⟨⟨h5, h6, h7⟩, _⟩ := hL i hi2
      refine ⟨L[i].2, h6, by simpa using h5, fun k hk => ?_⟩
      have h8 := h7 k hk
      have h9 : (a.add (i * es)).add k = ⟨a.block, a.off + i * es + k, none⟩ := by
        unfold Addr.add
        by_cases e1 : i * es = 0 <;> by_cases e2 : k = 0
        · simp [e1, e2]; cases a; simp_all
        · simp [e1, e2]
        · simp [e1, e2]
        · simp [e1, e2, Nat.add_assoc]
      rw [h9, List.getElem?_eq_getElem (by omega)] at h8
      obtain ⟨_, C', T', fr', h10, h11⟩ := cell_get h8
      rw [hC] at h10
      cases h10
      rw [h11, List.getElem?_eq_getElem (by omega)]
    · intro b hb
      obtain ⟨p, hp, rfl⟩ := List.mem_map.1 hb
      obtain ⟨i, hi, rfl⟩ := List.mem_iff_getElem.1 hp
      have := (hL i hi).2
      simp only [Rows.uptoBulk]
      omega
    · have := bulk_len (elems.map (·.1))
      simp only [Rows.uptoBulk, List.length_map] at this ⊢
      omega
theorem Rb_words (W : World) : Rb Try.prog W 29 (fun (l : List Int) cs => ∃ v, cs = [v] ∧ RL (heapF W) 1 Ru32 l v) (fun l => l.length) := by
  intro H enc base spare held fuel cs x h
  obtain ⟨l, h1, _, h2⟩ := Rb_slice (R := Ru32) (B := fun _ => 0) Try.underlying29 rfl (by decide) (fun H enc base spare held fuel cs x h => by
    obtain ⟨a, ha⟩ := Rd_u32 Try.underlying72 H enc base spare held fuel cs x h
    exact ⟨a, ha, Nat.zero_le _⟩) H enc base spare held fuel cs x h
  exact ⟨l, h1, h2⟩
theorem Rb_z (W : World) : Rb Try.prog W 31 (fun (p : Bool × List Int) cs => ∃ v, cs = [.bool p.1, v] ∧ RL (heapF W) 1 Ru32 p.2 v) (fun p => p.2.length) := by
  intro H enc base spare held fuel cs x h
  obtain ⟨y0, y1, n, rfl, hl, h0, h1⟩ := trod_struct2 Try.underlying31 h
  obtain ⟨a, ha⟩ := Rd_bool Try.underlying4 H enc _ _ _ _ _ _ h0
  obtain ⟨b, ⟨v, hb, hv⟩, hB⟩ := Rb_words W H enc _ _ _ _ _ _ h1
  refine ⟨(a, b), ⟨v, ?_, hv⟩, ?_⟩
  · rw [show Try.prog.cellsOf 31 = 2 from rfl] at hl
    rw [show Try.prog.cellsOf 4 = 1 from rfl] at ha
    rw [show Try.prog.cellsOf 29 = 1 from rfl] at hb
    match cs, hl with
    | [c, d], _ =>
      simp [Rbool] at ha hb
      subst ha hb
      rfl
  · simp only [Rows.uptoBulk, Rows.uptoBulkAll]
    dsimp only at hB
    omega
theorem Rb_qx (W : World) : Rb Try.prog W 33 (fun (x : QX) cs => Rqx (heapF W) x cs) (fun x => max x.nw.length x.dw.length) := by
  intro H enc base spare held fuel cs x h
  obtain ⟨y0, y1, n, rfl, hl, h0, h1⟩ := trod_struct2 Try.underlying33 h
  obtain ⟨a, ⟨v, ha, hv⟩, hA⟩ := Rb_z W H enc _ _ _ _ _ _ h0
  obtain ⟨b, ⟨u, hb, hu⟩, hB⟩ := Rb_z W H enc _ _ _ _ _ _ h1
  refine ⟨⟨a.1, a.2, b.1, b.2⟩, ⟨v, u, ?_, hv, hu⟩, ?_⟩
  · rw [show Try.prog.cellsOf 33 = 4 from rfl] at hl
    rw [show Try.prog.cellsOf 31 = 2 from rfl] at ha hb
    match cs, hl with
    | [c, d, e, f], _ =>
      simp at ha hb
      obtain ⟨rfl, rfl⟩ := ha
      obtain ⟨rfl, rfl⟩ := hb
      rfl
  · simp only [Rows.uptoBulk, Rows.uptoBulkAll]
    dsimp only at hA hB ⊢
    omega
section
variable {H : Type} {enc : TypeId × Value → H} {W : World} {base b0 : Nat} {spare : Nat → Bool} {held : Bool} {v : Value} {d : DataW H} {p : List MemPlace} {r : Reach}
theorem arg_qxsB (hval : Value.okWide Try.prog W r b0 44 v) (h : DataW.Trod enc Try.prog W base spare held 44 v d p) : ∃ l : List QX, RVp (heapF W) (.lst .qx l) v ∧ ∀ x ∈ l, x.nw.length ≤ Rows.uptoBulk d ∧ x.dw.length ≤ Rows.uptoBulk d := by
  obtain ⟨a, len, cap, rfl⟩ := okWide_slice Try.underlying44 hval
  obtain ⟨fuel, hf⟩ := h
  obtain ⟨l, ⟨u, e, hl⟩, hB, _⟩ := Rb_slice Try.underlying44 rfl (by decide) (Rb_qx W) H enc _ _ _ _ _ _ hf
  rw [cells_slice] at e
  cases e
  refine ⟨l, (show ∃ u, [_] = [u] ∧ RL (heapF W) 4 (Rqx (heapF W)) l u from ⟨_, rfl, hl⟩), fun x hx => ?_⟩
  have := hB x hx
  dsimp only at this
  omega
theorem arg_qB (hval : Value.okWide Try.prog W r b0 33 v) (h : DataW.Trod enc Try.prog W base spare held 33 v d p) : ∃ x : QX, RVp (heapF W) (qxAV x) v ∧ x.nw.length ≤ Rows.uptoBulk d ∧ x.dw.length ≤ Rows.uptoBulk d := by
  obtain ⟨cs, rfl⟩ := okWide_struct Try.underlying33 hval
  obtain ⟨fuel, hf⟩ := h
  obtain ⟨x, hx, hB⟩ := Rb_qx W H enc _ _ _ _ _ _ hf
  dsimp only at hB
  exact ⟨x, (show ∃ cs', RC (heapF W) (qxAV x) cs' ∧ Value.agg cs = .agg cs'.toArray from ⟨_, RK.enc (k := .qx) hx, by simp [Value.cells]⟩), by omega, by omega⟩
end
end Go.AE
