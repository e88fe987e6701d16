/- How arguments read, as abstract values. -/
import Derived.Test.YtaeicclhopehaaaGreatGg
import Derived.ProofKit
import Derived.OpenShut
import Derived.ShutString
import Derived.ChangeOld
import Derived.Below
import Derived.SizedLaws
namespace Go.AE
open Go.Proofs Go.RowKit Go.ChangeShapes Go.WideShapes Go.ChangeAt
set_option linter.unusedVariables false
set_option linter.unusedSimpArgs false
set_option maxRecDepth 20000

abbrev heapF (w : World) : Fz := fun b => w.heap[b]?
/-- What is read of type t fits R. -/
def Rd {α : Type} (P : Program) (W : World) (t : TypeId) (R : α → List Value → Prop) : Prop :=
  ∀ (H : Type) (enc : TypeId × Value → H) (base : Nat) (spare : Nat → Bool) (held : Bool) (fuel : Nat) (cs : List Value) (x : DataW H × List MemPlace), DataW.trod enc P W base spare held fuel t cs = some x → ∃ a, R a cs

theorem cells_get {W : World} {base : Nat} {a : Addr} {n : Nat} {cs : List Value} (h : W.cells? base a n = some cs) : cs.length = n ∧ ∀ k, k < n → W.cell? (a.add k) = cs[k]? := by
  unfold World.cells? at h
  split at h
  · refine ⟨by simpa using mapM_some_length h, fun k hk => ?_⟩
    exact mapM_some_get h k k (by simp [hk])
  · cases h
theorem cell_get {W : World} {a : Addr} {v : Value} (h : W.cell? a = some v) : a.spot = none ∧ ∃ C T fr, W.heap[a.block]? = some (.cells C T fr) ∧ C[a.off]? = some v := by
  unfold World.cell? at h
  split at h
  · rename_i c T fr hc
    split at h
    · cases h
    · rename_i hs
      refine ⟨?_, c, T, fr, hc, h⟩
      cases hsp : a.spot with
      | none => rfl
      | some x => rw [hsp] at hs; simp at hs
  · cases h
theorem list_choose {β : Type} {Q : Nat → β → Prop} : ∀ (n : Nat), (∀ i, i < n → ∃ b, Q i b) → ∃ L : List β, L.length = n ∧ ∀ i (hi : i < L.length), Q i L[i] := by
  intro n
  induction n with
  | zero => intro _; exact ⟨[], rfl, fun i hi => by simp at hi⟩
  | succ n ih =>
    intro h
    obtain ⟨L, h1, h2⟩ := ih (fun i hi => h i (by omega))
    obtain ⟨b, hb⟩ := h n (by omega)
    refine ⟨L ++ [b], by simp [h1], fun i hi => ?_⟩
    by_cases hlt : i < L.length
    · rw [List.getElem_append_left hlt]; exact h2 i hlt
    · have : i = L.length := by simp at hi; omega
      subst this
      simpa [h1] using hb
theorem Rd_slice {α : Type} {P : Program} {W : World} {t e : TypeId} {es : Nat} {R : α → List Value → Prop} (ht : P.underlying t = some (.slice e)) (hc : P.cellsOf e = es) (h0 : 0 < es) (hR : Rd P W e R) :
    Rd P W t (fun (l : List α) cs => ∃ v, cs = [v] ∧ RL (heapF W) es R l v) := by
  intro H enc base spare held fuel cs x h
  rcases DataW.trod_slice ht h with ⟨rfl, _⟩ | ⟨a, len, cap, elems, rest, n, _, rfl, _, hb, hl, hm, hlen, hel, _⟩
  · exact ⟨[], _, rfl, none, 0, rfl, by simp, fun h => absurd rfl h⟩
  · have each : ∀ i, i < len → ∃ p : α × List Value, R p.1 p.2 ∧ p.2.length = es ∧ ∀ k, k < es → W.cell? ((a.add (i * es)).add k) = p.2[k]? := by
      intro i hi
      have h1 := hel i hi
      rw [List.getElem?_eq_getElem (by omega), Option.bind_eq_some_iff] at h1
      obtain ⟨cs, h2, h3⟩ := h1
      rw [hc] at h2
      obtain ⟨h4, h5⟩ := cells_get h2
      obtain ⟨y, hy⟩ := hR H enc base spare held n cs _ h3
      exact ⟨(y, cs), hy, h4, h5⟩
    obtain ⟨L, hLl, hL⟩ := list_choose len each
    refine ⟨L.map (·.1), _, rfl, some a, cap, by simp [hLl], by simpa [hLl] using hl, fun hne => ?_⟩
    have hpos : 0 < len := by
      rcases Nat.eq_zero_or_pos len with h | h
      · subst h; exact absurd (List.eq_nil_of_length_eq_zero (by simpa using hLl)) hne
      · exact h
    have hfirst : a.spot = none ∧ ∃ C T fr, W.heap[a.block]? = some (.cells C T fr) := by
      obtain ⟨_, h6, h7⟩ := hL 0 (by omega)
      have h8 := h7 0 h0
      simp only [Nat.zero_mul, Addr.add, ↓reduceIte] at h8
      rw [List.getElem?_eq_getElem (by omega)] at h8
      obtain ⟨h9, C, T, fr, h10, _⟩ := cell_get h8
      exact ⟨h9, C, T, fr, h10⟩
    obtain ⟨hsp, C, T, fr, hC⟩ := hfirst
    refine ⟨a.block, a.off, C, T, fr, by cases a; simp_all, hC, fun i hi => ?_⟩
    have hi2 : i < L.length := by simpa using hi
    obtain ⟨h5, h6, h7⟩ := hL i hi2
    refine ⟨L[i].2, h6, by simpa using h5, fun k hk => ?_⟩
    have h8 := h7 k hk
    have h9 : (a.add (i * es)).add k = ⟨a.block, a.off + i * es + k, none⟩ := by
      unfold Addr.add
      by_cases e1 : i * es = 0 <;> by_cases e2 : k = 0
      · simp [e1, e2]; cases a; simp_all
      · simp [e1, e2]
      · simp [e1, e2]
      · simp [e1, e2, Nat.add_assoc]
    rw [h9, List.getElem?_eq_getElem (by omega)] at h8
    obtain ⟨_, C', T', fr', h10, h11⟩ := cell_get h8
    rw [hC] at h10
    cases h10
    rw [h11, List.getElem?_eq_getElem (by omega)]
abbrev i64ok (n : Int) : Prop := -9223372036854775808 ≤ n ∧ n < 9223372036854775808
theorem Rd_i64 {P : Program} {W : World} {t : TypeId} (ht : P.underlying t = some (.int .i64)) : Rd P W t (fun (n : Int) cs => cs = [.int .i64 n] ∧ i64ok n) := by
  intro H enc base spare held fuel cs x h
  obtain ⟨n, h1, _, h2⟩ := DataW.trod_int ht h
  refine ⟨n, h1, ?_⟩
  simp only [Lit.wf, Bool.and_eq_true, decide_eq_true_eq, show IntKind.i64.min = -9223372036854775808 from rfl, show IntKind.i64.max = 9223372036854775807 from rfl] at h2
  exact ⟨h2.1, by omega⟩
theorem Rd_u32 {P : Program} {W : World} {t : TypeId} (ht : P.underlying t = some (.int .u32)) : Rd P W t Ru32 := by
  intro H enc base spare held fuel cs x h
  obtain ⟨n, h1, _, h2⟩ := DataW.trod_int ht h
  refine ⟨n, h1, ?_⟩
  simp only [Lit.wf, Bool.and_eq_true, decide_eq_true_eq, show IntKind.u32.min = 0 from rfl, show IntKind.u32.max = 4294967295 from rfl] at h2
  exact ⟨h2.1, by omega⟩
theorem Rd_bool {P : Program} {W : World} {t : TypeId} (ht : P.underlying t = some .bool) : Rd P W t Rbool := by
  intro H enc base spare held fuel cs x h
  obtain ⟨b, h1, _⟩ := DataW.trod_bool ht h
  exact ⟨b, h1⟩
/-- The types of this program. -/
theorem Rd_stp (W : World) : Rd Tryz.prog W 47 (fun (p : Int × Int) cs => Rstp p cs ∧ i64ok p.1 ∧ i64ok p.2) := by
  intro H enc base spare held fuel cs x h
  obtain ⟨y0, y1, n, _, hl, h0, h1⟩ := trod_struct2 Tryz.underlying47 h
  obtain ⟨a, ha, wa⟩ := Rd_i64 Tryz.underlying2 H enc _ _ _ _ _ _ h0
  obtain ⟨b, hb, wb⟩ := Rd_i64 Tryz.underlying2 H enc _ _ _ _ _ _ h1
  refine ⟨(a, b), ?_, wa, wb⟩
  rw [show Tryz.prog.cellsOf 47 = 2 from rfl] at hl
  rw [show Tryz.prog.cellsOf 2 = 1 from rfl] at ha hb
  match cs, hl with
  | [c, d], _ =>
    simp at ha hb
    subst ha hb
    rfl
theorem Rd_words (W : World) : Rd Tryz.prog W 23 (fun (l : List Int) cs => ∃ v, cs = [v] ∧ RL (heapF W) 1 Ru32 l v) := Rd_slice Tryz.underlying23 rfl (by decide) (Rd_u32 Tryz.underlying59)
theorem Rd_z (W : World) : Rd Tryz.prog W 25 (fun (p : Bool × List Int) cs => ∃ v, cs = [.bool p.1, v] ∧ RL (heapF W) 1 Ru32 p.2 v) := by
  intro H enc base spare held fuel cs x h
  obtain ⟨y0, y1, n, _, hl, h0, h1⟩ := trod_struct2 Tryz.underlying25 h
  obtain ⟨a, ha⟩ := Rd_bool Tryz.underlying4 H enc _ _ _ _ _ _ h0
  obtain ⟨b, v, hb, hv⟩ := Rd_words W H enc _ _ _ _ _ _ h1
  refine ⟨(a, b), v, ?_, hv⟩
  rw [show Tryz.prog.cellsOf 25 = 2 from rfl] at hl
  rw [show Tryz.prog.cellsOf 4 = 1 from rfl] at ha
  rw [show Tryz.prog.cellsOf 23 = 1 from rfl] at hb
  match cs, hl with
  | [c, d], _ =>
    simp [Rbool] at ha hb
    subst ha hb
    rfl
theorem Rd_qx (W : World) : Rd Tryz.prog W 27 (fun (x : QX) cs => Rqx (heapF W) x cs) := by
  intro H enc base spare held fuel cs x h
  obtain ⟨y0, y1, n, _, hl, h0, h1⟩ := trod_struct2 Tryz.underlying27 h
  obtain ⟨a, v, ha, hv⟩ := Rd_z W H enc _ _ _ _ _ _ h0
  obtain ⟨b, u, hb, hu⟩ := Rd_z W H enc _ _ _ _ _ _ h1
  refine ⟨⟨a.1, a.2, b.1, b.2⟩, v, u, ?_, hv, hu⟩
  rw [show Tryz.prog.cellsOf 27 = 4 from rfl] at hl
  rw [show Tryz.prog.cellsOf 25 = 2 from rfl] at ha hb
  match cs, hl with
  | [c, d, e, f], _ =>
    simp at ha hb
    obtain ⟨rfl, rfl⟩ := ha
    obtain ⟨rfl, rfl⟩ := hb
    rfl
theorem RL_all {α : Type} {F : Fz} {es : Nat} {R : α → List Value → Prop} {Q : α → Prop} (hQ : ∀ x cs, R x cs → Q x) {l : List α} {v : Value} (h : RL F es R l v) : ∀ x ∈ l, Q x := by
  obtain ⟨A, c, _, _, h3⟩ := h
  intro x hx
  obtain ⟨b, off, C, T, fr, _, _, h6⟩ := h3 (by rintro rfl; cases hx)
  obtain ⟨i, hi, rfl⟩ := List.mem_iff_getElem.1 hx
  obtain ⟨cs, _, h8, _⟩ := h6 i hi
  exact hQ _ _ h8
section
variable {H : Type} {enc : TypeId × Value → H} {W : World} {base b0 : Nat} {spare : Nat → Bool} {held : Bool} {v : Value} {d : DataW H} {p : List MemPlace} {r : Reach}
theorem cells_slice {a : Option Addr} {len cap : Nat} : (Value.slice a len cap).cells.toList = [.slice a len cap] := rfl
theorem arg_stp (hval : Value.okWide Tryz.prog W r b0 22 v) (h : DataW.Trod enc Tryz.prog W base spare held 22 v d p) : ∃ l : List (Int × Int), RVp (heapF W) (.lst .stp l) v ∧ ∀ s ∈ l, i64ok s.1 ∧ i64ok s.2 := by
  obtain ⟨a, len, cap, rfl⟩ := okWide_slice Tryz.underlying22 hval
  obtain ⟨fuel, hf⟩ := h
  obtain ⟨l, u, e, hl⟩ := Rd_slice Tryz.underlying22 rfl (by decide) (Rd_stp W) H enc _ _ _ _ _ _ hf
  rw [cells_slice] at e
  cases e
  exact ⟨l, (show ∃ u, [_] = [u] ∧ RL (heapF W) 2 Rstp l u from ⟨_, rfl, hl.mono (Fz.le.refl _) (fun _ _ h => h.1)⟩), RL_all (fun _ _ h => h.2) hl⟩
theorem arg_qxs (hval : Value.okWide Tryz.prog W r b0 30 v) (h : DataW.Trod enc Tryz.prog W base spare held 30 v d p) : ∃ l : List QX, RVp (heapF W) (.lst .qx l) v ∧ l.length ≤ 9223372036854775807 := by
  obtain ⟨a, len, cap, rfl⟩ := okWide_slice Tryz.underlying30 hval
  obtain ⟨fuel, hf⟩ := h
  have hlen : len ≤ 9223372036854775807 := by
    rcases DataW.trod_slice Tryz.underlying30 hf with ⟨e, _⟩ | ⟨_, len', cap', _, _, _, _, e, _, _, h1, h2, _⟩
    · rw [cells_slice] at e
      cases e
      decide
    · rw [cells_slice] at e
      cases e
      unfold maxLen at h2
      omega
  obtain ⟨l, u, e, hl⟩ := Rd_slice Tryz.underlying30 rfl (by decide) (Rd_qx W) H enc _ _ _ _ _ _ hf
  rw [cells_slice] at e
  cases e
  have hll : l.length = len := by
    obtain ⟨A, c, e, _⟩ := hl
    cases e
    rfl
  exact ⟨l, (show ∃ u, [_] = [u] ∧ RL (heapF W) 4 (Rqx (heapF W)) l u from ⟨_, rfl, hl⟩), by omega⟩
theorem arg_bools (hval : Value.okWide Tryz.prog W r b0 50 v) (h : DataW.Trod enc Tryz.prog W base spare held 50 v d p) : ∃ l : List Bool, RVp (heapF W) (.lst .bool l) v := by
  obtain ⟨a, len, cap, rfl⟩ := okWide_slice Tryz.underlying50 hval
  obtain ⟨fuel, hf⟩ := h
  obtain ⟨l, u, e, hl⟩ := Rd_slice Tryz.underlying50 rfl (by decide) (Rd_bool Tryz.underlying4) H enc _ _ _ _ _ _ hf
  rw [cells_slice] at e
  cases e
  exact ⟨l, (show ∃ u, [_] = [u] ∧ RL (heapF W) 1 Rbool l u from ⟨_, rfl, hl⟩)⟩
theorem okWide_struct {P : Program} {t : TypeId} {fs : Array Field} (ht : P.underlying t = some (.struct fs)) (hval : Value.okWide P W r b0 t v) : ∃ cs, v = .agg cs := by
  unfold Value.okWide at hval
  rw [ht] at hval
  obtain ⟨cs, h, _⟩ := hval
  exact ⟨cs, h⟩
abbrev qxAV (x : QX) : AV := .pair (.pair (vb x.n) (.lst .u32 x.nw)) (.pair (vb x.d) (.lst .u32 x.dw))
theorem arg_q (hval : Value.okWide Tryz.prog W r b0 27 v) (h : DataW.Trod enc Tryz.prog W base spare held 27 v d p) : ∃ x : QX, RVp (heapF W) (qxAV x) v := by
  obtain ⟨cs, rfl⟩ := okWide_struct Tryz.underlying27 hval
  obtain ⟨fuel, hf⟩ := h
  obtain ⟨x, hx⟩ := Rd_qx W H enc _ _ _ _ _ _ hf
  exact ⟨x, (show ∃ cs', RC (heapF W) (qxAV x) cs' ∧ Value.agg cs = .agg cs'.toArray from ⟨_, RK.enc (k := .qx) hx, by simp [Value.cells]⟩)⟩
theorem arg_unit (hval : Value.okWide Tryz.prog W r b0 49 v) (h : DataW.Trod enc Tryz.prog W base spare held 49 v d p) : ∃ u : U, RVp (heapF W) (uAV u) v ∧
    (i64ok u.bus ∧ i64ok u.min ∧ (∀ s ∈ u.steps, i64ok s.1 ∧ i64ok s.2) ∧ i64ok u.up ∧ i64ok u.down ∧ i64ok u.start ∧ i64ok u.idle ∧ i64ok u.spin ∧ i64ok u.on) := by
  obtain ⟨cs, rfl⟩ := okWide_struct Tryz.underlying49 hval
  obtain ⟨fuel, hf⟩ := h
  obtain ⟨xs, n, _, _, hl, hxl, hfl⟩ := DataW.trod_struct Tryz.underlying49 hf
  have hx : ∀ i, i < 9 → ∃ x, xs[i]? = some x := fun i hi => ⟨_, List.getElem?_eq_getElem (by rw [hxl]; exact hi)⟩
  rw [show Tryz.prog.cellsOf 49 = 9 from rfl] at hl
  have cl : ∀ (a : List Value) (h : a.length = 9), a = [a[0], a[1], a[2], a[3], a[4], a[5], a[6], a[7], a[8]] := by
    intro a h
    match a, h with
    | [_, _, _, _, _, _, _, _, _], _ => rfl
  have hi : ∀ i t f, i < 9 → (#[{ name := "Bus", type := 3, offset := 0, embedded := false, tag := "", pkgPath := "", byteOffset := 0 },
          { name := "Min", type := 2, offset := 1, embedded := false, tag := "", pkgPath := "", byteOffset := 8 },
          { name := "Steps", type := 22, offset := 2, embedded := false, tag := "", pkgPath := "", byteOffset := 16 },
          { name := "Up", type := 3, offset := 3, embedded := false, tag := "", pkgPath := "", byteOffset := 40 },
          { name := "Down", type := 3, offset := 4, embedded := false, tag := "", pkgPath := "", byteOffset := 48 },
          { name := "Start", type := 2, offset := 5, embedded := false, tag := "", pkgPath := "", byteOffset := 56 },
          { name := "Idle", type := 2, offset := 6, embedded := false, tag := "", pkgPath := "", byteOffset := 64 },
          { name := "Spin", type := 2, offset := 7, embedded := false, tag := "", pkgPath := "", byteOffset := 72 },
          { name := "On", type := 3, offset := 8, embedded := false, tag := "", pkgPath := "", byteOffset := 80 }] : Array Field)[i]? = some f → f.type = t → f.offset = i → Tryz.prog.cellsOf t = 1 → Tryz.prog.underlying t = some (.int .i64) →
      ∃ m : Int, ((Value.agg cs).cells.toList.drop i).take 1 = [.int .i64 m] ∧ i64ok m := by
    intro i t f h9 hf ht ho hc hu
    obtain ⟨x, hx⟩ := hx i h9
    have h1 := hfl i f hf
    rw [hx, ht, ho, hc] at h1
    exact Rd_i64 hu H enc _ _ _ _ _ _ h1
  obtain ⟨a0, h0, w0⟩ := hi 0 3 _ (by decide) rfl rfl rfl rfl Tryz.underlying3
  obtain ⟨a1, h1, w1⟩ := hi 1 2 _ (by decide) rfl rfl rfl rfl Tryz.underlying2
  obtain ⟨a3, h3, w3⟩ := hi 3 3 _ (by decide) rfl rfl rfl rfl Tryz.underlying3
  obtain ⟨a4, h4, w4⟩ := hi 4 3 _ (by decide) rfl rfl rfl rfl Tryz.underlying3
  obtain ⟨a5, h5, w5⟩ := hi 5 2 _ (by decide) rfl rfl rfl rfl Tryz.underlying2
  obtain ⟨a6, h6, w6⟩ := hi 6 2 _ (by decide) rfl rfl rfl rfl Tryz.underlying2
  obtain ⟨a7, h7, w7⟩ := hi 7 2 _ (by decide) rfl rfl rfl rfl Tryz.underlying2
  obtain ⟨a8, h8, w8⟩ := hi 8 3 _ (by decide) rfl rfl rfl rfl Tryz.underlying3
  have h2 := hfl 2 _ rfl
  obtain ⟨x, hx⟩ := hx 2 (by decide)
  rw [hx] at h2
  obtain ⟨l, u, e, hl2⟩ := Rd_slice Tryz.underlying22 rfl (by decide) (Rd_stp W) H enc _ _ _ _ _ _ h2
  replace e : ((Value.agg cs).cells.toList.drop 2).take 1 = [u] := e
  refine ⟨⟨a0, a1, l, a3, a4, a5, a6, a7, a8⟩, ?_, w0, w1, RL_all (fun _ _ h => h.2) hl2, w3, w4, w5, w6, w7, w8⟩
  refine (show ∃ cs', RC (heapF W) (uAV _) cs' ∧ Value.agg cs = .agg cs'.toArray from ⟨[.int .i64 a0, .int .i64 a1, u, .int .i64 a3, .int .i64 a4, .int .i64 a5, .int .i64 a6, .int .i64 a7, .int .i64 a8], ?_, ?_⟩)
  · exact rc_p (rc_i _ _) (rc_p (rc_i _ _) (rc_p (show RC (heapF W) (.lst .stp l) [u] from ⟨u, rfl, hl2.mono (Fz.le.refl _) (fun _ _ h => h.1)⟩) (rc_p (rc_i _ _) (rc_p (rc_i _ _) (rc_p (rc_i _ _) (rc_p (rc_i _ _) (rc_p (rc_i _ _) (rc_i _ _))))))))
  · rw [Value.agg.injEq]
    apply Array.toList_inj.1
    have hl3 : cs.toList.length = 9 := hl
    rw [cl cs.toList hl3]
    have g : ∀ i (h : i < cs.toList.length) (y : Value), (cs.toList.drop i).take 1 = [y] → cs.toList[i] = y := by
      intro i h y hy
      rw [List.drop_eq_getElem_cons h] at hy
      simpa using hy
    rw [g 0 (by omega) _ h0, g 1 (by omega) _ h1, g 2 (by omega) _ e, g 3 (by omega) _ h3, g 4 (by omega) _ h4, g 5 (by omega) _ h5, g 6 (by omega) _ h6, g 7 (by omega) _ h7, g 8 (by omega) _ h8]
theorem laidOut : laidOutB Tryz.prog = true := by kernel_rfl
theorem own : ownKnob Tryz.prog.godebug = none := by kernel_rfl
/-- A contract that tells 'true', at the world as it is. -/
theorem true_of {P : Program} {g : Nat} {ct : Ct} (hs : Sound P g ct) {al : List AV} {q : Prop} (hct : ct al = some (q, vb true)) (hq : q) {args : List Value} (ha : RVs (heapF W) al args) :
    Calls P g args.toArray W fun e w' => e = .returned (.bool true) ∧ Below W.heap.size W w' := by
  refine (hs.2 al q _ hct hq W (heapF W) args (fun b o h => h) ha).mono ?_
  rintro e w' ⟨F', v, _, _, _, hb, rfl, hv⟩
  obtain ⟨_, e1⟩ := (show plainV (.bool true) = true ∧ [v] = [.bool true] from hv)
  cases e1
  exact ⟨rfl, hb⟩
end
end Go.AE
