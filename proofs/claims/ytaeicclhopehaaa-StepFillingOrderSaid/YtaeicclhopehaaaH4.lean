/- By hand: add, sub and cmp of words, walked. -/
import Derived.Test.YtaeicclhopehaaaH3
import Derived.Shelf.Abstract
import Derived.RangeFuncCalls
namespace Go.AE
open Go.Proofs Go.RowKit Go.Shelf
set_option linter.unusedVariables false
set_option linter.unusedSimpArgs false
attribute [local go_sem] Oper.semAt_some

theorem pairs_stops (F : Fence) (n : Nat) (hf : F.fn 155) (hro : F.round = none) (hn : 1 ≤ n) (ba bb : Nat) (a b : List Int) (Z : Fz) (va vb : Value) (hRa : RL Z 1 Ru32 a va) (hRb : RL Z 1 Ru32 b vb) (hla : a.length ≤ 1099511627776) (hlb : b.length ≤ 1099511627776)
    (av bv : Nat → Int) (hav : av = fun k => a.getD k 0) (hbv : bv = fun k => b.getD k 0) (w : World) (hw : RD Z ba bb va vb w) (h1 : ba < w.heap.size) (h2 : bb < w.heap.size) (h3 : ∀ x o, Z x = some o → x < w.heap.size) :
    SeqStopsK F n Try.prog 155 #[.pointer (some ⟨ba, 0, none⟩), .pointer (some ⟨bb, 0, none⟩)] (fun k => #[.int .u64 (av k), .int .u64 (bv k)]) (KP Z ba bb va vb) (fun xs => xs = List.range (max a.length b.length)) (fun _ => True) (max a.length b.length) w :=
  by subst hav hbv; exact fun l J Jx W hW _ _ hY h0 => pairs1_in F n hf hro hn l ba bb a b Z va vb hRa hRb hla hlb J Jx hY W (hw.below hW h1 h2 h3) h0

theorem ownFrom_of {β : Type} {I : β → World → Prop} (h : Own I) (B : Nat) : OwnFrom B I := Own.from h B

set_option maxRecDepth 100000 in
set_option maxHeartbeats 2000000 in
theorem add_in (F : Fence) (n : Nat) (hall : ∀ k, F.fn k) (hro : F.round = none) (hn : 5 ≤ n) (a b : List Int) (Z : Fz) (A B : Option Addr) (ca cb : Nat) (hRa : RL Z 1 Ru32 a (.slice A a.length ca)) (hRb : RL Z 1 Ru32 b (.slice B b.length cb)) (hla : a.length ≤ 1099511627776) (hlb : b.length ≤ 1099511627776)
    (w : World) (hZ : ∀ x o, Z x = some o → w.heap[x]? = some o) (hZc : ∀ x o, Z x = some o → o.isCells = true) :
    CallsIn F n Try.prog 129 #[.slice A a.length ca, .slice B b.length cb] w fun e W' => ∃ v, e = .returned v ∧ ∃ l, l = cr (fun k => a.getD k 0 + b.getD k 0) ([], 0) (List.range (max a.length b.length)) ∧
      W'.ownsRow w.heap.size 72 1 v (l.1 ++ [l.2]).length ((l.1 ++ [l.2]).map (Value.int .u32)) ∧ Below w.heap.size w W' := by
  have h1 : 1 ≤ n := by omega
  refine callsIn_of_wp_marks Try.func129 rfl (hall _) ?_ hro
  simp only [Try.ntmps129, List.size_toArray, List.length_cons, List.length_nil, Nat.reduceAdd, Nat.reduceSub, Array.replicate_succ, Array.replicate_zero, List.push_toArray, List.append_toArray, List.nil_append, List.cons_append]
  gi_wp2_with (first | (gi_at_call 144; refine (carrier_in F (n - 1) (hall _) hro _).mono ?_; rintro e w' ⟨rfl, rfl⟩) | (gi_at_call 145; refine (pairs_in F (n - 1) (hall _) hro _ _ _ _ _ _ _).mono ?_; rintro e w' ⟨rfl, rfl⟩))
  obtain ⟨av, hav⟩ : ∃ f : Nat → Int, Hid (f = fun k => a.getD k 0) := ⟨_, rfl⟩
  obtain ⟨bv, hbv⟩ : ∃ f : Nat → Int, Hid (f = fun k => b.getD k 0) := ⟨_, rfl⟩
  have hax : ∀ k, 0 ≤ av k ∧ av k < 4294967296 := by intro k; rw [hav.out]; exact okW_getD (okW_of_RL hRa) k
  have hbx : ∀ k, 0 ≤ bv k ∧ bv k < 4294967296 := by intro k; rw [hbv.out]; exact okW_getD (okW_of_RL hRb) k
  obtain ⟨f, hfd⟩ : ∃ f : Nat → Int, Hid (f = fun k => av k + bv k) := ⟨_, rfl⟩
  have hfb : ∀ k, 0 ≤ f k ∧ f k ≤ 8589934590 := by
    intro k; have := hax k; have := hbx k; rw [hfd.out]; simp only; omega
  obtain ⟨s, hs'⟩ : ∃ s, s = w.heap.size := ⟨_, rfl⟩
  have hs : Hid (s = w.heap.size) := hs'
  simp only [← hs']
  clear hs'
  obtain ⟨W0, hW0⟩ : ∃ W0, W0 = (((((w.alloc (.cells #[.slice none 0 0] 29)).alloc (.cells #[.int .u64 0] 136)).alloc (.cells #[(.func (.func 153) #[] #[.pointer (some ⟨s + 1, 0, none⟩), .pointer (some ⟨s, 0, none⟩)])] 157)).alloc (.cells #[.slice A a.length ca] 29)).alloc (.cells #[.slice B b.length cb] 29)) := ⟨_, rfl⟩
  have hWs : W0.heap.size = s + 5 := by rw [hW0]; simp [← hs.out]
  have hWB : Below s w W0 := by rw [hW0, hs.out]; exact (((((Below.refl _ w).alloc (Nat.le_refl _) _).alloc (by simp) _).alloc (by simp; omega) _).alloc (by simp; omega) _).alloc (by simp; omega) _
  have b0 : Boxed W0 s 29 (.slice none 0 0) := by rw [hW0, hs.out]; exact ((((Boxed.new w 29 _).alloc _).alloc _).alloc _).alloc _
  have b1 : Boxed W0 (s + 1) 136 (.int .u64 0) := by
    have := (((Boxed.new (w.alloc (.cells #[.slice none 0 0] 29)) 136 (.int .u64 0)).alloc (.cells #[(.func (.func 153) #[] #[.pointer (some ⟨s + 1, 0, none⟩), .pointer (some ⟨s, 0, none⟩)])] 157)).alloc (.cells #[.slice A a.length ca] 29)).alloc (.cells #[.slice B b.length cb] 29)
    rw [World.size_alloc, ← hs.out] at this; rw [hW0]; exact this
  have b2 : Boxed W0 (s + 2) 157 (.func (.func 153) #[] #[.pointer (some ⟨s + 1, 0, none⟩), .pointer (some ⟨s, 0, none⟩)]) := by
    have := ((Boxed.new ((w.alloc (.cells #[.slice none 0 0] 29)).alloc (.cells #[.int .u64 0] 136)) 157 (.func (.func 153) #[] #[.pointer (some ⟨s + 1, 0, none⟩), .pointer (some ⟨s, 0, none⟩)])).alloc (.cells #[.slice A a.length ca] 29)).alloc (.cells #[.slice B b.length cb] 29)
    rw [World.size_alloc, World.size_alloc, ← hs.out] at this; rw [hW0]; exact this
  have b3 : Boxed W0 (s + 3) 29 (.slice A a.length ca) := by
    have := (Boxed.new (((w.alloc (.cells #[.slice none 0 0] 29)).alloc (.cells #[.int .u64 0] 136)).alloc (.cells #[(.func (.func 153) #[] #[.pointer (some ⟨s + 1, 0, none⟩), .pointer (some ⟨s, 0, none⟩)])] 157)) 29 (.slice A a.length ca)).alloc (.cells #[.slice B b.length cb] 29)
    rw [World.size_alloc, World.size_alloc, World.size_alloc, ← hs.out] at this; rw [hW0]; exact this
  have b4 : Boxed W0 (s + 4) 29 (.slice B b.length cb) := by
    have := Boxed.new ((((w.alloc (.cells #[.slice none 0 0] 29)).alloc (.cells #[.int .u64 0] 136)).alloc (.cells #[(.func (.func 153) #[] #[.pointer (some ⟨s + 1, 0, none⟩), .pointer (some ⟨s, 0, none⟩)])] 157)).alloc (.cells #[.slice A a.length ca] 29)) 29 (.slice B b.length cb)
    rw [World.size_alloc, World.size_alloc, World.size_alloc, World.size_alloc, ← hs.out] at this; rw [hW0]; exact this
  have hZs : ∀ x o, Z x = some o → x < s := fun x o e => by rw [hs.out]; exact (Array.getElem?_eq_some_iff.1 (hZ x o e)).1
  have hRD : RD Z (s + 3) (s + 4) (.slice A a.length ca) (.slice B b.length cb) W0 := ⟨b3, b4, fun x o e => (hWB.block x (hZs x o e)).trans (hZ x o e)⟩
  simp only [← hW0]
  refine wpIn_rangeFunc_ownG (α := Nat) hro h1 (gf := 155) (lb := #[.pointer (some ⟨s + 3, 0, none⟩), .pointer (some ⟨s + 4, 0, none⟩)]) rfl (hall _) (enters_of Try.func155 (by kernel_rfl) rfl)
    (pairs_stops F (n - 1) (hall _) hro (by omega) (s + 3) (s + 4) a b Z _ _ hRa hRb hla hlb av bv hav.out hbv.out W0 hRD (by omega) (by omega) (fun x o e => by have := hZs x o e; omega)) (fun h k => h.t k)
    (fun W l o o' hl ho hc hw h => h.kept (grownBy_putObj' W l o') (by intro e; cases e; omega) (by intro e; cases e; omega) (fun y oy e => by intro e'; have := hZs y oy e; cases e'; omega)) (Below.refl _ _) (fun _ => rfl)
    (fun pre W => CS s s (s + 1) (cr f ([], 0) pre).1 (cr f ([], 0) pre).2 W ∧ Boxed W (s + 2) 157 (.func (.func 153) #[] #[.pointer (some ⟨s + 1, 0, none⟩), .pointer (some ⟨s, 0, none⟩)]) ∧ (RD Z (s + 3) (s + 4) (.slice A a.length ca) (.slice B b.length cb) W ∧ ∀ x o, Z x = some o → o.isCells = true) ∧ Below s w W)
    (fun _ _ _ => False)
    (OwnFrom.and (Own.from (CS_own s s (s + 1) f ([], 0)) _) (OwnFrom.and (Own.from (boxed_own (s + 2) 157 (fun _ => (.func (.func 153) #[] #[.pointer (some ⟨s + 1, 0, none⟩), .pointer (some ⟨s, 0, none⟩)]))) _) (OwnFrom.and (Own.from (RD_own Z (s + 3) (s + 4) _ _) _) (ownFrom_below (by have := hs.out; omega) (by have := hs.out; omega)))))
    (fun _ _ _ _ _ hs _ _ => hs)
    ⟨⟨_, b0, b1, World.ownsRow_nil _ _ _ _⟩, b2, ⟨hRD, hZc⟩, hWB⟩
    (fun k => { tmps := #[.slice A a.length ca, .slice B b.length cb, undef, undef, .slice none 0 0, .pointer (some ⟨s + 1 + 1, 0, none⟩), .func (.func 154) #[] #[.pointer (some ⟨s, 0, none⟩), .pointer (some ⟨s + 1, 0, none⟩)], .int .u64 (av k), .int .u64 (bv k),
      .tuple #[(.func (.func 153) #[] #[.pointer (some ⟨s + 1, 0, none⟩), .pointer (some ⟨s, 0, none⟩)]), .func (.func 154) #[] #[.pointer (some ⟨s, 0, none⟩), .pointer (some ⟨s + 1, 0, none⟩)]], .tuple #[(.func (.func 153) #[] #[.pointer (some ⟨s + 1, 0, none⟩), .pointer (some ⟨s, 0, none⟩)]), .func (.func 154) #[] #[.pointer (some ⟨s, 0, none⟩), .pointer (some ⟨s + 1, 0, none⟩)]], (.func (.func 153) #[] #[.pointer (some ⟨s + 1, 0, none⟩), .pointer (some ⟨s, 0, none⟩)]), .func (.func 154) #[] #[.pointer (some ⟨s, 0, none⟩), .pointer (some ⟨s + 1, 0, none⟩)],
      .slice A a.length ca, .slice B b.length cb, .func (.func 155) #[] #[.pointer (some ⟨s + 1 + 1 + 1, 0, none⟩), .pointer (some ⟨s + 1 + 1 + 1 + 1, 0, none⟩)], .int .u64 (av k), .int .u64 (bv k), undef, undef, undef, undef, undef, undef, undef], defers := [] }) ?assign ?body ?done ?stop
  case assign =>
    intro l x W K hK
    gi_wp2
    exact hK
  case body =>
    rintro l pre x W ⟨hCS, hbp, ⟨hR, hc⟩, hB⟩ hlt
    have hx := hax x
    have hy := hbx x
    have hcar := cr_carry hfb (s := ([], 0)) ⟨Int.le_refl _, by decide⟩ pre
    have hlen := cr_length f ([], 0) pre
    simp only [List.length_nil, Nat.zero_add] at hlen
    have hfx := hfb x
    have hp := put_in F (n - 1 - 1 - 1) (hall _) hro s s (s + 1) (cr f ([], 0) pre).1 (cr f ([], 0) pre).2 (f x) W (Nat.le_refl _) (by omega) (by omega) (by have := hB.size; have := hs.out; omega) (by rw [hlen]; omega) hcar.1 hfx.1 (by omega) hCS
    have hsn := cr_snoc f ([], 0) pre x
    have e1 := hbp.cell
    have e2 : IntKind.u64.wrap (av x + bv x) = f x := by rw [hfd.out]; exact wrapu64 (by omega) (by omega)
    clear hlen hx hy hcar hfx hsn
    gi_wp2
    refine ⟨fun _ => by omega, CallsIn.mono (CallsIn.inRound l hp) ?_⟩
    rintro e w' ⟨⟨_, rfl⟩, hq1, hq2, hq3, hq4⟩
    gi_wp2
    have hR2 : RD Z (s + 3) (s + 4) (.slice A a.length ca) (.slice B b.length cb) w' := ⟨hq4 _ _ _ (by omega) (by omega) (by decide) hR.a, hq4 _ _ _ (by omega) (by omega) (by decide) hR.b, fun y o e => (hq3.block y (hZs y o e)).trans (hR.f y o e)⟩
    exact ⟨hq2.from _, fun _ => hR2, by rw [cr_snoc]; exact hq1, hq4 _ _ _ (by omega) (by omega) (by decide) hbp, ⟨hR2, hc⟩, hB.trans hq3⟩
  case done =>
    rintro D xs W hD rfl ⟨hCS, hbp, _, hB⟩ hK
    have hcar := cr_carry hfb (s := ([], 0)) ⟨Int.le_refl _, by decide⟩ (List.range (max a.length b.length))
    have hlen := cr_length f ([], 0) (List.range (max a.length b.length))
    simp only [List.length_nil, Nat.zero_add, List.length_range] at hlen
    have hp := all_in F (n - 1) (hall _) hro s s (s + 1) _ _ W (Nat.le_refl _) (by omega) (by have := hB.size; have := hs.out; omega) (by rw [hlen]; omega) hcar.1 (by omega) hCS
    clear hlen hcar
    gi_wp2
    refine hp.mono ?_
    rintro e w' ⟨v, rfl, hq1, hq2, hq3⟩
    have hK' := hq2.same D _ hK rfl
    gi_wp2
    refine ⟨by simp, .inl ⟨_, _, rfl, run_takeDeferred hK', ?_⟩⟩
    refine ⟨_, results_tmp rfl _ _ _, v, rfl, _, rfl, ?_, ?_⟩
    · have := ownsRow_putObj hq1 (.deferred none) hK' rfl
      rw [← hs.out]
      rw [hfd.out, hav.out, hbv.out] at this
      exact this
    · rw [← hs.out]
      exact (hB.trans hq3).trans (belowK_b (w := W0) (by omega) w' D _ _ hD hK' rfl rfl)
  case stop =>
    rintro D c pre W _ _ h _
    exact h.elim
end Go.AE
