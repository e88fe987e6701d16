/- By hand: add, sub and cmp of words, walked. -/
import Derived.Test.YtaeicclhopehaaaH4
import Derived.Shelf.Abstract
import Derived.RangeFuncCalls
namespace Go.AE
open Go.Proofs Go.RowKit Go.Shelf
set_option linter.unusedVariables false
set_option linter.unusedSimpArgs false
attribute [local go_sem] Oper.semAt_some

set_option maxRecDepth 100000 in
set_option maxHeartbeats 2000000 in
theorem sub_in (F : Fence) (n : Nat) (hall : ∀ k, F.fn k) (hro : F.round = none) (hn : 5 ≤ n) (a b : List Int) (Z : Fz) (A B : Option Addr) (ca cb : Nat) (hRa : RL Z 1 Ru32 a (.slice A a.length ca)) (hRb : RL Z 1 Ru32 b (.slice B b.length cb)) (hla : a.length ≤ 1099511627776) (hlb : b.length ≤ 1099511627776)
    (w : World) (hZ : ∀ x o, Z x = some o → w.heap[x]? = some o) (hZc : ∀ x o, Z x = some o → o.isCells = true) :
    CallsIn F n Try.prog 131 #[.slice A a.length ca, .slice B b.length cb] w fun e W' => ∃ v, e = .returned v ∧ ∃ l, l = cr (fun k => a.getD k 0 + 4294967296 - 1 - b.getD k 0) ([0], 1) (List.range (max a.length b.length)) ∧
      (∃ g cap, W'.ownsRow w.heap.size 72 1 (.slice (some ⟨g, 0, none⟩) (max a.length b.length + 2) cap) (max a.length b.length + 2) ((l.1 ++ [l.2]).map (Value.int .u32)) ∧ ∃ A c, v = .slice A (max a.length b.length) c ∧ max a.length b.length ≤ c ∧ (0 < max a.length b.length → A = some ⟨g, 1, none⟩)) ∧ Below w.heap.size w W' := by
  have h1 : 1 ≤ n := by omega
  refine callsIn_of_wp_marks Try.func131 rfl (hall _) ?_ hro
  simp only [Try.ntmps131, List.size_toArray, List.length_cons, List.length_nil, Nat.reduceAdd, Nat.reduceSub, Array.replicate_succ, Array.replicate_zero, List.push_toArray, List.append_toArray, List.nil_append, List.cons_append]
  gi_wp2_with (gi_at_call 144; refine (carrier_in F (n - 1) (hall _) hro _).mono ?_; rintro e w' ⟨rfl, rfl⟩)
  obtain ⟨av, hav⟩ : ∃ f : Nat → Int, Hid (f = fun k => a.getD k 0) := ⟨_, rfl⟩
  obtain ⟨bv, hbv⟩ : ∃ f : Nat → Int, Hid (f = fun k => b.getD k 0) := ⟨_, rfl⟩
  have hax : ∀ k, 0 ≤ av k ∧ av k < 4294967296 := by intro k; rw [hav.out]; exact okW_getD (okW_of_RL hRa) k
  have hbx : ∀ k, 0 ≤ bv k ∧ bv k < 4294967296 := by intro k; rw [hbv.out]; exact okW_getD (okW_of_RL hRb) k
  obtain ⟨f, hfd⟩ : ∃ f : Nat → Int, Hid (f = fun k => av k + 4294967296 - 1 - bv k) := ⟨_, rfl⟩
  have hfb : ∀ k, 0 ≤ f k ∧ f k ≤ 8589934590 := by
    intro k; have := hax k; have := hbx k; rw [hfd.out]; simp only; omega
  obtain ⟨s, hs'⟩ : ∃ s, s = w.heap.size := ⟨_, rfl⟩
  have hs : Hid (s = w.heap.size) := hs'
  simp only [← hs']
  clear hs'
  obtain ⟨W1, hW1⟩ : ∃ W1, W1 = (((w.alloc (.cells #[.slice none 0 0] 29)).alloc (.cells #[.int .u64 0] 136)).alloc (.cells #[(.func (.func 153) #[] #[.pointer (some ⟨s + 1, 0, none⟩), .pointer (some ⟨s, 0, none⟩)])] 157)) := ⟨_, rfl⟩
  have hW1s : W1.heap.size = s + 3 := by rw [hW1]; simp [← hs.out]
  have hW1B : Below s w W1 := by rw [hW1, hs.out]; exact (((Below.refl _ w).alloc (Nat.le_refl _) _).alloc (by simp) _).alloc (by simp; omega) _
  have b0 : Boxed W1 s 29 (.slice none 0 0) := by rw [hW1, hs.out]; exact ((Boxed.new w 29 _).alloc _).alloc _
  have b1 : Boxed W1 (s + 1) 136 (.int .u64 0) := by
    have := ((Boxed.new (w.alloc (.cells #[.slice none 0 0] 29)) 136 (.int .u64 0)).alloc (.cells #[(.func (.func 153) #[] #[.pointer (some ⟨s + 1, 0, none⟩), .pointer (some ⟨s, 0, none⟩)])] 157))
    rw [World.size_alloc, ← hs.out] at this; rw [hW1]; exact this
  have b2 : Boxed W1 (s + 2) 157 (.func (.func 153) #[] #[.pointer (some ⟨s + 1, 0, none⟩), .pointer (some ⟨s, 0, none⟩)]) := by
    have := (Boxed.new ((w.alloc (.cells #[.slice none 0 0] 29)).alloc (.cells #[.int .u64 0] 136)) 157 (.func (.func 153) #[] #[.pointer (some ⟨s + 1, 0, none⟩), .pointer (some ⟨s, 0, none⟩)]))
    rw [World.size_alloc, World.size_alloc, ← hs.out] at this; rw [hW1]; exact this
  have hp1 := put_in F (n - 1) (hall _) hro s s (s + 1) [] 0 4294967296 W1 (Nat.le_refl _) (by omega) (by omega) (by omega) (by decide) (by decide) (by decide) (by decide) ⟨_, b0, b1, World.ownsRow_nil _ _ _ _⟩
  simp only [← hW1]
  refine hp1.mono ?_
  rintro e w2 ⟨⟨vx, rfl⟩, hq1, hq2, hq3, hq4⟩
  have hq1 : CS s s (s + 1) [0] 1 w2 := hq1
  clear hp1
  have c2 := hq4 _ _ _ (by omega) (by omega) (by decide) b2
  have hw2s := hq3.size
  gi_wp2_with (gi_at_call 145; refine (pairs_in F (n - 1) (hall _) hro _ _ _ _ _ _ _).mono ?_; rintro e w' ⟨rfl, rfl⟩)
  obtain ⟨z, hz⟩ : ∃ z, z = w2.heap.size := ⟨_, rfl⟩
  simp only [← hz]
  obtain ⟨W0, hW0⟩ : ∃ W0, W0 = (w2.alloc (.cells #[.slice A a.length ca] 29)).alloc (.cells #[.slice B b.length cb] 29) := ⟨_, rfl⟩
  simp only [← hW0]
  have hWs : W0.heap.size = z + 2 := by rw [hW0]; simp [← hz]
  have hWB : Below s w W0 := by rw [hW0]; exact ((hW1B.trans hq3).alloc (by omega) _).alloc (by simp; omega) _
  have d1 : CS s s (s + 1) [0] 1 W0 := by
    obtain ⟨u, u1, u2, u3⟩ := hq1
    rw [hW0]
    exact ⟨u, (u1.alloc _).alloc _, (u2.alloc _).alloc _, (u3.alloc _).alloc _⟩
  have d2 := (c2.alloc (.cells #[.slice A a.length ca] 29)).alloc (.cells #[.slice B b.length cb] 29)
  rw [← hW0] at d2
  have b3 : Boxed W0 z 29 (.slice A a.length ca) := by
    have := (Boxed.new w2 29 (.slice A a.length ca)).alloc (.cells #[.slice B b.length cb] 29)
    rw [hW0, hz]; exact this
  have b4 : Boxed W0 (z + 1) 29 (.slice B b.length cb) := by
    have := Boxed.new (w2.alloc (.cells #[.slice A a.length ca] 29)) 29 (.slice B b.length cb)
    rw [World.size_alloc] at this; rw [hW0, hz]; exact this
  have hzs : s + 3 ≤ z := by omega
  clear hW0 hW1 hq1 hq2 hq3 hq4 c2 b0 b1 b2
  replace hz : Hid (z = w2.heap.size) := hz
  have hZs : ∀ x o, Z x = some o → x < s := fun x o e => by rw [hs.out]; exact (Array.getElem?_eq_some_iff.1 (hZ x o e)).1
  have hRD : RD Z z (z + 1) (.slice A a.length ca) (.slice B b.length cb) W0 := ⟨b3, b4, fun x o e => (hWB.block x (hZs x o e)).trans (hZ x o e)⟩
  refine wpIn_rangeFunc_ownG (α := Nat) hro h1 (gf := 155) (lb := #[.pointer (some ⟨z, 0, none⟩), .pointer (some ⟨z + 1, 0, none⟩)]) rfl (hall _) (enters_of Try.func155 (by kernel_rfl) rfl)
    (pairs_stops F (n - 1) (hall _) hro (by omega) z (z + 1) a b Z _ _ hRa hRb hla hlb av bv hav.out hbv.out W0 hRD (by omega) (by omega) (fun x o e => by have := hZs x o e; omega)) (fun h k => h.t k)
    (fun W l o o' hl ho hc hw h => h.kept (grownBy_putObj' W l o') (by intro e; cases e; omega) (by intro e; cases e; omega) (fun y oy e => by intro e'; have := hZs y oy e; cases e'; omega)) (Below.refl _ _) (fun _ => rfl)
    (fun pre W => CS s s (s + 1) (cr f ([0], 1) pre).1 (cr f ([0], 1) pre).2 W ∧ Boxed W (s + 2) 157 (.func (.func 153) #[] #[.pointer (some ⟨s + 1, 0, none⟩), .pointer (some ⟨s, 0, none⟩)]) ∧ (RD Z z (z + 1) (.slice A a.length ca) (.slice B b.length cb) W ∧ ∀ x o, Z x = some o → o.isCells = true) ∧ Below s w W)
    (fun _ _ _ => False)
    (OwnFrom.and (Own.from (CS_own s s (s + 1) f ([0], 1)) _) (OwnFrom.and (Own.from (boxed_own (s + 2) 157 (fun _ => (.func (.func 153) #[] #[.pointer (some ⟨s + 1, 0, none⟩), .pointer (some ⟨s, 0, none⟩)]))) _) (OwnFrom.and (Own.from (RD_own Z z (z + 1) _ _) _) (ownFrom_below (by have := hs.out; omega) (by have := hs.out; omega)))))
    (fun _ _ _ _ _ hs _ _ => hs)
    ⟨d1, d2, ⟨hRD, hZc⟩, hWB⟩
    (fun k => { tmps := #[.slice A a.length ca, .slice B b.length cb, undef, undef, .slice none 0 0, .pointer (some ⟨s + 1 + 1, 0, none⟩), .func (.func 154) #[] #[.pointer (some ⟨s, 0, none⟩), .pointer (some ⟨s + 1, 0, none⟩)], .int .u64 (av k), .int .u64 (bv k), undef,
      .tuple #[(.func (.func 153) #[] #[.pointer (some ⟨s + 1, 0, none⟩), .pointer (some ⟨s, 0, none⟩)]), .func (.func 154) #[] #[.pointer (some ⟨s, 0, none⟩), .pointer (some ⟨s + 1, 0, none⟩)]], .tuple #[(.func (.func 153) #[] #[.pointer (some ⟨s + 1, 0, none⟩), .pointer (some ⟨s, 0, none⟩)]), .func (.func 154) #[] #[.pointer (some ⟨s, 0, none⟩), .pointer (some ⟨s + 1, 0, none⟩)]], (.func (.func 153) #[] #[.pointer (some ⟨s + 1, 0, none⟩), .pointer (some ⟨s, 0, none⟩)]), .func (.func 154) #[] #[.pointer (some ⟨s, 0, none⟩), .pointer (some ⟨s + 1, 0, none⟩)], (.func (.func 153) #[] #[.pointer (some ⟨s + 1, 0, none⟩), .pointer (some ⟨s, 0, none⟩)]), vx, .slice A a.length ca, .slice B b.length cb, .func (.func 155) #[] #[.pointer (some ⟨z, 0, none⟩), .pointer (some ⟨z + 1, 0, none⟩)], .int .u64 (av k), .int .u64 (bv k),
      undef, undef, undef, undef, undef, undef, undef, undef, undef, undef, undef, undef, undef, undef], defers := [] }) ?assign ?body ?done ?stop
  case assign =>
    intro l x W K hK
    gi_wp2
    exact hK
  case body =>
    rintro l pre x W ⟨hCS, hbp, ⟨hR, hc⟩, hB⟩ hlt
    have hx := hax x
    have hy := hbx x
    have hcar := cr_carry hfb (s := ([0], 1)) ⟨by decide, by decide⟩ pre
    have hlen := cr_length f ([0], 1) pre
    simp only [List.length_cons, List.length_nil, Nat.zero_add] at hlen
    have hfx := hfb x
    have hp := put_in F (n - 1 - 1 - 1) (hall _) hro s s (s + 1) (cr f ([0], 1) pre).1 (cr f ([0], 1) pre).2 (f x) W (Nat.le_refl _) (by omega) (by omega) (by have := hB.size; have := hs.out; omega) (by rw [hlen]; omega) hcar.1 hfx.1 (by omega) hCS
    have hsn := cr_snoc f ([0], 1) pre x
    have e1 := hbp.cell
    have e2 : IntKind.u64.wrap (av x + 4294967296) = av x + 4294967296 := wrapu64 (by omega) (by omega)
    have e3 : IntKind.u64.wrap (av x + 4294967296 - 1) = av x + 4294967296 - 1 := wrapu64 (by omega) (by omega)
    have e4 : IntKind.u64.wrap (av x + 4294967296 - 1 - bv x) = f x := by rw [hfd.out]; exact wrapu64 (by omega) (by omega)
    clear hlen hx hy hcar hfx hsn
    gi_wp2
    refine ⟨fun _ => by omega, CallsIn.mono (CallsIn.inRound l hp) ?_⟩
    rintro e w' ⟨⟨_, rfl⟩, hq1, hq2, hq3, hq4⟩
    gi_wp2
    have hR2 : RD Z z (z + 1) (.slice A a.length ca) (.slice B b.length cb) w' := ⟨hq4 _ _ _ (by omega) (by omega) (by decide) hR.a, hq4 _ _ _ (by omega) (by omega) (by decide) hR.b, fun y o e => (hq3.block y (hZs y o e)).trans (hR.f y o e)⟩
    exact ⟨hq2.from _, fun _ => hR2, by rw [cr_snoc]; exact hq1, hq4 _ _ _ (by omega) (by omega) (by decide) hbp, ⟨hR2, hc⟩, hB.trans hq3⟩
  case done =>
    rintro D xs W hD rfl ⟨hCS, hbp, _, hB⟩ hK
    have hcar := cr_carry hfb (s := ([0], 1)) ⟨by decide, by decide⟩ (List.range (max a.length b.length))
    have hlen := cr_length f ([0], 1) (List.range (max a.length b.length))
    simp only [List.length_cons, List.length_nil, Nat.zero_add, List.length_range] at hlen
    have hp := all_in F (n - 1) (hall _) hro s s (s + 1) _ _ W (Nat.le_refl _) (by omega) (by have := hB.size; have := hs.out; omega) (by rw [hlen]; omega) hcar.1 (by omega) hCS
    obtain ⟨M, hM⟩ : ∃ M, Hid (M = max a.length b.length) := ⟨_, rfl⟩
    have hMb : M ≤ 1099511627776 := by rw [hM.out]; omega
    have hk : ((cr f ([0], 1) (List.range (max a.length b.length))).1 ++ [(cr f ([0], 1) (List.range (max a.length b.length))).2]).length = M + 1 + 1 := by
      rw [List.length_append, hlen, hM.out]; simp; omega
    rw [hk] at hp
    clear hlen hcar hk
    gi_wp2
    refine hp.mono ?_
    rintro e w' ⟨v, rfl, hq1, hq2, hq3⟩
    have hK' := hq2.same D _ hK rfl
    obtain ⟨g, cap, rfl⟩ := ownsRow_succ hq1
    have hcap : M + 1 + 1 ≤ cap := by
      rcases hq1.2 with ⟨h, _⟩ | ⟨g', cap', cur, h, _, _, h5, _⟩
      · cases h
      · cases h; omega
    have e1 : IntKind.i64.wrap (((M : Int) + 1 + 1) - 1) = (M : Int) + 1 := by rw [wrap64 (by omega) (by omega)]; omega
    have e2 : IntKind.i64.wrap ((M : Int) + 2 - 1) = (M : Int) + 1 := by rw [wrap64 (by omega) (by omega)]; omega
    gi_wp2
    refine ⟨by simp, .inl ⟨_, _, rfl, run_takeDeferred hK', ?_⟩⟩
    refine ⟨_, results_tmp rfl _ _ _, _, rfl, _, rfl, ⟨g, cap, ?_, _, cap - 1, ?_, ?_, fun _ => rfl⟩, ?_⟩
    · have := ownsRow_putObj hq1 (.deferred none) hK' rfl
      rw [← hs.out]
      rw [hfd.out, hav.out, hbv.out] at this
      rw [hM.out] at this
      exact this
    · exact congrArg (fun m => Value.slice (some ⟨g, 1, none⟩) m (cap - 1)) hM.out
    · rw [← hM.out]; omega
    · rw [← hs.out]
      exact (hB.trans hq3).trans (belowK_b (w := W0) (by omega) w' D _ _ hD hK' rfl rfl)
  case stop =>
    rintro D c pre W _ _ h _
    exact h.elim
end Go.AE
