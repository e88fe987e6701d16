/- By hand: cmp of words, walked. -/
import Derived.Test.YtaeicclhopehaaaH5
namespace Go.AE
open Go.Proofs Go.RowKit Go.Shelf
set_option linter.unusedVariables false
set_option linter.unusedSimpArgs false
attribute [local go_sem] Oper.semAt_some

def cmf (av bv : Nat → Int) (pre : List Nat) : Int := pre.foldl (fun c k => if av k < bv k then -1 else if bv k < av k then 1 else c) 0
theorem cmf_snoc (av bv : Nat → Int) (pre : List Nat) (k : Nat) : cmf av bv (pre ++ [k]) = if av k < bv k then -1 else if bv k < av k then 1 else cmf av bv pre := by simp [cmf]
def cmpW (a b : List Int) : Int := if (a.length : Int) - b.length ≠ 0 then (a.length : Int) - b.length else cmf (fun k => a.getD k 0) (fun k => b.getD k 0) (List.range (max a.length b.length))

set_option maxRecDepth 100000 in
set_option maxHeartbeats 2000000 in
theorem cmp_in (F : Fence) (n : Nat) (hall : ∀ k, F.fn k) (hro : F.round = none) (hn : 5 ≤ n) (a b : List Int) (Z : Fz) (A B : Option Addr) (ca cb : Nat) (hRa : RL Z 1 Ru32 a (.slice A a.length ca)) (hRb : RL Z 1 Ru32 b (.slice B b.length cb)) (hla : a.length ≤ 1099511627776) (hlb : b.length ≤ 1099511627776)
    (w : World) (hZ : ∀ x o, Z x = some o → w.heap[x]? = some o) (hZc : ∀ x o, Z x = some o → o.isCells = true) :
    CallsIn F n Try.prog 130 #[.slice A a.length ca, .slice B b.length cb] w fun e W' => e = .returned (.int .i64 (cmpW a b)) ∧ Below w.heap.size w W' := by
  have h1 : 1 ≤ n := by omega
  refine callsIn_of_wp_marks Try.func130 rfl (hall _) ?_ hro
  simp only [Try.ntmps130, List.size_toArray, List.length_cons, List.length_nil, Nat.reduceAdd, Nat.reduceSub, Array.replicate_succ, Array.replicate_zero, List.push_toArray, List.append_toArray, List.nil_append, List.cons_append]
  have hw : IntKind.i64.wrap ((a.length : Int) - b.length) = (a.length : Int) - b.length := wrap64 (by omega) (by omega)
  have hcm : Hid (cmpW a b = if (a.length : Int) - b.length ≠ 0 then (a.length : Int) - b.length else cmf (fun k => a.getD k 0) (fun k => b.getD k 0) (List.range (max a.length b.length))) := rfl
  generalize cmpW a b = cm at *
  generalize hd : (a.length : Int) - b.length = d at *
  replace hd : Hid ((a.length : Int) - b.length = d) := hd
  gi_wp2_with (gi_at_call 145; refine (pairs_in F (n - 1) (hall _) hro _ _ _ _ _ _ _).mono ?_; rintro e w' ⟨rfl, rfl⟩)
  · have hne : (a.length : Int) - b.length ≠ 0 := by rename_i h; simpa using h
    refine ⟨_, results_tmp rfl _ _ _, ?_, Below.refl _ _⟩
    rw [hcm.out, if_pos (by rw [← hd.out]; exact hne), ← hd.out]; rfl
  have heq : (a.length : Int) - b.length = 0 := by simp_all
  have hcm2 : Hid (cm = cmf (fun k => a.getD k 0) (fun k => b.getD k 0) (List.range (max a.length b.length))) := by rw [hcm.out, if_neg (by rw [← hd.out]; simpa using heq)]; rfl
  clear hcm hd hw heq
  obtain ⟨av, hav⟩ : ∃ f : Nat → Int, Hid (f = fun k => a.getD k 0) := ⟨_, rfl⟩
  obtain ⟨bv, hbv⟩ : ∃ f : Nat → Int, Hid (f = fun k => b.getD k 0) := ⟨_, rfl⟩
  obtain ⟨s, hs'⟩ : ∃ s, s = w.heap.size := ⟨_, rfl⟩
  have hs : Hid (s = w.heap.size) := hs'
  simp only [← hs']
  clear hs'
  obtain ⟨W0, hW0⟩ : ∃ W0, W0 = (((w.alloc (.cells #[.int .i64 0] 3)).alloc (.cells #[.slice A a.length ca] 29)).alloc (.cells #[.slice B b.length cb] 29)) := ⟨_, rfl⟩
  have hWs : W0.heap.size = s + 3 := by rw [hW0]; simp [← hs.out]
  have hWB : Below s w W0 := by rw [hW0, hs.out]; exact (((Below.refl _ w).alloc (Nat.le_refl _) _).alloc (by simp) _).alloc (by simp; omega) _
  have b0 : Boxed W0 s 3 (.int .i64 0) := by rw [hW0, hs.out]; exact ((Boxed.new w 3 _).alloc _).alloc _
  have b3 : Boxed W0 (s + 1) 29 (.slice A a.length ca) := by
    have := (Boxed.new (w.alloc (.cells #[.int .i64 0] 3)) 29 (.slice A a.length ca)).alloc (.cells #[.slice B b.length cb] 29)
    rw [World.size_alloc, ← hs.out] at this; rw [hW0]; exact this
  have b4 : Boxed W0 (s + 2) 29 (.slice B b.length cb) := by
    have := Boxed.new ((w.alloc (.cells #[.int .i64 0] 3)).alloc (.cells #[.slice A a.length ca] 29)) 29 (.slice B b.length cb)
    rw [World.size_alloc, World.size_alloc, ← hs.out] at this; rw [hW0]; exact this
  have hZs : ∀ x o, Z x = some o → x < s := fun x o e => by rw [hs.out]; exact (Array.getElem?_eq_some_iff.1 (hZ x o e)).1
  have hRD : RD Z (s + 1) (s + 2) (.slice A a.length ca) (.slice B b.length cb) W0 := ⟨b3, b4, fun x o e => (hWB.block x (hZs x o e)).trans (hZ x o e)⟩
  simp only [← hW0]
  refine wpIn_rangeFunc_ownG (α := Nat) hro h1 (gf := 155) (lb := #[.pointer (some ⟨s + 1, 0, none⟩), .pointer (some ⟨s + 2, 0, none⟩)]) rfl (hall _) (enters_of Try.func155 (by kernel_rfl) rfl)
    (pairs_stops F (n - 1) (hall _) hro (by omega) (s + 1) (s + 2) a b Z _ _ hRa hRb hla hlb av bv hav.out hbv.out W0 hRD (by omega) (by omega) (fun x o e => by have := hZs x o e; omega)) (fun h k => h.t k)
    (fun W l o o' hl ho hc hw h => h.kept (grownBy_putObj' W l o') (by intro e; cases e; omega) (by intro e; cases e; omega) (fun y oy e => by intro e'; have := hZs y oy e; cases e'; omega)) (Below.refl _ _) (fun _ => rfl)
    (fun pre W => Boxed W s 3 (.int .i64 (cmf av bv pre)) ∧ (RD Z (s + 1) (s + 2) (.slice A a.length ca) (.slice B b.length cb) W ∧ ∀ x o, Z x = some o → o.isCells = true) ∧ Below s w W)
    (fun _ _ _ => False)
    (OwnFrom.and (Own.from (boxed_own s 3 (fun pre => .int .i64 (cmf av bv pre))) _) (OwnFrom.and (Own.from (RD_own Z (s + 1) (s + 2) _ _) _) (ownFrom_below (by have := hs.out; omega) (by have := hs.out; omega))))
    (fun _ _ _ _ _ hs _ _ => hs)
    ⟨b0, ⟨hRD, hZc⟩, hWB⟩
    (fun k => { tmps := #[.slice A a.length ca, .slice B b.length cb, undef, undef, .int .i64 0, .int .i64 (a.length - b.length), .pointer (some ⟨s, 0, none⟩), .int .u64 (av k), .int .u64 (bv k), .slice A a.length ca, .int .i64 a.length, .slice B b.length cb, .int .i64 b.length, .int .i64 (a.length - b.length), .int .i64 (a.length - b.length), .bool false, undef,
      .slice A a.length ca, .slice B b.length cb, .func (.func 155) #[] #[.pointer (some ⟨s + 1, 0, none⟩), .pointer (some ⟨s + 1 + 1, 0, none⟩)], .int .u64 (av k), .int .u64 (bv k), undef, undef, undef, undef, undef, undef, undef, undef, undef], defers := [] }) ?assign ?body ?done ?stop
  case assign =>
    intro l x W K hK
    gi_wp2
    exact hK
  case body =>
    rintro l pre x W ⟨hbx, ⟨hR, hc⟩, hB⟩ hlt
    have hsn := cmf_snoc av bv pre x
    replace hsn : Hid _ := hsn
    have e1 := hbx.cell
    have e2 := hbx.frozen
    clear b0 b3 b4
    have key : ∀ v : Int, v = cmf av bv (pre ++ [x]) → ∀ W' : World, W' = W.setCell ⟨s, 0, none⟩ (.int .i64 v) → ownPostG W0.heap.size (KP Z (s + 1) (s + 2) (.slice A a.length ca) (.slice B b.length cb)) (fun pre W => Boxed W s 3 (.int .i64 (cmf av bv pre)) ∧ (RD Z (s + 1) (s + 2) (.slice A a.length ca) (.slice B b.length cb) W ∧ ∀ x o, Z x = some o → o.isCells = true) ∧ Below s w W) (fun _ _ _ => False) (pre ++ [x]) W .normal { tmps := #[], defers := [] } W' := by
      rintro v hv W' rfl
      have hR2 : RD Z (s + 1) (s + 2) (.slice A a.length ca) (.slice B b.length cb) (W.setCell ⟨s, 0, none⟩ (.int .i64 v)) := hR.kept (grownBy_setCell' _ _ _) (by intro e; cases e) (by intro e; cases e) (fun y oy e => by intro e'; have := hZs y oy e; cases e'; omega)
      exact ⟨(KeepsOthers.setCell _ _ _).from _, fun _ => hR2, hv ▸ hbx.set _, ⟨hR2, hc⟩, hB.setCell (p := ⟨s, 0, none⟩) (Nat.le_refl _) _⟩
    replace key : Hid _ := key
    gi_wp2
    · exact key.out (-1) (by rw [hsn.out, if_pos (by assumption)]) _ rfl
    · exact key.out 1 (by rw [hsn.out, if_neg (by omega), if_pos (by assumption)]) _ rfl
    · exact ⟨KeepsFrom.refl _ _, fun h => h, by rw [hsn.out, if_neg (by omega), if_neg (by omega)]; exact hbx, ⟨hR, hc⟩, hB⟩
  case done =>
    rintro D xs W hD rfl ⟨hbx, _, hB⟩ hK
    have e1 := hbx.cell
    clear b0 b3 b4
    gi_wp2
    refine ⟨by simp, .inl ⟨_, _, rfl, run_takeDeferred hK, ?_⟩⟩
    refine ⟨_, results_tmp rfl _ _ _, ?_, ?_⟩
    · rw [hcm2.out, hav.out, hbv.out]; rfl
    · rw [← hs.out]
      exact hB.trans (belowK_b (w := W0) (by omega) W D _ _ hD hK rfl rfl)
  case stop =>
    rintro D c pre W _ _ h _
    exact h.elim
end Go.AE
