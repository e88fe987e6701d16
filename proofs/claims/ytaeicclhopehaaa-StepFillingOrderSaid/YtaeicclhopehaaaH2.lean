/- By hand: the carrier and its two closures. -/
import Derived.Test.YtaeicclhopehaaaH1
namespace Go.AE
open Go.Proofs Go.RowKit
set_option linter.unusedVariables false
set_option linter.unusedSimpArgs false
attribute [local go_sem] Oper.semAt_some

set_option maxRecDepth 100000 in
set_option maxHeartbeats 1000000 in
theorem pairs_in (F : Fence) (n : Nat) (hf : F.fn 145) (hro : F.round = none) (A B : Option Addr) (la lb ca cb : Nat) (w : World) :
    CallsIn F n Try.prog 145 #[.slice A la ca, .slice B lb cb] w fun e w' => e = .returned (.func (.func 155) #[] #[.pointer (some ⟨w.heap.size, 0, none⟩), .pointer (some ⟨w.heap.size + 1, 0, none⟩)]) ∧
      w' = (w.alloc (.cells #[.slice A la ca] 29)).alloc (.cells #[.slice B lb cb] 29) := by
  refine callsIn_of_wp Try.func145 rfl hf ?_ hro
  simp only [Try.ntmps145, List.size_toArray, List.length_cons, List.length_nil, Nat.reduceAdd, Nat.reduceSub, Array.replicate_succ, Array.replicate_zero, List.push_toArray, List.append_toArray, List.nil_append, List.cons_append]
  gi_wp2
  go_ret
  exact ⟨rfl, rfl⟩

set_option maxRecDepth 100000 in
set_option maxHeartbeats 1000000 in
theorem carrier_in (F : Fence) (n : Nat) (hf : F.fn 144) (hro : F.round = none) (w : World) :
    CallsIn F n Try.prog 144 #[] w fun e w' => e = .returned (.tuple #[.func (.func 153) #[] #[.pointer (some ⟨w.heap.size + 1, 0, none⟩), .pointer (some ⟨w.heap.size, 0, none⟩)], .func (.func 154) #[] #[.pointer (some ⟨w.heap.size, 0, none⟩), .pointer (some ⟨w.heap.size + 1, 0, none⟩)]]) ∧
      w' = (w.alloc (.cells #[.slice none 0 0] 29)).alloc (.cells #[.int .u64 0] 136) := by
  refine callsIn_of_wp Try.func144 rfl hf ?_ hro
  simp only [Try.ntmps144, List.size_toArray, List.length_cons, List.length_nil, Nat.reduceAdd, Nat.reduceSub, Array.replicate_succ, Array.replicate_zero, List.push_toArray, List.append_toArray, List.nil_append, List.cons_append]
  gi_wp2
  refine bodyPost_ret (results_tmp2 rfl _ _ _) rfl ?_
  exact ⟨rfl, rfl⟩

theorem info72 : (Try.prog.info? 72).map (fun i => (i.zero, i.size, i.bytes)) = some (some (.int .u32 0), 1, 4) := by kernel_rfl

/-- The carrier's two variables, between two calls. -/
def CS (n₀ bo bc : Nat) (l : List Int) (c : Int) (W : World) : Prop :=
  ∃ v, Boxed W bo 29 v ∧ Boxed W bc 136 (.int .u64 c) ∧ W.ownsRow n₀ 72 1 v l.length (l.map (Value.int .u32))

set_option maxRecDepth 100000 in
set_option maxHeartbeats 1000000 in
theorem put_in (F : Fence) (n : Nat) (hf : F.fn 153) (hro : F.round = none) (n₀ bo bc : Nat) (l : List Int) (c x : Int) (W : World) (hbo : n₀ ≤ bo) (hbc : n₀ ≤ bc) (hne : bo ≠ bc) (hn₀ : n₀ ≤ W.heap.size) (hl : l.length < 2 * 1099511627776)
    (hc0 : 0 ≤ c) (hx0 : 0 ≤ x) (hxc : x + c < 18446744073709551616) (h : CS n₀ bo bc l c W) :
    CallsIn F n Try.prog 153 #[.int .u64 x, .pointer (some ⟨bc, 0, none⟩), .pointer (some ⟨bo, 0, none⟩)] W fun e W' => (∃ v, e = .returned v) ∧ CS n₀ bo bc (l ++ [(x + c) % 4294967296]) ((x + c) / 4294967296) W' ∧ KeepsOthers W W' ∧ Below n₀ W W' ∧ ∀ B t u, B ≠ bo → B ≠ bc → t ≠ 72 → Boxed W B t u → Boxed W' B t u := by
  obtain ⟨i0, hi, hz0, hz1, hz2⟩ := info_parts info72
  obtain ⟨v, hv, hcc, hrow⟩ := h
  refine callsIn_of_wp Try.func153 rfl hf ?_ hro
  simp only [Try.ntmps153, List.size_toArray, List.length_cons, List.length_nil, Nat.reduceAdd, Nat.reduceSub, Array.replicate_succ, Array.replicate_zero, List.push_toArray, List.append_toArray, List.nil_append, List.cons_append]
  have e1 := hv.cell
  have e2 := hcc.cell
  have e3 := hcc.frozen
  have e4 : IntKind.u64.wrap (x + c) = x + c := wrapu64 (by omega) hxc
  have e5 : IntKind.u32.wrap (x + c) = (x + c) % 4294967296 := wrapu32m
  gi_wp2_with (gi_at_builtin; refine wpListIn_append_own _ rfl _ _ 29 rfl n₀ 72 i0 (.int .u32 0) 1 4 Try.underlying29 hi hz0 hz1 hz2 rfl (by decide) _ _ _ rfl (hrow.alloc _) ⟨W.heap.size, 0, none⟩ 1 1 [.int .u32 ((x + c) % 4294967296)] rfl rfl (cell_one_new _ _ _) (by simp [Value.oneCell']) (by simp [maxLen]; omega) (by omega) (by simp; omega) ?_; intro v' w1 hown' hgrow _; obtain ⟨g', cap', rfl⟩ := ownsRow_succ hown'; obtain ⟨hv1, hv2, hr2, hk2, hb2⟩ := hv.appended (by decide) hrow hn₀ hbo hown' hgrow; have hcc1 := (hcc.alloc _).kept hgrow (hcc.not_row (by decide) hrow); have hc1 := hv1.cell; have hf1 := hv1.frozen; have hc2 := hcc1.cell; have hf2 := hcc1.frozen)
  go_end0
  have hcc3 := hcc1.kept (grownBy_setCell' w1 bo (.slice (some ⟨g', 0, none⟩) (l.length + 1) cap')) (by intro e; cases e; exact hne rfl)
  refine ⟨⟨_, rfl⟩, ⟨_, hv2.kept (grownBy_setCell' _ bc _) (by intro e; cases e; exact hne rfl), hcc3.set _, ?_⟩, hk2.trans (KeepsOthers.setCell _ _ _), hb2.setCell (p := ⟨bc, 0, none⟩) hbc _, ?_⟩
  have := hr2.kept (grownBy_setCell' _ bc (.int .u64 ((x + c) / 4294967296))) (.inr (hcc3.not_row (by decide) hr2).symm)
  · simpa using this
  · intro B t u h1 h2 h3 hB
    exact (((hB.alloc _).kept hgrow (hB.not_row h3 hrow)).kept (grownBy_setCell' _ _ _) (by intro e; cases e; exact h1 rfl)).kept (grownBy_setCell' _ _ _) (by intro e; cases e; exact h2 rfl)

set_option maxRecDepth 100000 in
set_option maxHeartbeats 1000000 in
theorem all_in (F : Fence) (n : Nat) (hf : F.fn 154) (hro : F.round = none) (n₀ bo bc : Nat) (l : List Int) (c : Int) (W : World) (hbo : n₀ ≤ bo) (hbc : n₀ ≤ bc) (hn₀ : n₀ ≤ W.heap.size) (hl : l.length < 2 * 1099511627776)
    (hc0 : 0 ≤ c) (hc1 : c < 4294967296) (h : CS n₀ bo bc l c W) :
    CallsIn F n Try.prog 154 #[.pointer (some ⟨bo, 0, none⟩), .pointer (some ⟨bc, 0, none⟩)] W fun e W' => ∃ v, e = .returned v ∧ W'.ownsRow n₀ 72 1 v (l ++ [c]).length ((l ++ [c]).map (Value.int .u32)) ∧ KeepsOthers W W' ∧ Below n₀ W W' := by
  obtain ⟨i0, hi, hz0, hz1, hz2⟩ := info_parts info72
  obtain ⟨v, hv, hcc, hrow⟩ := h
  refine callsIn_of_wp Try.func154 rfl hf ?_ hro
  simp only [Try.ntmps154, List.size_toArray, List.length_cons, List.length_nil, Nat.reduceAdd, Nat.reduceSub, Array.replicate_succ, Array.replicate_zero, List.push_toArray, List.append_toArray, List.nil_append, List.cons_append]
  have e1 := hv.cell
  have e2 := hcc.cell
  have e5 : IntKind.u32.wrap c = c := wrapu32 hc0 hc1
  gi_wp2_with (gi_at_builtin; refine wpListIn_append_own _ rfl _ _ 29 rfl n₀ 72 i0 (.int .u32 0) 1 4 Try.underlying29 hi hz0 hz1 hz2 rfl (by decide) _ _ _ rfl (hrow.alloc _) ⟨W.heap.size, 0, none⟩ 1 1 [.int .u32 c] rfl rfl (cell_one_new _ _ _) (by simp [Value.oneCell']) (by simp [maxLen]; omega) (by omega) (by simp; omega) ?_; intro v' w1 hown' hgrow _; obtain ⟨g', cap', rfl⟩ := ownsRow_succ hown')
  refine bodyPost_ret (results_tmp rfl _ _ _) rfl ?_
  refine ⟨_, rfl, by simpa using hown', ?_, ?_⟩
  · refine (KeepsOthers.alloc W _).trans (KeepsOthers.of_grownBy hgrow fun j o ej hj => ?_)
    rcases (hrow.alloc (.cells #[.int .u32 c] 72)).2 with ⟨rfl, _⟩ | ⟨g, cap, cur, rfl, _, hgb, _⟩
    · simp [go_sem, Value.ownBlock] at ej
    · obtain rfl : g = j := by simpa [go_sem, Value.ownBlock] using ej
      rw [hgb] at hj; cases hj; rfl
  · refine ((Below.refl n₀ W).alloc hn₀ _).grown hgrow (by simp; omega) fun j ej => ?_
    rcases hrow.2 with ⟨rfl, _⟩ | ⟨g, cap, cur, rfl, hb, _, _⟩
    · simp [go_sem, Value.ownBlock] at ej
    · obtain rfl : g = j := by simpa [go_sem, Value.ownBlock] using ej
      exact hb
end Go.AE
