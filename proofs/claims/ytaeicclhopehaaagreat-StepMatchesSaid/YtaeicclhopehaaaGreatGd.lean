/- By hand: the iterator over two lists of words. By hand: the carrier and its two closures. By hand: add, sub and cmp of words. By hand: add, sub and cmp of words, walked. By hand: add, sub and cmp of words, walked. By hand: cmp of words, walked. add, sub and cmp of words: their contracts. By hand: slices.Clone. By hand: step.rising, step.falling. -/
import Derived.RangeFuncBox
import Derived.RangeFuncLeaves
import Derived.WalkKit
import Derived.OwnWalkIn
import Derived.TacticsInMore
import Derived.LoopNIn
import Derived.LoopIn
import Derived.Maps.AppendAt
import Derived.Laws.EntriesVeiled
import Derived.Laws.AppendOwn
import Derived.Test.YtaeicclhopehaaaGreatGc
import Derived.Shelf.Abstract
import Derived.RangeFuncCalls
import Derived.Laws.Cover3
namespace Go.AE
open Go.Proofs Go.RowKit
set_option linter.unusedVariables false
set_option linter.unusedSimpArgs false
attribute [local go_sem] Oper.semAt_some

abbrev encP (a b : List Int) (k : Nat) : Array Value := #[.int .u64 (a.getD k 0), .int .u64 (b.getD k 0)]

theorem RL_cell {F : Fz} {a : List Int} {A : Option Addr} {n c : Nat} (h : RL F 1 Ru32 a (.slice A n c)) {W : World} (hF : ∀ b o, F b = some o → W.heap[b]? = some o) :
    n = a.length ∧ n ≤ c ∧ (a ≠ [] → ∃ b off, A = some ⟨b, off, none⟩ ∧ ∀ i, i < a.length → W.cell? ⟨b, off + i, none⟩ = some (.int .u32 (a.getD i 0))) := by
  obtain ⟨A', c', h1, h2, h3⟩ := h
  cases h1
  refine ⟨rfl, h2, fun hne => ?_⟩
  obtain ⟨b, off, C, T, fr, rfl, h5, h6⟩ := h3 hne
  refine ⟨b, off, rfl, fun i hi => ?_⟩
  obtain ⟨cs, h7, ⟨rfl, h9⟩, h10⟩ := h6 i hi
  have := h10 0 (by decide)
  simp only [Nat.mul_one, Nat.add_zero] at this
  simp only [World.cell?, hF b _ h5, this]
  simp [List.getD_eq_getElem?_getD, List.getElem?_eq_getElem hi]

/-- What the iterator reads. -/
structure RD (F : Fz) (ba bb : Nat) (va vb : Value) (W : World) : Prop where
  a : Boxed W ba 23 va
  b : Boxed W bb 23 vb
  f : ∀ x o, F x = some o → W.heap[x]? = some o
/-- What a round must keep. -/
def KP (F : Fz) (ba bb : Nat) (va vb : Value) (W W' : World) : Prop := RD F ba bb va vb W → RD F ba bb va vb W'
theorem KP.t {F : Fz} {ba bb : Nat} {va vb : Value} {A B C : World} (h : KP F ba bb va vb A B) (k : KP F ba bb va vb B C) : KP F ba bb va vb A C := fun x => k (h x)
theorem RD.kept {F : Fz} {ba bb : Nat} {va vb : Value} {W W' : World} {row : Option Nat} (h : RD F ba bb va vb W) (hg : W.grownBy W' row) (h1 : some ba ≠ row) (h2 : some bb ≠ row) (h3 : ∀ x o, F x = some o → some x ≠ row) : RD F ba bb va vb W' :=
  ⟨h.a.kept hg h1, h.b.kept hg h2, fun x o e => (hg.block x (Array.getElem?_eq_some_iff.1 (h.f x o e)).1 (h3 x o e)).trans (h.f x o e)⟩
theorem RD.below {F : Fz} {ba bb : Nat} {va vb : Value} {n₀ : Nat} {W W' : World} (h : RD F ba bb va vb W) (hB : Below n₀ W W') (ha : ba < n₀) (hb : bb < n₀) (hF : ∀ x o, F x = some o → x < n₀) : RD F ba bb va vb W' :=
  ⟨(hB.block ba ha).trans h.a, (hB.block bb hb).trans h.b, fun x o e => (hB.block x (hF x o e)).trans (h.f x o e)⟩

set_option maxRecDepth 100000 in
set_option maxHeartbeats 2000000 in
theorem pairs1_in (F : Fence) (n : Nat) (hf : F.fn 160) (hro : F.round = none) (hn : 1 ≤ n) (l ba bb : Nat) (a b : List Int) (Z : Fz) (va vb : Value) (hRa : RL Z 1 Ru32 a va) (hRb : RL Z 1 Ru32 b vb) (hla : a.length ≤ 1099511627776) (hlb : b.length ≤ 1099511627776)
    (J Jx : List Nat → World → Prop)
    (hY : ∀ pre x W, J pre W → pre.length < max a.length b.length → YieldAt F (n - 1) Tryz.prog l (encP a b x) W fun e W' =>
      (e = .returned (.bool true) ∧ J (pre ++ [x]) W' ∧ KP Z ba bb va vb W W') ∨ (e = .returned (.bool false) ∧ Jx (pre ++ [x]) W'))
    (W : World) (hW : RD Z ba bb va vb W) (h0 : J [] W) :
    CallsIn F n Tryz.prog 160 #[.func (.yield l) #[] #[], .pointer (some ⟨ba, 0, none⟩), .pointer (some ⟨bb, 0, none⟩)] W fun e W' => (∃ v, e = .returned v) ∧
      ((∃ ys, ys = List.range (max a.length b.length) ∧ J ys W') ∨ (∃ pre, True ∧ Jx pre W')) := by
  have oka := okW_of_RL hRa
  have okb := okW_of_RL hRb
  obtain ⟨A, ca, rfl, hca, hA⟩ := id hRa
  obtain ⟨B, cb, rfl, hcb, hB⟩ := id hRb
  refine callsIn_of_wp Tryz.func160 rfl hf ?_ hro
  simp only [Tryz.ntmps160, List.size_toArray, List.length_cons, List.length_nil, Nat.reduceAdd, Nat.reduceSub, Array.replicate_succ, Array.replicate_zero, List.push_toArray, List.append_toArray, List.nil_append, List.cons_append]
  have e1 := hW.a.cell
  have e2 := hW.b.cell
  obtain ⟨M, hM⟩ : ∃ M, M = max a.length b.length := ⟨_, rfl⟩
  rw [← hM] at hY ⊢
  gi_wp2
  all_goals
    gi_loopw [12] (fun p wr => ∃ i : Nat, p = .int .i64 (i : Int) ∧ i ≤ M ∧ RD Z ba bb (.slice A a.length ca) (.slice B b.length cb) wr ∧ J (List.range i) wr)
      (fun p wr => M - (intOf p).toNat)
    case atStart => exact ⟨0, rfl, Nat.zero_le _, hW, h0⟩
    case round =>
      obtain ⟨i, rfl, hi, hR, hJ⟩ := hrel
      have e3 := hR.a.cell
      have e4 := hR.b.cell
      have hx := okW_getD oka i
      have hy := okW_getD okb i
      have hwx : IntKind.u64.wrap (a.getD i 0) = a.getD i 0 := wrapu64 (by omega) (by omega)
      have hwy : IntKind.u64.wrap (b.getD i 0) = b.getD i 0 := wrapu64 (by omega) (by omega)
      have HS : Hid (List.range (i + 1) = List.range i ++ [i]) := List.range_succ
      generalize hxa : a.getD i 0 = xa at *
      generalize hyb : b.getD i 0 = yb at *
      by_cases hiM : i < M
      · obtain ⟨fn, tmps, assign, body, hyl, hRd⟩ := hY _ i wr hJ (by rw [List.length_range]; omega)
        simp only [encP, hxa, hyb] at hyl
        by_cases hia : i < a.length <;> by_cases hib : i < b.length
        · first | (exfalso; clear hY; omega) | (
          obtain ⟨b1, o1, rfl, hA1⟩ := (RL_cell hRa hR.f).2.2 (by rintro rfl; simp at hia)
          have hA2 := hA1 i hia
          rw [hxa] at hA2
          have g1 : (i : Int) < a.length := by omega
          obtain ⟨b2, o2, rfl, hB1⟩ := (RL_cell hRb hR.f).2.2 (by rintro rfl; simp at hib)
          have hB2 := hB1 i hib
          rw [hyb] at hB2
          have g2 : (i : Int) < b.length := by omega
          have g3 : ¬ (i : Int) < 0 := by omega
          clear hM hx hy hxa hyb hY hia hib hA hB hA1 hB1
          gi_wp2
          refine hRd.mono ?_
          rintro e W3 (⟨rfl, hJ3, hk3⟩ | ⟨rfl, hJx3⟩)
          · have hR3 := hk3 hR
            gi_wp2
            go_roundw
            case rel => exact ⟨i + 1, rfl, hiM, hR3, by rw [HS.out]; exact hJ3⟩
            case measure => simp only [intOf]; simp; omega
          · gi_wp2
            refine bodyPost_ret (results_none rfl _ _ _) rfl ?_
            exact ⟨⟨_, rfl⟩, .inr ⟨_, trivial, hJx3⟩⟩
          )
        · first | (exfalso; clear hY; omega) | (
          obtain ⟨b1, o1, rfl, hA1⟩ := (RL_cell hRa hR.f).2.2 (by rintro rfl; simp at hia)
          have hA2 := hA1 i hia
          rw [hxa] at hA2
          have g1 : (i : Int) < a.length := by omega
          obtain rfl : yb = 0 := by rw [← hyb]; simp [List.getD_eq_getElem?_getD, List.getElem?_eq_none (Nat.le_of_not_lt hib)]
          have g2 : ¬ (i : Int) < b.length := by omega
          have g3 : ¬ (i : Int) < 0 := by omega
          clear hM hx hy hxa hyb hY hia hib hA hB hA1
          gi_wp2
          refine hRd.mono ?_
          rintro e W3 (⟨rfl, hJ3, hk3⟩ | ⟨rfl, hJx3⟩)
          · have hR3 := hk3 hR
            gi_wp2
            go_roundw
            case rel => exact ⟨i + 1, rfl, hiM, hR3, by rw [HS.out]; exact hJ3⟩
            case measure => simp only [intOf]; simp; omega
          · gi_wp2
            refine bodyPost_ret (results_none rfl _ _ _) rfl ?_
            exact ⟨⟨_, rfl⟩, .inr ⟨_, trivial, hJx3⟩⟩
          )
        · first | (exfalso; clear hY; omega) | (
          obtain rfl : xa = 0 := by rw [← hxa]; simp [List.getD_eq_getElem?_getD, List.getElem?_eq_none (Nat.le_of_not_lt hia)]
          have g1 : ¬ (i : Int) < a.length := by omega
          obtain ⟨b2, o2, rfl, hB1⟩ := (RL_cell hRb hR.f).2.2 (by rintro rfl; simp at hib)
          have hB2 := hB1 i hib
          rw [hyb] at hB2
          have g2 : (i : Int) < b.length := by omega
          have g3 : ¬ (i : Int) < 0 := by omega
          clear hM hx hy hxa hyb hY hia hib hA hB hB1
          gi_wp2
          refine hRd.mono ?_
          rintro e W3 (⟨rfl, hJ3, hk3⟩ | ⟨rfl, hJx3⟩)
          · have hR3 := hk3 hR
            gi_wp2
            go_roundw
            case rel => exact ⟨i + 1, rfl, hiM, hR3, by rw [HS.out]; exact hJ3⟩
            case measure => simp only [intOf]; simp; omega
          · gi_wp2
            refine bodyPost_ret (results_none rfl _ _ _) rfl ?_
            exact ⟨⟨_, rfl⟩, .inr ⟨_, trivial, hJx3⟩⟩
          )
        · first | (exfalso; clear hY; omega) | (
          obtain rfl : xa = 0 := by rw [← hxa]; simp [List.getD_eq_getElem?_getD, List.getElem?_eq_none (Nat.le_of_not_lt hia)]
          have g1 : ¬ (i : Int) < a.length := by omega
          obtain rfl : yb = 0 := by rw [← hyb]; simp [List.getD_eq_getElem?_getD, List.getElem?_eq_none (Nat.le_of_not_lt hib)]
          have g2 : ¬ (i : Int) < b.length := by omega
          have g3 : ¬ (i : Int) < 0 := by omega
          clear hM hx hy hxa hyb hY hia hib hA hB
          gi_wp2
          refine hRd.mono ?_
          rintro e W3 (⟨rfl, hJ3, hk3⟩ | ⟨rfl, hJx3⟩)
          · have hR3 := hk3 hR
            gi_wp2
            go_roundw
            case rel => exact ⟨i + 1, rfl, hiM, hR3, by rw [HS.out]; exact hJ3⟩
            case measure => simp only [intOf]; simp; omega
          · gi_wp2
            refine bodyPost_ret (results_none rfl _ _ _) rfl ?_
            exact ⟨⟨_, rfl⟩, .inr ⟨_, trivial, hJx3⟩⟩
          )
      · have e5 : i = M := by omega
        have g1 : ¬ (i : Int) < b.length ∧ ¬ (i : Int) < a.length := by omega
        have HT : Hid (List.range i = List.range M) := by rw [e5]; rfl
        have g2 := g1.1
        have g4 := g1.2
        clear hM hx hy hxa hyb hY hA hB e5 g1
        gi_wp2
        go_end0
        exact ⟨⟨_, rfl⟩, .inl (HT.out ▸ hJ)⟩
end Go.AE

/- By hand: the carrier and its two closures. -/
namespace Go.AE
open Go.Proofs Go.RowKit
set_option linter.unusedVariables false
set_option linter.unusedSimpArgs false
attribute [local go_sem] Oper.semAt_some

set_option maxRecDepth 100000 in
set_option maxHeartbeats 1000000 in
theorem pairs_in (F : Fence) (n : Nat) (hf : F.fn 156) (hro : F.round = none) (A B : Option Addr) (la lb ca cb : Nat) (w : World) :
    CallsIn F n Tryz.prog 156 #[.slice A la ca, .slice B lb cb] w fun e w' => e = .returned (.func (.func 160) #[] #[.pointer (some ⟨w.heap.size, 0, none⟩), .pointer (some ⟨w.heap.size + 1, 0, none⟩)]) ∧
      w' = (w.alloc (.cells #[.slice A la ca] 23)).alloc (.cells #[.slice B lb cb] 23) := by
  refine callsIn_of_wp Tryz.func156 rfl hf ?_ hro
  simp only [Tryz.ntmps156, List.size_toArray, List.length_cons, List.length_nil, Nat.reduceAdd, Nat.reduceSub, Array.replicate_succ, Array.replicate_zero, List.push_toArray, List.append_toArray, List.nil_append, List.cons_append]
  gi_wp2
  go_ret
  exact ⟨rfl, rfl⟩

set_option maxRecDepth 100000 in
set_option maxHeartbeats 1000000 in
theorem carrier_in (F : Fence) (n : Nat) (hf : F.fn 155) (hro : F.round = none) (w : World) :
    CallsIn F n Tryz.prog 155 #[] w fun e w' => e = .returned (.tuple #[.func (.func 158) #[] #[.pointer (some ⟨w.heap.size + 1, 0, none⟩), .pointer (some ⟨w.heap.size, 0, none⟩)], .func (.func 159) #[] #[.pointer (some ⟨w.heap.size, 0, none⟩), .pointer (some ⟨w.heap.size + 1, 0, none⟩)]]) ∧
      w' = (w.alloc (.cells #[.slice none 0 0] 23)).alloc (.cells #[.int .u64 0] 118) := by
  refine callsIn_of_wp Tryz.func155 rfl hf ?_ hro
  simp only [Tryz.ntmps155, List.size_toArray, List.length_cons, List.length_nil, Nat.reduceAdd, Nat.reduceSub, Array.replicate_succ, Array.replicate_zero, List.push_toArray, List.append_toArray, List.nil_append, List.cons_append]
  gi_wp2
  refine bodyPost_ret (results_tmp2 rfl _ _ _) rfl ?_
  exact ⟨rfl, rfl⟩

theorem info72 : (Tryz.prog.info? 59).map (fun i => (i.zero, i.size, i.bytes)) = some (some (.int .u32 0), 1, 4) := by kernel_rfl

/-- The carrier's two variables, between two calls. -/
def CS (n₀ bo bc : Nat) (l : List Int) (c : Int) (W : World) : Prop :=
  ∃ v, Boxed W bo 23 v ∧ Boxed W bc 118 (.int .u64 c) ∧ W.ownsRow n₀ 59 1 v l.length (l.map (Value.int .u32))

set_option maxRecDepth 100000 in
set_option maxHeartbeats 1000000 in
theorem put_in (F : Fence) (n : Nat) (hf : F.fn 158) (hro : F.round = none) (n₀ bo bc : Nat) (l : List Int) (c x : Int) (W : World) (hbo : n₀ ≤ bo) (hbc : n₀ ≤ bc) (hne : bo ≠ bc) (hn₀ : n₀ ≤ W.heap.size) (hl : l.length < 2 * 1099511627776)
    (hc0 : 0 ≤ c) (hx0 : 0 ≤ x) (hxc : x + c < 18446744073709551616) (h : CS n₀ bo bc l c W) :
    CallsIn F n Tryz.prog 158 #[.int .u64 x, .pointer (some ⟨bc, 0, none⟩), .pointer (some ⟨bo, 0, none⟩)] W fun e W' => (∃ v, e = .returned v) ∧ CS n₀ bo bc (l ++ [(x + c) % 4294967296]) ((x + c) / 4294967296) W' ∧ KeepsOthers W W' ∧ Below n₀ W W' ∧ ∀ B t u, B ≠ bo → B ≠ bc → t ≠ 59 → Boxed W B t u → Boxed W' B t u := by
  obtain ⟨i0, hi, hz0, hz1, hz2⟩ := info_parts info72
  obtain ⟨v, hv, hcc, hrow⟩ := h
  refine callsIn_of_wp Tryz.func158 rfl hf ?_ hro
  simp only [Tryz.ntmps158, List.size_toArray, List.length_cons, List.length_nil, Nat.reduceAdd, Nat.reduceSub, Array.replicate_succ, Array.replicate_zero, List.push_toArray, List.append_toArray, List.nil_append, List.cons_append]
  have e1 := hv.cell
  have e2 := hcc.cell
  have e3 := hcc.frozen
  have e4 : IntKind.u64.wrap (x + c) = x + c := wrapu64 (by omega) hxc
  have e5 : IntKind.u32.wrap (x + c) = (x + c) % 4294967296 := wrapu32m
  gi_wp2_with (gi_at_builtin; refine wpListIn_append_own _ rfl _ _ 23 rfl n₀ 59 i0 (.int .u32 0) 1 4 Tryz.underlying23 hi hz0 hz1 hz2 rfl (by decide) _ _ _ rfl (hrow.alloc _) ⟨W.heap.size, 0, none⟩ 1 1 [.int .u32 ((x + c) % 4294967296)] rfl rfl (cell_one_new _ _ _) (by simp [Value.oneCell']) (by simp [maxLen]; omega) (by omega) (by simp; omega) ?_; intro v' w1 hown' hgrow _; obtain ⟨g', cap', rfl⟩ := ownsRow_succ hown'; obtain ⟨hv1, hv2, hr2, hk2, hb2⟩ := hv.appended (by decide) hrow hn₀ hbo hown' hgrow; have hcc1 := (hcc.alloc _).kept hgrow (hcc.not_row (by decide) hrow); have hc1 := hv1.cell; have hf1 := hv1.frozen; have hc2 := hcc1.cell; have hf2 := hcc1.frozen)
  go_end0
  have hcc3 := hcc1.kept (grownBy_setCell' w1 bo (.slice (some ⟨g', 0, none⟩) (l.length + 1) cap')) (by intro e; cases e; exact hne rfl)
  refine ⟨⟨_, rfl⟩, ⟨_, hv2.kept (grownBy_setCell' _ bc _) (by intro e; cases e; exact hne rfl), hcc3.set _, ?_⟩, hk2.trans (KeepsOthers.setCell _ _ _), hb2.setCell (p := ⟨bc, 0, none⟩) hbc _, ?_⟩
  have := hr2.kept (grownBy_setCell' _ bc (.int .u64 ((x + c) / 4294967296))) (.inr (hcc3.not_row (by decide) hr2).symm)
  · simpa using this
  · intro B t u h1 h2 h3 hB
    exact (((hB.alloc _).kept hgrow (hB.not_row h3 hrow)).kept (grownBy_setCell' _ _ _) (by intro e; cases e; exact h1 rfl)).kept (grownBy_setCell' _ _ _) (by intro e; cases e; exact h2 rfl)

set_option maxRecDepth 100000 in
set_option maxHeartbeats 1000000 in
theorem all_in (F : Fence) (n : Nat) (hf : F.fn 159) (hro : F.round = none) (n₀ bo bc : Nat) (l : List Int) (c : Int) (W : World) (hbo : n₀ ≤ bo) (hbc : n₀ ≤ bc) (hn₀ : n₀ ≤ W.heap.size) (hl : l.length < 2 * 1099511627776)
    (hc0 : 0 ≤ c) (hc1 : c < 4294967296) (h : CS n₀ bo bc l c W) :
    CallsIn F n Tryz.prog 159 #[.pointer (some ⟨bo, 0, none⟩), .pointer (some ⟨bc, 0, none⟩)] W fun e W' => ∃ v, e = .returned v ∧ W'.ownsRow n₀ 59 1 v (l ++ [c]).length ((l ++ [c]).map (Value.int .u32)) ∧ KeepsOthers W W' ∧ Below n₀ W W' := by
  obtain ⟨i0, hi, hz0, hz1, hz2⟩ := info_parts info72
  obtain ⟨v, hv, hcc, hrow⟩ := h
  refine callsIn_of_wp Tryz.func159 rfl hf ?_ hro
  simp only [Tryz.ntmps159, List.size_toArray, List.length_cons, List.length_nil, Nat.reduceAdd, Nat.reduceSub, Array.replicate_succ, Array.replicate_zero, List.push_toArray, List.append_toArray, List.nil_append, List.cons_append]
  have e1 := hv.cell
  have e2 := hcc.cell
  have e5 : IntKind.u32.wrap c = c := wrapu32 hc0 hc1
  gi_wp2_with (gi_at_builtin; refine wpListIn_append_own _ rfl _ _ 23 rfl n₀ 59 i0 (.int .u32 0) 1 4 Tryz.underlying23 hi hz0 hz1 hz2 rfl (by decide) _ _ _ rfl (hrow.alloc _) ⟨W.heap.size, 0, none⟩ 1 1 [.int .u32 c] rfl rfl (cell_one_new _ _ _) (by simp [Value.oneCell']) (by simp [maxLen]; omega) (by omega) (by simp; omega) ?_; intro v' w1 hown' hgrow _; obtain ⟨g', cap', rfl⟩ := ownsRow_succ hown')
  refine bodyPost_ret (results_tmp rfl _ _ _) rfl ?_
  refine ⟨_, rfl, by simpa using hown', ?_, ?_⟩
  · refine (KeepsOthers.alloc W _).trans (KeepsOthers.of_grownBy hgrow fun j o ej hj => ?_)
    rcases (hrow.alloc (.cells #[.int .u32 c] 59)).2 with ⟨rfl, _⟩ | ⟨g, cap, cur, rfl, _, hgb, _⟩
    · simp [go_sem, Value.ownBlock] at ej
    · obtain rfl : g = j := by simpa [go_sem, Value.ownBlock] using ej
      rw [hgb] at hj; cases hj; rfl
  · refine ((Below.refl n₀ W).alloc hn₀ _).grown hgrow (by simp; omega) fun j ej => ?_
    rcases hrow.2 with ⟨rfl, _⟩ | ⟨g, cap, cur, rfl, hb, _, _⟩
    · simp [go_sem, Value.ownBlock] at ej
    · obtain rfl : g = j := by simpa [go_sem, Value.ownBlock] using ej
      exact hb
end Go.AE

/- By hand: add, sub and cmp of words. -/
namespace Go.AE
open Go.Proofs Go.RowKit
set_option linter.unusedVariables false
set_option linter.unusedSimpArgs false
attribute [local go_sem] Oper.semAt_some

/-- What the carrier holds when the values f k have been put. -/
def cr (f : Nat → Int) : List Int × Int → List Nat → List Int × Int
  | s, [] => s
  | s, k :: r => cr f (s.1 ++ [(f k + s.2) % 4294967296], (f k + s.2) / 4294967296) r
theorem cr_snoc (f : Nat → Int) (s : List Int × Int) (pre : List Nat) (k : Nat) : cr f s (pre ++ [k]) = ((cr f s pre).1 ++ [(f k + (cr f s pre).2) % 4294967296], (f k + (cr f s pre).2) / 4294967296) := by
  induction pre generalizing s with
  | nil => rfl
  | cons p r ih => exact ih _
theorem cr_length (f : Nat → Int) (s : List Int × Int) (pre : List Nat) : (cr f s pre).1.length = s.1.length + pre.length := by
  induction pre generalizing s with
  | nil => rfl
  | cons p r ih => simp only [cr, ih, List.length_append, List.length_cons, List.length_nil]; omega
theorem cr_carry {f : Nat → Int} (hf : ∀ k, 0 ≤ f k ∧ f k ≤ 8589934590) {s : List Int × Int} (hs : 0 ≤ s.2 ∧ s.2 ≤ 1) (pre : List Nat) : 0 ≤ (cr f s pre).2 ∧ (cr f s pre).2 ≤ 1 := by
  induction pre generalizing s with
  | nil => exact hs
  | cons p r ih => have := hf p; exact ih (by simp only; omega)
theorem cr_okW {f : Nat → Int} {s : List Int × Int} (hs : okW s.1) (pre : List Nat) : okW (cr f s pre).1 := by
  induction pre generalizing s with
  | nil => exact hs
  | cons p r ih => exact ih (okW_append hs (by intro x hx; simp at hx; omega))
/-- The sum that was put. -/
def fs (f : Nat → Int) : List Nat → Int
  | [] => 0
  | k :: r => f k + 4294967296 * fs f r
theorem cr_value (f : Nat → Int) (s : List Int × Int) (pre : List Nat) : wv (cr f s pre).1 + 4294967296 ^ (s.1.length + pre.length) * (cr f s pre).2 = wv s.1 + 4294967296 ^ s.1.length * (s.2 + fs f pre) := by
  induction pre generalizing s with
  | nil => simp [cr, fs]
  | cons p r ih =>
    have h := ih (s.1 ++ [(f p + s.2) % 4294967296], (f p + s.2) / 4294967296)
    simp only [cr, fs, List.length_append, List.length_cons, List.length_nil] at h ⊢
    rw [show s.1.length + (r.length + 1) = s.1.length + (0 + 1) + r.length by omega, h, wv_append]
    simp only [wv, Nat.zero_add, Int.pow_succ]
    have := Int.mul_ediv_add_emod (f p + s.2) 4294967296
    generalize (f p + s.2) / 4294967296 = q at *
    generalize (f p + s.2) % 4294967296 = t at *
    grind

theorem boxed_own {β : Type} (B : Nat) (t : TypeId) (v : β → Value) : Own (fun s W => Boxed W B t (v s)) := by
  intro s X Y row h hg hr
  refine h.kept hg (fun e => ?_)
  obtain ⟨o, ho, hc⟩ := hr B e.symm
  rw [show X.heap[B]? = _ from h] at ho; cases ho; cases hc
theorem CS_own (n₀ bo bc : Nat) (f : Nat → Int) (s : List Int × Int) : Own (fun pre W => CS n₀ bo bc (cr f s pre).1 (cr f s pre).2 W) := by
  intro pre X Y row h hg hr
  obtain ⟨v, h1, h2, h3⟩ := h
  obtain ⟨v', h1', h3', e⟩ := holdsRow_own n₀ bo 23 59 1 (fun pre => (cr f s pre).1.length) (fun pre => (cr f s pre).1.map (Value.int .u32)) (fun _ u => u = v) pre X Y row ⟨v, h1, h3, rfl⟩ hg hr
  subst e
  exact ⟨v', h1', boxed_own (β := Unit) bc 118 (fun _ => .int .u64 (cr f s pre).2) () X Y row h2 hg hr, h3'⟩
theorem RD_own (F : Fz) (ba bb : Nat) (va vb : Value) : Own (fun (_ : List Nat) W => RD F ba bb va vb W ∧ ∀ x o, F x = some o → o.isCells = true) := by
  intro s X Y row h hg hr
  refine ⟨⟨boxed_own (β := Unit) ba 23 (fun _ => va) () X Y row h.1.a hg hr, boxed_own (β := Unit) bb 23 (fun _ => vb) () X Y row h.1.b hg hr, fun x o e => ?_⟩, h.2⟩
  exact (grownBy_keeps_cells hg hr (h.1.f x o e) (h.2 x o e)).trans (h.1.f x o e)
end Go.AE

/- By hand: add, sub and cmp of words, walked. -/
namespace Go.AE
open Go.Proofs Go.RowKit Go.Shelf
set_option linter.unusedVariables false
set_option linter.unusedSimpArgs false
attribute [local go_sem] Oper.semAt_some

theorem pairs_stops (F : Fence) (n : Nat) (hf : F.fn 160) (hro : F.round = none) (hn : 1 ≤ n) (ba bb : Nat) (a b : List Int) (Z : Fz) (va vb : Value) (hRa : RL Z 1 Ru32 a va) (hRb : RL Z 1 Ru32 b vb) (hla : a.length ≤ 1099511627776) (hlb : b.length ≤ 1099511627776)
    (av bv : Nat → Int) (hav : av = fun k => a.getD k 0) (hbv : bv = fun k => b.getD k 0) (w : World) (hw : RD Z ba bb va vb w) (h1 : ba < w.heap.size) (h2 : bb < w.heap.size) (h3 : ∀ x o, Z x = some o → x < w.heap.size) :
    SeqStopsK F n Tryz.prog 160 #[.pointer (some ⟨ba, 0, none⟩), .pointer (some ⟨bb, 0, none⟩)] (fun k => #[.int .u64 (av k), .int .u64 (bv k)]) (KP Z ba bb va vb) (fun xs => xs = List.range (max a.length b.length)) (fun _ => True) (max a.length b.length) w :=
  by subst hav hbv; exact fun l J Jx W hW _ _ hY h0 => pairs1_in F n hf hro hn l ba bb a b Z va vb hRa hRb hla hlb J Jx hY W (hw.below hW h1 h2 h3) h0

theorem ownFrom_of {β : Type} {I : β → World → Prop} (h : Own I) (B : Nat) : OwnFrom B I := Own.from h B

set_option maxRecDepth 100000 in
set_option maxHeartbeats 2000000 in
theorem add_in (F : Fence) (n : Nat) (hall : ∀ k, F.fn k) (hro : F.round = none) (hn : 5 ≤ n) (a b : List Int) (Z : Fz) (A B : Option Addr) (ca cb : Nat) (hRa : RL Z 1 Ru32 a (.slice A a.length ca)) (hRb : RL Z 1 Ru32 b (.slice B b.length cb)) (hla : a.length ≤ 1099511627776) (hlb : b.length ≤ 1099511627776)
    (w : World) (hZ : ∀ x o, Z x = some o → w.heap[x]? = some o) (hZc : ∀ x o, Z x = some o → o.isCells = true) :
    CallsIn F n Tryz.prog 151 #[.slice A a.length ca, .slice B b.length cb] w fun e W' => ∃ v, e = .returned v ∧ ∃ l, l = cr (fun k => a.getD k 0 + b.getD k 0) ([], 0) (List.range (max a.length b.length)) ∧
      W'.ownsRow w.heap.size 59 1 v (l.1 ++ [l.2]).length ((l.1 ++ [l.2]).map (Value.int .u32)) ∧ Below w.heap.size w W' := by
  have h1 : 1 ≤ n := by omega
  refine callsIn_of_wp_marks Tryz.func151 rfl (hall _) ?_ hro
  simp only [Tryz.ntmps151, List.size_toArray, List.length_cons, List.length_nil, Nat.reduceAdd, Nat.reduceSub, Array.replicate_succ, Array.replicate_zero, List.push_toArray, List.append_toArray, List.nil_append, List.cons_append]
  gi_wp2_with (first | (gi_at_call 155; refine (carrier_in F (n - 1) (hall _) hro _).mono ?_; rintro e w' ⟨rfl, rfl⟩) | (gi_at_call 156; refine (pairs_in F (n - 1) (hall _) hro _ _ _ _ _ _ _).mono ?_; rintro e w' ⟨rfl, rfl⟩))
  obtain ⟨av, hav⟩ : ∃ f : Nat → Int, Hid (f = fun k => a.getD k 0) := ⟨_, rfl⟩
  obtain ⟨bv, hbv⟩ : ∃ f : Nat → Int, Hid (f = fun k => b.getD k 0) := ⟨_, rfl⟩
  have hax : ∀ k, 0 ≤ av k ∧ av k < 4294967296 := by intro k; rw [hav.out]; exact okW_getD (okW_of_RL hRa) k
  have hbx : ∀ k, 0 ≤ bv k ∧ bv k < 4294967296 := by intro k; rw [hbv.out]; exact okW_getD (okW_of_RL hRb) k
  obtain ⟨f, hfd⟩ : ∃ f : Nat → Int, Hid (f = fun k => av k + bv k) := ⟨_, rfl⟩
  have hfb : ∀ k, 0 ≤ f k ∧ f k ≤ 8589934590 := by
    intro k; have := hax k; have := hbx k; rw [hfd.out]; simp only; omega
  obtain ⟨s, hs'⟩ : ∃ s, s = w.heap.size := ⟨_, rfl⟩
  have hs : Hid (s = w.heap.size) := hs'
  simp only [← hs']
  clear hs'
  obtain ⟨W0, hW0⟩ : ∃ W0, W0 = (((((w.alloc (.cells #[.slice none 0 0] 23)).alloc (.cells #[.int .u64 0] 118)).alloc (.cells #[(.func (.func 158) #[] #[.pointer (some ⟨s + 1, 0, none⟩), .pointer (some ⟨s, 0, none⟩)])] 148)).alloc (.cells #[.slice A a.length ca] 23)).alloc (.cells #[.slice B b.length cb] 23)) := ⟨_, rfl⟩
  have hWs : W0.heap.size = s + 5 := by rw [hW0]; simp [← hs.out]
  have hWB : Below s w W0 := by rw [hW0, hs.out]; exact (((((Below.refl _ w).alloc (Nat.le_refl _) _).alloc (by simp) _).alloc (by simp; omega) _).alloc (by simp; omega) _).alloc (by simp; omega) _
  have b0 : Boxed W0 s 23 (.slice none 0 0) := by rw [hW0, hs.out]; exact ((((Boxed.new w 23 _).alloc _).alloc _).alloc _).alloc _
  have b1 : Boxed W0 (s + 1) 118 (.int .u64 0) := by
    have := (((Boxed.new (w.alloc (.cells #[.slice none 0 0] 23)) 118 (.int .u64 0)).alloc (.cells #[(.func (.func 158) #[] #[.pointer (some ⟨s + 1, 0, none⟩), .pointer (some ⟨s, 0, none⟩)])] 148)).alloc (.cells #[.slice A a.length ca] 23)).alloc (.cells #[.slice B b.length cb] 23)
    rw [World.size_alloc, ← hs.out] at this; rw [hW0]; exact this
  have b2 : Boxed W0 (s + 2) 148 (.func (.func 158) #[] #[.pointer (some ⟨s + 1, 0, none⟩), .pointer (some ⟨s, 0, none⟩)]) := by
    have := ((Boxed.new ((w.alloc (.cells #[.slice none 0 0] 23)).alloc (.cells #[.int .u64 0] 118)) 148 (.func (.func 158) #[] #[.pointer (some ⟨s + 1, 0, none⟩), .pointer (some ⟨s, 0, none⟩)])).alloc (.cells #[.slice A a.length ca] 23)).alloc (.cells #[.slice B b.length cb] 23)
    rw [World.size_alloc, World.size_alloc, ← hs.out] at this; rw [hW0]; exact this
  have b3 : Boxed W0 (s + 3) 23 (.slice A a.length ca) := by
    have := (Boxed.new (((w.alloc (.cells #[.slice none 0 0] 23)).alloc (.cells #[.int .u64 0] 118)).alloc (.cells #[(.func (.func 158) #[] #[.pointer (some ⟨s + 1, 0, none⟩), .pointer (some ⟨s, 0, none⟩)])] 148)) 23 (.slice A a.length ca)).alloc (.cells #[.slice B b.length cb] 23)
    rw [World.size_alloc, World.size_alloc, World.size_alloc, ← hs.out] at this; rw [hW0]; exact this
  have b4 : Boxed W0 (s + 4) 23 (.slice B b.length cb) := by
    have := Boxed.new ((((w.alloc (.cells #[.slice none 0 0] 23)).alloc (.cells #[.int .u64 0] 118)).alloc (.cells #[(.func (.func 158) #[] #[.pointer (some ⟨s + 1, 0, none⟩), .pointer (some ⟨s, 0, none⟩)])] 148)).alloc (.cells #[.slice A a.length ca] 23)) 23 (.slice B b.length cb)
    rw [World.size_alloc, World.size_alloc, World.size_alloc, World.size_alloc, ← hs.out] at this; rw [hW0]; exact this
  have hZs : ∀ x o, Z x = some o → x < s := fun x o e => by rw [hs.out]; exact (Array.getElem?_eq_some_iff.1 (hZ x o e)).1
  have hRD : RD Z (s + 3) (s + 4) (.slice A a.length ca) (.slice B b.length cb) W0 := ⟨b3, b4, fun x o e => (hWB.block x (hZs x o e)).trans (hZ x o e)⟩
  simp only [← hW0]
  refine wpIn_rangeFunc_ownG (α := Nat) hro h1 (gf := 160) (lb := #[.pointer (some ⟨s + 3, 0, none⟩), .pointer (some ⟨s + 4, 0, none⟩)]) rfl (hall _) (enters_of Tryz.func160 (by kernel_rfl) rfl)
    (pairs_stops F (n - 1) (hall _) hro (by omega) (s + 3) (s + 4) a b Z _ _ hRa hRb hla hlb av bv hav.out hbv.out W0 hRD (by omega) (by omega) (fun x o e => by have := hZs x o e; omega)) (fun h k => h.t k)
    (fun W l o o' hl ho hc hw h => h.kept (grownBy_putObj' W l o') (by intro e; cases e; omega) (by intro e; cases e; omega) (fun y oy e => by intro e'; have := hZs y oy e; cases e'; omega)) (Below.refl _ _) (fun _ => rfl)
    (fun pre W => CS s s (s + 1) (cr f ([], 0) pre).1 (cr f ([], 0) pre).2 W ∧ Boxed W (s + 2) 148 (.func (.func 158) #[] #[.pointer (some ⟨s + 1, 0, none⟩), .pointer (some ⟨s, 0, none⟩)]) ∧ (RD Z (s + 3) (s + 4) (.slice A a.length ca) (.slice B b.length cb) W ∧ ∀ x o, Z x = some o → o.isCells = true) ∧ Below s w W)
    (fun _ _ _ => False)
    (OwnFrom.and (Own.from (CS_own s s (s + 1) f ([], 0)) _) (OwnFrom.and (Own.from (boxed_own (s + 2) 148 (fun _ => (.func (.func 158) #[] #[.pointer (some ⟨s + 1, 0, none⟩), .pointer (some ⟨s, 0, none⟩)]))) _) (OwnFrom.and (Own.from (RD_own Z (s + 3) (s + 4) _ _) _) (ownFrom_below (by have := hs.out; omega) (by have := hs.out; omega)))))
    (fun _ _ _ _ _ hs _ _ => hs)
    ⟨⟨_, b0, b1, World.ownsRow_nil _ _ _ _⟩, b2, ⟨hRD, hZc⟩, hWB⟩
    (fun k => { tmps := #[.slice A a.length ca, .slice B b.length cb, undef, undef, .slice none 0 0, .pointer (some ⟨s + 1 + 1, 0, none⟩), .func (.func 159) #[] #[.pointer (some ⟨s, 0, none⟩), .pointer (some ⟨s + 1, 0, none⟩)], .int .u64 (av k), .int .u64 (bv k),
      .tuple #[(.func (.func 158) #[] #[.pointer (some ⟨s + 1, 0, none⟩), .pointer (some ⟨s, 0, none⟩)]), .func (.func 159) #[] #[.pointer (some ⟨s, 0, none⟩), .pointer (some ⟨s + 1, 0, none⟩)]], .tuple #[(.func (.func 158) #[] #[.pointer (some ⟨s + 1, 0, none⟩), .pointer (some ⟨s, 0, none⟩)]), .func (.func 159) #[] #[.pointer (some ⟨s, 0, none⟩), .pointer (some ⟨s + 1, 0, none⟩)]], (.func (.func 158) #[] #[.pointer (some ⟨s + 1, 0, none⟩), .pointer (some ⟨s, 0, none⟩)]), .func (.func 159) #[] #[.pointer (some ⟨s, 0, none⟩), .pointer (some ⟨s + 1, 0, none⟩)],
      .slice A a.length ca, .slice B b.length cb, .func (.func 160) #[] #[.pointer (some ⟨s + 1 + 1 + 1, 0, none⟩), .pointer (some ⟨s + 1 + 1 + 1 + 1, 0, none⟩)], .int .u64 (av k), .int .u64 (bv k), undef, undef, undef, undef, undef, undef, undef], defers := [] }) ?assign ?body ?done ?stop
  case assign =>
    intro l x W K hK
    gi_wp2
    exact hK
  case body =>
    rintro l pre x W ⟨hCS, hbp, ⟨hR, hc⟩, hB⟩ hlt
    have hx := hax x
    have hy := hbx x
    have hcar := cr_carry hfb (s := ([], 0)) ⟨Int.le_refl _, by decide⟩ pre
    have hlen := cr_length f ([], 0) pre
    simp only [List.length_nil, Nat.zero_add] at hlen
    have hfx := hfb x
    have hp := put_in F (n - 1 - 1 - 1) (hall _) hro s s (s + 1) (cr f ([], 0) pre).1 (cr f ([], 0) pre).2 (f x) W (Nat.le_refl _) (by omega) (by omega) (by have := hB.size; have := hs.out; omega) (by rw [hlen]; omega) hcar.1 hfx.1 (by omega) hCS
    have hsn := cr_snoc f ([], 0) pre x
    have e1 := hbp.cell
    have e2 : IntKind.u64.wrap (av x + bv x) = f x := by rw [hfd.out]; exact wrapu64 (by omega) (by omega)
    clear hlen hx hy hcar hfx hsn
    gi_wp2
    refine ⟨fun _ => by omega, CallsIn.mono (CallsIn.inRound l hp) ?_⟩
    rintro e w' ⟨⟨_, rfl⟩, hq1, hq2, hq3, hq4⟩
    gi_wp2
    have hR2 : RD Z (s + 3) (s + 4) (.slice A a.length ca) (.slice B b.length cb) w' := ⟨hq4 _ _ _ (by omega) (by omega) (by decide) hR.a, hq4 _ _ _ (by omega) (by omega) (by decide) hR.b, fun y o e => (hq3.block y (hZs y o e)).trans (hR.f y o e)⟩
    exact ⟨hq2.from _, fun _ => hR2, by rw [cr_snoc]; exact hq1, hq4 _ _ _ (by omega) (by omega) (by decide) hbp, ⟨hR2, hc⟩, hB.trans hq3⟩
  case done =>
    rintro D xs W hD rfl ⟨hCS, hbp, _, hB⟩ hK
    have hcar := cr_carry hfb (s := ([], 0)) ⟨Int.le_refl _, by decide⟩ (List.range (max a.length b.length))
    have hlen := cr_length f ([], 0) (List.range (max a.length b.length))
    simp only [List.length_nil, Nat.zero_add, List.length_range] at hlen
    have hp := all_in F (n - 1) (hall _) hro s s (s + 1) _ _ W (Nat.le_refl _) (by omega) (by have := hB.size; have := hs.out; omega) (by rw [hlen]; omega) hcar.1 (by omega) hCS
    clear hlen hcar
    gi_wp2
    refine hp.mono ?_
    rintro e w' ⟨v, rfl, hq1, hq2, hq3⟩
    have hK' := hq2.same D _ hK rfl
    gi_wp2
    refine ⟨by simp, .inl ⟨_, _, rfl, run_takeDeferred hK', ?_⟩⟩
    refine ⟨_, results_tmp rfl _ _ _, v, rfl, _, rfl, ?_, ?_⟩
    · have := ownsRow_putObj hq1 (.deferred none) hK' rfl
      rw [← hs.out]
      rw [hfd.out, hav.out, hbv.out] at this
      exact this
    · rw [← hs.out]
      exact (hB.trans hq3).trans (belowK_b (w := W0) (by omega) w' D _ _ hD hK' rfl rfl)
  case stop =>
    rintro D c pre W _ _ h _
    exact h.elim
end Go.AE

/- By hand: add, sub and cmp of words, walked. -/
namespace Go.AE
open Go.Proofs Go.RowKit Go.Shelf
set_option linter.unusedVariables false
set_option linter.unusedSimpArgs false
attribute [local go_sem] Oper.semAt_some

set_option maxRecDepth 100000 in
set_option maxHeartbeats 2000000 in
theorem sub_in (F : Fence) (n : Nat) (hall : ∀ k, F.fn k) (hro : F.round = none) (hn : 5 ≤ n) (a b : List Int) (Z : Fz) (A B : Option Addr) (ca cb : Nat) (hRa : RL Z 1 Ru32 a (.slice A a.length ca)) (hRb : RL Z 1 Ru32 b (.slice B b.length cb)) (hla : a.length ≤ 1099511627776) (hlb : b.length ≤ 1099511627776)
    (w : World) (hZ : ∀ x o, Z x = some o → w.heap[x]? = some o) (hZc : ∀ x o, Z x = some o → o.isCells = true) :
    CallsIn F n Tryz.prog 153 #[.slice A a.length ca, .slice B b.length cb] w fun e W' => ∃ v, e = .returned v ∧ ∃ l, l = cr (fun k => a.getD k 0 + 4294967296 - 1 - b.getD k 0) ([0], 1) (List.range (max a.length b.length)) ∧
      (∃ g cap, W'.ownsRow w.heap.size 59 1 (.slice (some ⟨g, 0, none⟩) (max a.length b.length + 2) cap) (max a.length b.length + 2) ((l.1 ++ [l.2]).map (Value.int .u32)) ∧ ∃ A c, v = .slice A (max a.length b.length) c ∧ max a.length b.length ≤ c ∧ (0 < max a.length b.length → A = some ⟨g, 1, none⟩)) ∧ Below w.heap.size w W' := by
  have h1 : 1 ≤ n := by omega
  refine callsIn_of_wp_marks Tryz.func153 rfl (hall _) ?_ hro
  simp only [Tryz.ntmps153, List.size_toArray, List.length_cons, List.length_nil, Nat.reduceAdd, Nat.reduceSub, Array.replicate_succ, Array.replicate_zero, List.push_toArray, List.append_toArray, List.nil_append, List.cons_append]
  gi_wp2_with (gi_at_call 155; refine (carrier_in F (n - 1) (hall _) hro _).mono ?_; rintro e w' ⟨rfl, rfl⟩)
  obtain ⟨av, hav⟩ : ∃ f : Nat → Int, Hid (f = fun k => a.getD k 0) := ⟨_, rfl⟩
  obtain ⟨bv, hbv⟩ : ∃ f : Nat → Int, Hid (f = fun k => b.getD k 0) := ⟨_, rfl⟩
  have hax : ∀ k, 0 ≤ av k ∧ av k < 4294967296 := by intro k; rw [hav.out]; exact okW_getD (okW_of_RL hRa) k
  have hbx : ∀ k, 0 ≤ bv k ∧ bv k < 4294967296 := by intro k; rw [hbv.out]; exact okW_getD (okW_of_RL hRb) k
  obtain ⟨f, hfd⟩ : ∃ f : Nat → Int, Hid (f = fun k => av k + 4294967296 - 1 - bv k) := ⟨_, rfl⟩
  have hfb : ∀ k, 0 ≤ f k ∧ f k ≤ 8589934590 := by
    intro k; have := hax k; have := hbx k; rw [hfd.out]; simp only; omega
  obtain ⟨s, hs'⟩ : ∃ s, s = w.heap.size := ⟨_, rfl⟩
  have hs : Hid (s = w.heap.size) := hs'
  simp only [← hs']
  clear hs'
  obtain ⟨W1, hW1⟩ : ∃ W1, W1 = (((w.alloc (.cells #[.slice none 0 0] 23)).alloc (.cells #[.int .u64 0] 118)).alloc (.cells #[(.func (.func 158) #[] #[.pointer (some ⟨s + 1, 0, none⟩), .pointer (some ⟨s, 0, none⟩)])] 148)) := ⟨_, rfl⟩
  have hW1s : W1.heap.size = s + 3 := by rw [hW1]; simp [← hs.out]
  have hW1B : Below s w W1 := by rw [hW1, hs.out]; exact (((Below.refl _ w).alloc (Nat.le_refl _) _).alloc (by simp) _).alloc (by simp; omega) _
  have b0 : Boxed W1 s 23 (.slice none 0 0) := by rw [hW1, hs.out]; exact ((Boxed.new w 23 _).alloc _).alloc _
  have b1 : Boxed W1 (s + 1) 118 (.int .u64 0) := by
    have := ((Boxed.new (w.alloc (.cells #[.slice none 0 0] 23)) 118 (.int .u64 0)).alloc (.cells #[(.func (.func 158) #[] #[.pointer (some ⟨s + 1, 0, none⟩), .pointer (some ⟨s, 0, none⟩)])] 148))
    rw [World.size_alloc, ← hs.out] at this; rw [hW1]; exact this
  have b2 : Boxed W1 (s + 2) 148 (.func (.func 158) #[] #[.pointer (some ⟨s + 1, 0, none⟩), .pointer (some ⟨s, 0, none⟩)]) := by
    have := (Boxed.new ((w.alloc (.cells #[.slice none 0 0] 23)).alloc (.cells #[.int .u64 0] 118)) 148 (.func (.func 158) #[] #[.pointer (some ⟨s + 1, 0, none⟩), .pointer (some ⟨s, 0, none⟩)]))
    rw [World.size_alloc, World.size_alloc, ← hs.out] at this; rw [hW1]; exact this
  have hp1 := put_in F (n - 1) (hall _) hro s s (s + 1) [] 0 4294967296 W1 (Nat.le_refl _) (by omega) (by omega) (by omega) (by decide) (by decide) (by decide) (by decide) ⟨_, b0, b1, World.ownsRow_nil _ _ _ _⟩
  simp only [← hW1]
  refine hp1.mono ?_
  rintro e w2 ⟨⟨vx, rfl⟩, hq1, hq2, hq3, hq4⟩
  have hq1 : CS s s (s + 1) [0] 1 w2 := hq1
  clear hp1
  have c2 := hq4 _ _ _ (by omega) (by omega) (by decide) b2
  have hw2s := hq3.size
  gi_wp2_with (gi_at_call 156; refine (pairs_in F (n - 1) (hall _) hro _ _ _ _ _ _ _).mono ?_; rintro e w' ⟨rfl, rfl⟩)
  obtain ⟨z, hz⟩ : ∃ z, z = w2.heap.size := ⟨_, rfl⟩
  simp only [← hz]
  obtain ⟨W0, hW0⟩ : ∃ W0, W0 = (w2.alloc (.cells #[.slice A a.length ca] 23)).alloc (.cells #[.slice B b.length cb] 23) := ⟨_, rfl⟩
  simp only [← hW0]
  have hWs : W0.heap.size = z + 2 := by rw [hW0]; simp [← hz]
  have hWB : Below s w W0 := by rw [hW0]; exact ((hW1B.trans hq3).alloc (by omega) _).alloc (by simp; omega) _
  have d1 : CS s s (s + 1) [0] 1 W0 := by
    obtain ⟨u, u1, u2, u3⟩ := hq1
    rw [hW0]
    exact ⟨u, (u1.alloc _).alloc _, (u2.alloc _).alloc _, (u3.alloc _).alloc _⟩
  have d2 := (c2.alloc (.cells #[.slice A a.length ca] 23)).alloc (.cells #[.slice B b.length cb] 23)
  rw [← hW0] at d2
  have b3 : Boxed W0 z 23 (.slice A a.length ca) := by
    have := (Boxed.new w2 23 (.slice A a.length ca)).alloc (.cells #[.slice B b.length cb] 23)
    rw [hW0, hz]; exact this
  have b4 : Boxed W0 (z + 1) 23 (.slice B b.length cb) := by
    have := Boxed.new (w2.alloc (.cells #[.slice A a.length ca] 23)) 23 (.slice B b.length cb)
    rw [World.size_alloc] at this; rw [hW0, hz]; exact this
  have hzs : s + 3 ≤ z := by omega
  clear hW0 hW1 hq1 hq2 hq3 hq4 c2 b0 b1 b2
  replace hz : Hid (z = w2.heap.size) := hz
  have hZs : ∀ x o, Z x = some o → x < s := fun x o e => by rw [hs.out]; exact (Array.getElem?_eq_some_iff.1 (hZ x o e)).1
  have hRD : RD Z z (z + 1) (.slice A a.length ca) (.slice B b.length cb) W0 := ⟨b3, b4, fun x o e => (hWB.block x (hZs x o e)).trans (hZ x o e)⟩
  refine wpIn_rangeFunc_ownG (α := Nat) hro h1 (gf := 160) (lb := #[.pointer (some ⟨z, 0, none⟩), .pointer (some ⟨z + 1, 0, none⟩)]) rfl (hall _) (enters_of Tryz.func160 (by kernel_rfl) rfl)
    (pairs_stops F (n - 1) (hall _) hro (by omega) z (z + 1) a b Z _ _ hRa hRb hla hlb av bv hav.out hbv.out W0 hRD (by omega) (by omega) (fun x o e => by have := hZs x o e; omega)) (fun h k => h.t k)
    (fun W l o o' hl ho hc hw h => h.kept (grownBy_putObj' W l o') (by intro e; cases e; omega) (by intro e; cases e; omega) (fun y oy e => by intro e'; have := hZs y oy e; cases e'; omega)) (Below.refl _ _) (fun _ => rfl)
    (fun pre W => CS s s (s + 1) (cr f ([0], 1) pre).1 (cr f ([0], 1) pre).2 W ∧ Boxed W (s + 2) 148 (.func (.func 158) #[] #[.pointer (some ⟨s + 1, 0, none⟩), .pointer (some ⟨s, 0, none⟩)]) ∧ (RD Z z (z + 1) (.slice A a.length ca) (.slice B b.length cb) W ∧ ∀ x o, Z x = some o → o.isCells = true) ∧ Below s w W)
    (fun _ _ _ => False)
    (OwnFrom.and (Own.from (CS_own s s (s + 1) f ([0], 1)) _) (OwnFrom.and (Own.from (boxed_own (s + 2) 148 (fun _ => (.func (.func 158) #[] #[.pointer (some ⟨s + 1, 0, none⟩), .pointer (some ⟨s, 0, none⟩)]))) _) (OwnFrom.and (Own.from (RD_own Z z (z + 1) _ _) _) (ownFrom_below (by have := hs.out; omega) (by have := hs.out; omega)))))
    (fun _ _ _ _ _ hs _ _ => hs)
    ⟨d1, d2, ⟨hRD, hZc⟩, hWB⟩
    (fun k => { tmps := #[.slice A a.length ca, .slice B b.length cb, undef, undef, .slice none 0 0, .pointer (some ⟨s + 1 + 1, 0, none⟩), .func (.func 159) #[] #[.pointer (some ⟨s, 0, none⟩), .pointer (some ⟨s + 1, 0, none⟩)], .int .u64 (av k), .int .u64 (bv k), undef,
      .tuple #[(.func (.func 158) #[] #[.pointer (some ⟨s + 1, 0, none⟩), .pointer (some ⟨s, 0, none⟩)]), .func (.func 159) #[] #[.pointer (some ⟨s, 0, none⟩), .pointer (some ⟨s + 1, 0, none⟩)]], .tuple #[(.func (.func 158) #[] #[.pointer (some ⟨s + 1, 0, none⟩), .pointer (some ⟨s, 0, none⟩)]), .func (.func 159) #[] #[.pointer (some ⟨s, 0, none⟩), .pointer (some ⟨s + 1, 0, none⟩)]], (.func (.func 158) #[] #[.pointer (some ⟨s + 1, 0, none⟩), .pointer (some ⟨s, 0, none⟩)]), .func (.func 159) #[] #[.pointer (some ⟨s, 0, none⟩), .pointer (some ⟨s + 1, 0, none⟩)], (.func (.func 158) #[] #[.pointer (some ⟨s + 1, 0, none⟩), .pointer (some ⟨s, 0, none⟩)]), vx, .slice A a.length ca, .slice B b.length cb, .func (.func 160) #[] #[.pointer (some ⟨z, 0, none⟩), .pointer (some ⟨z + 1, 0, none⟩)], .int .u64 (av k), .int .u64 (bv k),
      undef, undef, undef, undef, undef, undef, undef, undef, undef, undef, undef, undef, undef, undef], defers := [] }) ?assign ?body ?done ?stop
  case assign =>
    intro l x W K hK
    gi_wp2
    exact hK
  case body =>
    rintro l pre x W ⟨hCS, hbp, ⟨hR, hc⟩, hB⟩ hlt
    have hx := hax x
    have hy := hbx x
    have hcar := cr_carry hfb (s := ([0], 1)) ⟨by decide, by decide⟩ pre
    have hlen := cr_length f ([0], 1) pre
    simp only [List.length_cons, List.length_nil, Nat.zero_add] at hlen
    have hfx := hfb x
    have hp := put_in F (n - 1 - 1 - 1) (hall _) hro s s (s + 1) (cr f ([0], 1) pre).1 (cr f ([0], 1) pre).2 (f x) W (Nat.le_refl _) (by omega) (by omega) (by have := hB.size; have := hs.out; omega) (by rw [hlen]; omega) hcar.1 hfx.1 (by omega) hCS
    have hsn := cr_snoc f ([0], 1) pre x
    have e1 := hbp.cell
    have e2 : IntKind.u64.wrap (av x + 4294967296) = av x + 4294967296 := wrapu64 (by omega) (by omega)
    have e3 : IntKind.u64.wrap (av x + 4294967296 - 1) = av x + 4294967296 - 1 := wrapu64 (by omega) (by omega)
    have e4 : IntKind.u64.wrap (av x + 4294967296 - 1 - bv x) = f x := by rw [hfd.out]; exact wrapu64 (by omega) (by omega)
    clear hlen hx hy hcar hfx hsn
    gi_wp2
    refine ⟨fun _ => by omega, CallsIn.mono (CallsIn.inRound l hp) ?_⟩
    rintro e w' ⟨⟨_, rfl⟩, hq1, hq2, hq3, hq4⟩
    gi_wp2
    have hR2 : RD Z z (z + 1) (.slice A a.length ca) (.slice B b.length cb) w' := ⟨hq4 _ _ _ (by omega) (by omega) (by decide) hR.a, hq4 _ _ _ (by omega) (by omega) (by decide) hR.b, fun y o e => (hq3.block y (hZs y o e)).trans (hR.f y o e)⟩
    exact ⟨hq2.from _, fun _ => hR2, by rw [cr_snoc]; exact hq1, hq4 _ _ _ (by omega) (by omega) (by decide) hbp, ⟨hR2, hc⟩, hB.trans hq3⟩
  case done =>
    rintro D xs W hD rfl ⟨hCS, hbp, _, hB⟩ hK
    have hcar := cr_carry hfb (s := ([0], 1)) ⟨by decide, by decide⟩ (List.range (max a.length b.length))
    have hlen := cr_length f ([0], 1) (List.range (max a.length b.length))
    simp only [List.length_cons, List.length_nil, Nat.zero_add, List.length_range] at hlen
    have hp := all_in F (n - 1) (hall _) hro s s (s + 1) _ _ W (Nat.le_refl _) (by omega) (by have := hB.size; have := hs.out; omega) (by rw [hlen]; omega) hcar.1 (by omega) hCS
    obtain ⟨M, hM⟩ : ∃ M, Hid (M = max a.length b.length) := ⟨_, rfl⟩
    have hMb : M ≤ 1099511627776 := by rw [hM.out]; omega
    have hk : ((cr f ([0], 1) (List.range (max a.length b.length))).1 ++ [(cr f ([0], 1) (List.range (max a.length b.length))).2]).length = M + 1 + 1 := by
      rw [List.length_append, hlen, hM.out]; simp; omega
    rw [hk] at hp
    clear hlen hcar hk
    gi_wp2
    refine hp.mono ?_
    rintro e w' ⟨v, rfl, hq1, hq2, hq3⟩
    have hK' := hq2.same D _ hK rfl
    obtain ⟨g, cap, rfl⟩ := ownsRow_succ hq1
    have hcap : M + 1 + 1 ≤ cap := by
      rcases hq1.2 with ⟨h, _⟩ | ⟨g', cap', cur, h, _, _, h5, _⟩
      · cases h
      · cases h; omega
    have e1 : IntKind.i64.wrap (((M : Int) + 1 + 1) - 1) = (M : Int) + 1 := by rw [wrap64 (by omega) (by omega)]; omega
    have e2 : IntKind.i64.wrap ((M : Int) + 2 - 1) = (M : Int) + 1 := by rw [wrap64 (by omega) (by omega)]; omega
    gi_wp2
    refine ⟨by simp, .inl ⟨_, _, rfl, run_takeDeferred hK', ?_⟩⟩
    refine ⟨_, results_tmp rfl _ _ _, _, rfl, _, rfl, ⟨g, cap, ?_, _, cap - 1, ?_, ?_, fun _ => rfl⟩, ?_⟩
    · have := ownsRow_putObj hq1 (.deferred none) hK' rfl
      rw [← hs.out]
      rw [hfd.out, hav.out, hbv.out] at this
      rw [hM.out] at this
      exact this
    · exact congrArg (fun m => Value.slice (some ⟨g, 1, none⟩) m (cap - 1)) hM.out
    · rw [← hM.out]; omega
    · rw [← hs.out]
      exact (hB.trans hq3).trans (belowK_b (w := W0) (by omega) w' D _ _ hD hK' rfl rfl)
  case stop =>
    rintro D c pre W _ _ h _
    exact h.elim
end Go.AE

/- By hand: cmp of words, walked. -/
namespace Go.AE
open Go.Proofs Go.RowKit Go.Shelf
set_option linter.unusedVariables false
set_option linter.unusedSimpArgs false
attribute [local go_sem] Oper.semAt_some

def cmf (av bv : Nat → Int) (pre : List Nat) : Int := pre.foldl (fun c k => if av k < bv k then -1 else if bv k < av k then 1 else c) 0
theorem cmf_snoc (av bv : Nat → Int) (pre : List Nat) (k : Nat) : cmf av bv (pre ++ [k]) = if av k < bv k then -1 else if bv k < av k then 1 else cmf av bv pre := by simp [cmf]
def cmpW (a b : List Int) : Int := if (a.length : Int) - b.length ≠ 0 then (a.length : Int) - b.length else cmf (fun k => a.getD k 0) (fun k => b.getD k 0) (List.range (max a.length b.length))

set_option maxRecDepth 100000 in
set_option maxHeartbeats 2000000 in
theorem cmp_in (F : Fence) (n : Nat) (hall : ∀ k, F.fn k) (hro : F.round = none) (hn : 5 ≤ n) (a b : List Int) (Z : Fz) (A B : Option Addr) (ca cb : Nat) (hRa : RL Z 1 Ru32 a (.slice A a.length ca)) (hRb : RL Z 1 Ru32 b (.slice B b.length cb)) (hla : a.length ≤ 1099511627776) (hlb : b.length ≤ 1099511627776)
    (w : World) (hZ : ∀ x o, Z x = some o → w.heap[x]? = some o) (hZc : ∀ x o, Z x = some o → o.isCells = true) :
    CallsIn F n Tryz.prog 152 #[.slice A a.length ca, .slice B b.length cb] w fun e W' => e = .returned (.int .i64 (cmpW a b)) ∧ Below w.heap.size w W' := by
  have h1 : 1 ≤ n := by omega
  refine callsIn_of_wp_marks Tryz.func152 rfl (hall _) ?_ hro
  simp only [Tryz.ntmps152, List.size_toArray, List.length_cons, List.length_nil, Nat.reduceAdd, Nat.reduceSub, Array.replicate_succ, Array.replicate_zero, List.push_toArray, List.append_toArray, List.nil_append, List.cons_append]
  have hw : IntKind.i64.wrap ((a.length : Int) - b.length) = (a.length : Int) - b.length := wrap64 (by omega) (by omega)
  have hcm : Hid (cmpW a b = if (a.length : Int) - b.length ≠ 0 then (a.length : Int) - b.length else cmf (fun k => a.getD k 0) (fun k => b.getD k 0) (List.range (max a.length b.length))) := rfl
  generalize cmpW a b = cm at *
  generalize hd : (a.length : Int) - b.length = d at *
  replace hd : Hid ((a.length : Int) - b.length = d) := hd
  gi_wp2_with (gi_at_call 156; refine (pairs_in F (n - 1) (hall _) hro _ _ _ _ _ _ _).mono ?_; rintro e w' ⟨rfl, rfl⟩)
  · have hne : (a.length : Int) - b.length ≠ 0 := by rename_i h; simpa using h
    refine ⟨_, results_tmp rfl _ _ _, ?_, Below.refl _ _⟩
    rw [hcm.out, if_pos (by rw [← hd.out]; exact hne), ← hd.out]; rfl
  have heq : (a.length : Int) - b.length = 0 := by simp_all
  have hcm2 : Hid (cm = cmf (fun k => a.getD k 0) (fun k => b.getD k 0) (List.range (max a.length b.length))) := by rw [hcm.out, if_neg (by rw [← hd.out]; simpa using heq)]; rfl
  clear hcm hd hw heq
  obtain ⟨av, hav⟩ : ∃ f : Nat → Int, Hid (f = fun k => a.getD k 0) := ⟨_, rfl⟩
  obtain ⟨bv, hbv⟩ : ∃ f : Nat → Int, Hid (f = fun k => b.getD k 0) := ⟨_, rfl⟩
  obtain ⟨s, hs'⟩ : ∃ s, s = w.heap.size := ⟨_, rfl⟩
  have hs : Hid (s = w.heap.size) := hs'
  simp only [← hs']
  clear hs'
  obtain ⟨W0, hW0⟩ : ∃ W0, W0 = (((w.alloc (.cells #[.int .i64 0] 3)).alloc (.cells #[.slice A a.length ca] 23)).alloc (.cells #[.slice B b.length cb] 23)) := ⟨_, rfl⟩
  have hWs : W0.heap.size = s + 3 := by rw [hW0]; simp [← hs.out]
  have hWB : Below s w W0 := by rw [hW0, hs.out]; exact (((Below.refl _ w).alloc (Nat.le_refl _) _).alloc (by simp) _).alloc (by simp; omega) _
  have b0 : Boxed W0 s 3 (.int .i64 0) := by rw [hW0, hs.out]; exact ((Boxed.new w 3 _).alloc _).alloc _
  have b3 : Boxed W0 (s + 1) 23 (.slice A a.length ca) := by
    have := (Boxed.new (w.alloc (.cells #[.int .i64 0] 3)) 23 (.slice A a.length ca)).alloc (.cells #[.slice B b.length cb] 23)
    rw [World.size_alloc, ← hs.out] at this; rw [hW0]; exact this
  have b4 : Boxed W0 (s + 2) 23 (.slice B b.length cb) := by
    have := Boxed.new ((w.alloc (.cells #[.int .i64 0] 3)).alloc (.cells #[.slice A a.length ca] 23)) 23 (.slice B b.length cb)
    rw [World.size_alloc, World.size_alloc, ← hs.out] at this; rw [hW0]; exact this
  have hZs : ∀ x o, Z x = some o → x < s := fun x o e => by rw [hs.out]; exact (Array.getElem?_eq_some_iff.1 (hZ x o e)).1
  have hRD : RD Z (s + 1) (s + 2) (.slice A a.length ca) (.slice B b.length cb) W0 := ⟨b3, b4, fun x o e => (hWB.block x (hZs x o e)).trans (hZ x o e)⟩
  simp only [← hW0]
  refine wpIn_rangeFunc_ownG (α := Nat) hro h1 (gf := 160) (lb := #[.pointer (some ⟨s + 1, 0, none⟩), .pointer (some ⟨s + 2, 0, none⟩)]) rfl (hall _) (enters_of Tryz.func160 (by kernel_rfl) rfl)
    (pairs_stops F (n - 1) (hall _) hro (by omega) (s + 1) (s + 2) a b Z _ _ hRa hRb hla hlb av bv hav.out hbv.out W0 hRD (by omega) (by omega) (fun x o e => by have := hZs x o e; omega)) (fun h k => h.t k)
    (fun W l o o' hl ho hc hw h => h.kept (grownBy_putObj' W l o') (by intro e; cases e; omega) (by intro e; cases e; omega) (fun y oy e => by intro e'; have := hZs y oy e; cases e'; omega)) (Below.refl _ _) (fun _ => rfl)
    (fun pre W => Boxed W s 3 (.int .i64 (cmf av bv pre)) ∧ (RD Z (s + 1) (s + 2) (.slice A a.length ca) (.slice B b.length cb) W ∧ ∀ x o, Z x = some o → o.isCells = true) ∧ Below s w W)
    (fun _ _ _ => False)
    (OwnFrom.and (Own.from (boxed_own s 3 (fun pre => .int .i64 (cmf av bv pre))) _) (OwnFrom.and (Own.from (RD_own Z (s + 1) (s + 2) _ _) _) (ownFrom_below (by have := hs.out; omega) (by have := hs.out; omega))))
    (fun _ _ _ _ _ hs _ _ => hs)
    ⟨b0, ⟨hRD, hZc⟩, hWB⟩
    (fun k => { tmps := #[.slice A a.length ca, .slice B b.length cb, undef, undef, .int .i64 0, .int .i64 (a.length - b.length), .pointer (some ⟨s, 0, none⟩), .int .u64 (av k), .int .u64 (bv k), .slice A a.length ca, .int .i64 a.length, .slice B b.length cb, .int .i64 b.length, .int .i64 (a.length - b.length), .int .i64 (a.length - b.length), .bool false, undef,
      .slice A a.length ca, .slice B b.length cb, .func (.func 160) #[] #[.pointer (some ⟨s + 1, 0, none⟩), .pointer (some ⟨s + 1 + 1, 0, none⟩)], .int .u64 (av k), .int .u64 (bv k), undef, undef, undef, undef, undef, undef, undef, undef, undef], defers := [] }) ?assign ?body ?done ?stop
  case assign =>
    intro l x W K hK
    gi_wp2
    exact hK
  case body =>
    rintro l pre x W ⟨hbx, ⟨hR, hc⟩, hB⟩ hlt
    have hsn := cmf_snoc av bv pre x
    replace hsn : Hid _ := hsn
    have e1 := hbx.cell
    have e2 := hbx.frozen
    clear b0 b3 b4
    have key : ∀ v : Int, v = cmf av bv (pre ++ [x]) → ∀ W' : World, W' = W.setCell ⟨s, 0, none⟩ (.int .i64 v) → ownPostG W0.heap.size (KP Z (s + 1) (s + 2) (.slice A a.length ca) (.slice B b.length cb)) (fun pre W => Boxed W s 3 (.int .i64 (cmf av bv pre)) ∧ (RD Z (s + 1) (s + 2) (.slice A a.length ca) (.slice B b.length cb) W ∧ ∀ x o, Z x = some o → o.isCells = true) ∧ Below s w W) (fun _ _ _ => False) (pre ++ [x]) W .normal { tmps := #[], defers := [] } W' := by
      rintro v hv W' rfl
      have hR2 : RD Z (s + 1) (s + 2) (.slice A a.length ca) (.slice B b.length cb) (W.setCell ⟨s, 0, none⟩ (.int .i64 v)) := hR.kept (grownBy_setCell' _ _ _) (by intro e; cases e) (by intro e; cases e) (fun y oy e => by intro e'; have := hZs y oy e; cases e'; omega)
      exact ⟨(KeepsOthers.setCell _ _ _).from _, fun _ => hR2, hv ▸ hbx.set _, ⟨hR2, hc⟩, hB.setCell (p := ⟨s, 0, none⟩) (Nat.le_refl _) _⟩
    replace key : Hid _ := key
    gi_wp2
    · exact key.out (-1) (by rw [hsn.out, if_pos (by assumption)]) _ rfl
    · exact key.out 1 (by rw [hsn.out, if_neg (by omega), if_pos (by assumption)]) _ rfl
    · exact ⟨KeepsFrom.refl _ _, fun h => h, by rw [hsn.out, if_neg (by omega), if_neg (by omega)]; exact hbx, ⟨hR, hc⟩, hB⟩
  case done =>
    rintro D xs W hD rfl ⟨hbx, _, hB⟩ hK
    have e1 := hbx.cell
    clear b0 b3 b4
    gi_wp2
    refine ⟨by simp, .inl ⟨_, _, rfl, run_takeDeferred hK, ?_⟩⟩
    refine ⟨_, results_tmp rfl _ _ _, ?_, ?_⟩
    · rw [hcm2.out, hav.out, hbv.out]; rfl
    · rw [← hs.out]
      exact hB.trans (belowK_b (w := W0) (by omega) W D _ _ hD hK rfl rfl)
  case stop =>
    rintro D c pre W _ _ h _
    exact h.elim
end Go.AE

/- add, sub and cmp of words: their contracts. -/
namespace Go.AE
open Go.Proofs Go.RowKit
set_option linter.unusedVariables false
set_option linter.unusedSimpArgs false
set_option maxRecDepth 20000

/-- All new blocks stay. -/
def Fz.all (F : Fz) (w w' : World) : Fz := fun b => if b < w.heap.size then F b else w'.heap[b]?
theorem Fz.all_ok {F : Fz} {w w' : World} (hF : ∀ b o, F b = some o → w.heap[b]? = some o) (hB : Below w.heap.size w w') :
    F.le (F.all w w') ∧ (∀ b, b < w.heap.size → F.all w w' b = F b) ∧ (∀ b o, F.all w w' b = some o → w'.heap[b]? = some o) := by
  refine ⟨fun b o e => ?_, fun b hb => by simp [Fz.all, hb], fun b o e => ?_⟩
  · have := (Array.getElem?_eq_some_iff.1 (hF b o e)).1
    simp [Fz.all, this, e]
  · simp only [Fz.all] at e
    split at e
    · rename_i hb; exact (hB.block b hb).trans (hF b o e)
    · exact e
def Fz.cel (F : Fz) : Fz := fun b => match F b with
  | some o => if o.isCells = true then some o else none
  | none => none
theorem Fz.cel_le {F : Fz} : F.cel.le F := by
  intro b o e
  simp only [Fz.cel] at e
  split at e
  · rename_i o' h; split at e
    · cases e; exact h
    · cases e
  · cases e
theorem Fz.cel_cells {F : Fz} {b : Nat} {o : Obj} (e : F.cel b = some o) : o.isCells = true := by
  simp only [Fz.cel] at e
  split at e
  · split at e
    · rename_i h; cases e; exact h
    · cases e
  · cases e
theorem RL.cel {α : Type} {F : Fz} {es : Nat} {R : α → List Value → Prop} {l : List α} {v : Value} (h : RL F es R l v) : RL F.cel es R l v := by
  obtain ⟨A, c, h1, h2, h3⟩ := h
  refine ⟨A, c, h1, h2, fun hl => ?_⟩
  obtain ⟨b, off, C, T, fr, h4, h5, h6⟩ := h3 hl
  exact ⟨b, off, C, T, fr, h4, by simp [Fz.cel, h5, Obj.isCells], h6⟩
theorem RL_of_owns {w : World} {base : Nat} {e : TypeId} {v : Value} {n : Nat} {l : List Int} (h : w.ownsRow base e 1 v n (l.map (Value.int .u32))) (hl : okW l) {F : Fz} (hF : ∀ b, base ≤ b → F b = w.heap[b]?) : RL F 1 Ru32 l v := by
  obtain ⟨h1, h2⟩ := h
  have hn : l.length = n := by simpa using h1
  rcases h2 with ⟨rfl, rfl⟩ | ⟨g, cap, cur, rfl, hb, hg, h3, h4, h5, h6⟩
  · rw [List.eq_nil_of_length_eq_zero hn]; exact rl_nil _ _ _
  · refine ⟨_, cap, by rw [hn], by omega, fun _ => ⟨g, 0, cur, e, (0, 0), rfl, (hF g hb).trans hg, fun i hi => ⟨[.int .u32 l[i]], rfl, ⟨rfl, hl _ (List.getElem_mem _)⟩, fun k hk => ?_⟩⟩⟩
    obtain rfl : k = 0 := by omega
    have : (cur.toList.take (n * 1))[i]? = some (.int .u32 l[i]) := by rw [h6]; simp [hi]
    rw [List.getElem?_take, if_pos (by omega)] at this
    simpa using this
theorem RL_of_owns1 {w : World} {base : Nat} {e : TypeId} {g cap m c : Nat} {A : Option Addr} {L l : List Int} {z : Int} (h : w.ownsRow base e 1 (.slice (some ⟨g, 0, none⟩) (m + 2) cap) (m + 2) (L.map (Value.int .u32))) (hA : 0 < m → A = some ⟨g, 1, none⟩) (hc : m ≤ c)
    (hL : L.drop 1 = l ++ [z]) (hm : l.length = m) (hl : okW l) {F : Fz} (hF : ∀ b, base ≤ b → F b = w.heap[b]?) : RL F 1 Ru32 l (.slice A m c) := by
  obtain ⟨h1, h2⟩ := h
  rcases h2 with ⟨h, _⟩ | ⟨g', cap', cur, h, hb, hg, h3, h4, h5, h6⟩
  · cases h
  · cases h
    refine ⟨_, c, by rw [hm], by omega, fun hne => ⟨g, 1, cur, e, (0, 0), hA (by rw [← hm]; exact List.length_pos_iff.2 hne), (hF g hb).trans hg, fun i hi => ⟨[.int .u32 l[i]], rfl, ⟨rfl, hl _ (List.getElem_mem _)⟩, fun k hk => ?_⟩⟩⟩
    obtain rfl : k = 0 := by omega
    have e1 : L[1 + i]? = some l[i] := by
      have : (L.drop 1)[i]? = some l[i] := by rw [hL, List.getElem?_append_left hi]; simp
      rwa [List.getElem?_drop] at this
    have : (cur.toList.take ((m + 2) * 1))[1 + i]? = some (.int .u32 l[i]) := by rw [h6, List.getElem?_map, e1]; rfl
    rw [List.getElem?_take, if_pos (by omega)] at this
    simpa using this

/-! ### Values -/
theorem fs_map_succ (f : Nat → Int) (l : List Nat) : fs f (l.map Nat.succ) = fs (fun k => f (k + 1)) l := by
  induction l with
  | nil => rfl
  | cons k r ih => simp only [List.map_cons, fs, ih]
theorem fs_range_succ (f : Nat → Int) (n : Nat) : fs f (List.range (n + 1)) = f 0 + 4294967296 * fs (fun k => f (k + 1)) (List.range n) := by
  rw [List.range_succ_eq_map]; simp only [fs, fs_map_succ]
theorem fs_zero (l : List Nat) : fs (fun _ => 0) l = 0 := by
  induction l with
  | nil => rfl
  | cons k r ih => simp only [fs, ih]; omega
theorem fs_getD {a : List Int} {n : Nat} (h : a.length ≤ n) : fs (fun k => a.getD k 0) (List.range n) = wv a := by
  induction n generalizing a with
  | zero => rw [List.eq_nil_of_length_eq_zero (l := a) (by omega)]; rfl
  | succ n ih =>
    rw [fs_range_succ]
    cases a with
    | nil => simp only [List.getD_nil]; rw [fs_zero]; rfl
    | cons x r => simp only [List.getD_cons_zero, List.getD_cons_succ, wv]; rw [ih (by simpa using h)]
theorem fs_add (f g : Nat → Int) (l : List Nat) : fs (fun k => f k + g k) l = fs f l + fs g l := by
  induction l with
  | nil => rfl
  | cons k r ih => simp only [fs, ih]; omega
theorem fs_sub (f g : Nat → Int) (n : Nat) : fs (fun k => f k + 4294967296 - 1 - g k) (List.range n) = fs f (List.range n) - fs g (List.range n) + 4294967296 ^ n - 1 := by
  induction n generalizing f g with
  | zero => simp [fs]
  | succ n ih =>
    rw [fs_range_succ, fs_range_succ, fs_range_succ, ih (fun k => f (k + 1)) (fun k => g (k + 1)), Int.pow_succ]
    omega
theorem cr_prefix (f : Nat → Int) (s : List Int × Int) (pre : List Nat) : ∃ t, (cr f s pre).1 = s.1 ++ t ∧ t.length = pre.length := by
  induction pre generalizing s with
  | nil => exact ⟨[], by simp [cr], rfl⟩
  | cons p r ih =>
    obtain ⟨t, h1, h2⟩ := ih (s.1 ++ [(f p + s.2) % 4294967296], (f p + s.2) / 4294967296)
    exact ⟨_ :: t, by simp only [cr, h1]; simp; rfl, by simp [h2]⟩
theorem add_value {a b : List Int} (ha : okW a) (hb : okW b) {l : List Int × Int} (h : l = cr (fun k => a.getD k 0 + b.getD k 0) ([], 0) (List.range (max a.length b.length))) :
    okW (l.1 ++ [l.2]) ∧ l.1 ++ [l.2] = digs (max a.length b.length + 1) (wv a + wv b) := by
  have hf : ∀ k, 0 ≤ a.getD k 0 + b.getD k 0 ∧ a.getD k 0 + b.getD k 0 ≤ 8589934590 := fun k => by have := okW_getD ha k; have := okW_getD hb k; omega
  have h1 := cr_carry hf (s := ([], 0)) ⟨by decide, by decide⟩ (List.range (max a.length b.length))
  have h2 := cr_okW (f := fun k => a.getD k 0 + b.getD k 0) (s := ([], 0)) (by intro x hx; cases hx) (List.range (max a.length b.length))
  have h3 := cr_value (fun k => a.getD k 0 + b.getD k 0) ([], 0) (List.range (max a.length b.length))
  have h4 := cr_length (fun k => a.getD k 0 + b.getD k 0) ([], 0) (List.range (max a.length b.length))
  rw [← h] at h1 h2 h3 h4
  simp only [List.length_nil, Nat.zero_add, List.length_range, wv, Int.pow_zero, Int.one_mul, Int.zero_add] at h3 h4
  rw [fs_add, fs_getD (by omega), fs_getD (by omega)] at h3
  have hok : okW (l.1 ++ [l.2]) := okW_append h2 (by intro x hx; simp at hx; omega)
  refine ⟨hok, eq_digs_of hok (by simp [h4]) ?_⟩
  rw [wv_append, h4]; simp only [wv]; rw [← h3]; simp
theorem sub_value {a b : List Int} (ha : okW a) (hb : okW b) (hab : wv b ≤ wv a) {l : List Int × Int} (h : l = cr (fun k => a.getD k 0 + 4294967296 - 1 - b.getD k 0) ([0], 1) (List.range (max a.length b.length))) :
    okW (digs (max a.length b.length) (wv a - wv b)) ∧ (l.1 ++ [l.2]).drop 1 = digs (max a.length b.length) (wv a - wv b) ++ [l.2] := by
  have hf : ∀ k, 0 ≤ a.getD k 0 + 4294967296 - 1 - b.getD k 0 ∧ a.getD k 0 + 4294967296 - 1 - b.getD k 0 ≤ 8589934590 := fun k => by have := okW_getD ha k; have := okW_getD hb k; omega
  have h1 := cr_carry hf (s := ([0], 1)) ⟨by decide, by decide⟩ (List.range (max a.length b.length))
  have h2 := cr_okW (f := fun k => a.getD k 0 + 4294967296 - 1 - b.getD k 0) (s := ([0], 1)) (by intro x hx; simp at hx; omega) (List.range (max a.length b.length))
  have h3 := cr_value (fun k => a.getD k 0 + 4294967296 - 1 - b.getD k 0) ([0], 1) (List.range (max a.length b.length))
  obtain ⟨t, h4, h5⟩ := cr_prefix (fun k => a.getD k 0 + 4294967296 - 1 - b.getD k 0) ([0], 1) (List.range (max a.length b.length))
  rw [← h] at h1 h2 h3 h4
  rw [h4] at h2 h3
  simp only [List.length_cons, List.length_nil, Nat.zero_add, List.length_range, wv, List.cons_append, List.nil_append] at h3 h5
  rw [fs_sub, fs_getD (by omega), fs_getD (by omega), Nat.add_comm 1, Int.pow_succ] at h3
  have ht : okW t := fun x hx => h2 x (by simp [hx])
  have h6 := wv_lt ht
  have h7 := wv_nonneg ht
  rw [h5] at h6
  have h8 : wv a - wv b < 4294967296 ^ max a.length b.length := by
    have := wv_lt ha; have := wv_nonneg hb; have := pow_mono (show a.length ≤ max a.length b.length by omega); omega
  have h9 : l.2 = 0 ∨ l.2 = 1 := by omega
  have h10 : wv t = wv a - wv b := by
    rcases h9 with h9 | h9 <;> rw [h9] at h3 <;> simp at h3 <;> omega
  refine ⟨okW_digs _ _, ?_⟩
  rw [h4]
  simp only [List.cons_append, List.nil_append, List.drop_succ_cons, List.drop_zero]
  rw [← eq_digs_of ht h5 h10]
theorem cmf_value {a b : List Int} (ha : okW a) (hb : okW b) (n : Nat) (hna : n ≤ a.length) (hnb : n ≤ b.length) : cmf (fun k => a.getD k 0) (fun k => b.getD k 0) (List.range n) = sgn (wv (a.take n) - wv (b.take n)) := by
  induction n with
  | zero => simp [cmf, wv, sgn]
  | succ n ih =>
    rw [List.range_succ, cmf_snoc, ih (by omega) (by omega), wv_take_succ (by omega), wv_take_succ (by omega)]
    have h1 := okW_getD ha n
    have h2 := okW_getD hb n
    have h3 := wv_lt (okW_take ha n)
    have h4 := wv_lt (okW_take hb n)
    have h5 := wv_nonneg (okW_take ha n)
    have h6 := wv_nonneg (okW_take hb n)
    rw [List.length_take, Nat.min_eq_left (by omega)] at h3 h4
    have h7 := pow_pos n
    generalize (4294967296 : Int) ^ n = q at *
    generalize a.getD n 0 = x at *
    generalize b.getD n 0 = y at *
    split
    · rename_i h
      have : q * (y - x - 1) ≥ 0 := Int.mul_nonneg (by omega) (by omega)
      have : q * (y - x - 1) = q * y - q * x - q := by grind
      simp only [sgn]; split
      · omega
      · split
        · rfl
        · omega
    · split
      · rename_i h
        have : q * (x - y - 1) ≥ 0 := Int.mul_nonneg (by omega) (by omega)
        have : q * (x - y - 1) = q * x - q * y - q := by grind
        simp only [sgn]; split
        · omega
        · split
          · omega
          · rfl
      · have : x = y := by omega
        subst this
        congr 1; omega
theorem cmpW_value {a b : List Int} (ha : okW a) (hb : okW b) (ca : a.getLast? ≠ some 0) (cb : b.getLast? ≠ some 0) : sgn (cmpW a b) = sgn (wv a - wv b) := by
  unfold cmpW
  split
  · rename_i h
    rcases Nat.lt_or_ge a.length b.length with h1 | h1
    · have := wv_lt_of_length ha hb cb h1
      simp only [sgn]; split
      · omega
      · split <;> split <;> omega
    · have := wv_lt_of_length hb ha ca (show b.length < a.length by omega)
      simp only [sgn]; split
      · omega
      · split <;> split <;> omega
  · rename_i h
    have h1 : a.length = b.length := by omega
    rw [cmf_value ha hb _ (by omega) (by omega), show max a.length b.length = a.length by omega, List.take_length]
    rw [h1, List.take_length]
    simp only [sgn]; split
    · rfl
    · split <;> simp
theorem sgn_nonneg {x : Int} : 0 ≤ x ↔ 0 ≤ sgn x := by unfold sgn; split <;> (try split) <;> omega
theorem sgn_nonpos {x : Int} : x ≤ 0 ↔ sgn x ≤ 0 := by unfold sgn; split <;> (try split) <;> omega
theorem cmpW_ge {a b : List Int} (ha : okW a) (hb : okW b) (ca : a.getLast? ≠ some 0) (cb : b.getLast? ≠ some 0) : 0 ≤ cmpW a b ↔ wv b ≤ wv a := by
  rw [sgn_nonneg, cmpW_value ha hb ca cb, ← sgn_nonneg]; omega
theorem cmpW_le {a b : List Int} (ha : okW a) (hb : okW b) (ca : a.getLast? ≠ some 0) (cb : b.getLast? ≠ some 0) : cmpW a b ≤ 0 ↔ wv a ≤ wv b := by
  rw [sgn_nonpos, cmpW_value ha hb ca cb, ← sgn_nonpos]; omega

/-! ### Contracts -/
def ctAddW : Ct := fun l => match l with
  | [.lst .u32 a, .lst .u32 b] => some (a.length ≤ 1099511627776 ∧ b.length ≤ 1099511627776, .lst .u32 (digs (max a.length b.length + 1) (wv a + wv b)))
  | _ => none
def ctSubW : Ct := fun l => match l with
  | [.lst .u32 a, .lst .u32 b] => some (a.length ≤ 1099511627776 ∧ b.length ≤ 1099511627776 ∧ wv b ≤ wv a, .lst .u32 (digs (max a.length b.length) (wv a - wv b)))
  | _ => none
def ctCmpW : Ct := fun l => match l with
  | [.lst .u32 a, .lst .u32 b] => some (a.length ≤ 1099511627776 ∧ b.length ≤ 1099511627776, vi (cmpW a b))
  | _ => none
theorem args2 {F : Fz} {a b : List Int} {vs : List Value} (h : RVs F [.lst .u32 a, .lst .u32 b] vs) : ∃ A B ca cb, vs = [.slice A a.length ca, .slice B b.length cb] ∧ RL F.cel 1 Ru32 a (.slice A a.length ca) ∧ RL F.cel 1 Ru32 b (.slice B b.length cb) ∧ okW a ∧ okW b := by
  obtain ⟨v1, r1, rfl, h1, v2, r2, rfl, h2, rfl⟩ := h
  obtain ⟨u1, e1, k1⟩ := (show ∃ u, [v1] = [u] ∧ RL F 1 Ru32 a u from h1)
  obtain ⟨u2, e2, k2⟩ := (show ∃ u, [v2] = [u] ∧ RL F 1 Ru32 b u from h2)
  cases e1; cases e2
  have o1 := okW_of_RL k1
  have o2 := okW_of_RL k2
  obtain ⟨A, ca, rfl, _⟩ := id k1
  obtain ⟨B, cb, rfl, _⟩ := id k2
  exact ⟨A, B, ca, cb, rfl, k1.cel, k2.cel, o1, o2⟩
theorem wide_calls {f : FuncId} {args : Array Value} {w : World} {R : Ending → World → Prop} (h : CallsIn Fence.wide 5 Tryz.prog f args w R) : Calls Tryz.prog f args w R := callsIn_wide.1 h

theorem ok151 : Sound Tryz.prog 151 ctAddW := by
  refine ⟨⟨Tryz.f151, _, rfl, rfl, rfl⟩, ?_⟩
  intro l p r h hp w F args hF hv
  unfold ctAddW at h
  split at h <;> cases h
  rename_i a b
  obtain ⟨A, B, ca, cb, rfl, k1, k2, o1, o2⟩ := args2 hv
  refine Calls.mono (wide_calls (add_in Fence.wide 5 (fun _ => trivial) rfl (by omega) a b F.cel A B ca cb k1 k2 hp.1 hp.2 w (fun x o e => hF x o (Fz.cel_le x o e)) (fun x o e => Fz.cel_cells e))) ?_
  rintro e w' ⟨v, rfl, l, hl, hrow, hB⟩
  obtain ⟨f1, f2, f3⟩ := Fz.all_ok hF hB
  obtain ⟨v1, v2⟩ := add_value o1 o2 hl
  refine ⟨F.all w w', v, f1, f2, f3, hB, rfl, ?_⟩
  rw [v2] at hrow v1
  exact (show ∃ u, [v] = [u] ∧ RL _ 1 Ru32 _ u from ⟨v, rfl, RL_of_owns hrow v1 (fun b hb => by simp only [Fz.all]; rw [if_neg (by omega)])⟩)
theorem ok153 : Sound Tryz.prog 153 ctSubW := by
  refine ⟨⟨Tryz.f153, _, rfl, rfl, rfl⟩, ?_⟩
  intro l p r h hp w F args hF hv
  unfold ctSubW at h
  split at h <;> cases h
  rename_i a b
  obtain ⟨A, B, ca, cb, rfl, k1, k2, o1, o2⟩ := args2 hv
  refine Calls.mono (wide_calls (sub_in Fence.wide 5 (fun _ => trivial) rfl (by omega) a b F.cel A B ca cb k1 k2 hp.1 hp.2.1 w (fun x o e => hF x o (Fz.cel_le x o e)) (fun x o e => Fz.cel_cells e))) ?_
  rintro e w' ⟨v, rfl, l, hl, ⟨g, cap, hrow, A', c, rfl, hc, hA⟩, hB⟩
  obtain ⟨f1, f2, f3⟩ := Fz.all_ok hF hB
  obtain ⟨v1, v2⟩ := sub_value o1 o2 hp.2.2 hl
  refine ⟨F.all w w', _, f1, f2, f3, hB, rfl, ?_⟩
  exact (show ∃ u, [_] = [u] ∧ RL _ 1 Ru32 _ u from ⟨_, rfl, RL_of_owns1 hrow hA hc v2 (digs_length _ _) v1 (fun b hb => by simp only [Fz.all]; rw [if_neg (by omega)])⟩)
theorem ok152 : Sound Tryz.prog 152 ctCmpW := by
  refine ⟨⟨Tryz.f152, _, rfl, rfl, rfl⟩, ?_⟩
  intro l p r h hp w F args hF hv
  unfold ctCmpW at h
  split at h <;> cases h
  rename_i a b
  obtain ⟨A, B, ca, cb, rfl, k1, k2, o1, o2⟩ := args2 hv
  refine Calls.mono (wide_calls (cmp_in Fence.wide 5 (fun _ => trivial) rfl (by omega) a b F.cel A B ca cb k1 k2 hp.1 hp.2 w (fun x o e => hF x o (Fz.cel_le x o e)) (fun x o e => Fz.cel_cells e))) ?_
  rintro e w' ⟨rfl, hB⟩
  obtain ⟨f1, f2, f3⟩ := Fz.all_ok hF hB
  exact ⟨F.all w w', _, f1, f2, f3, hB, rfl, ⟨rfl, rfl⟩⟩
end Go.AE

/- By hand: slices.Clone. -/
namespace Go.AE
open Go.Proofs Go.RowKit Go.Shelf
set_option linter.unusedVariables false
set_option linter.unusedSimpArgs false
set_option maxRecDepth 20000
attribute [local go_sem] Oper.semAt_some

theorem eql_nil {t e : TypeId} (h : Tryz.prog.underlying t = some (.slice e)) (a : Option Addr) (l c : Nat) (w : World) : (binOp .eql t (.slice a l c) (.slice none 0 0)).run Tryz.prog w = .ok (.bool a.isNone) w := by
  simp [binOp, run_equal_slice_nil w t e a l c h]
set_option maxRecDepth 100000 in
set_option maxHeartbeats 1000000 in
theorem clone_u32 (F : Fence) (n : Nat) (hall : ∀ k, F.fn k) (hro : F.round = none) (a : List Int) (Z : Fz) (A : Option Addr) (ca : Nat) (hRa : RL Z 1 Ru32 a (.slice A a.length ca)) (hla : a.length ≤ 1099511627776)
    (w : World) (hZ : ∀ x o, Z x = some o → w.heap[x]? = some o) :
    CallsIn F n Tryz.prog 148 #[.slice A a.length ca] w fun e W' => ∃ v, e = .returned v ∧ W'.ownsRow w.heap.size 59 1 v a.length (a.map (Value.int .u32)) ∧ Below w.heap.size w W' := by
  obtain ⟨i0, hi, hz0, hz1, hz2⟩ := info_parts info72
  obtain ⟨_, hca, hA⟩ := RL_cell hRa hZ
  refine callsIn_of_wp Tryz.func148 rfl (hall _) ?_ hro
  simp only [Tryz.ntmps148, List.size_toArray, List.length_cons, List.length_nil, Nat.reduceAdd, Nat.reduceSub, Array.replicate_succ, Array.replicate_zero, List.push_toArray, List.append_toArray, List.nil_append, List.cons_append]
  cases A with
  | none =>
    have ha : a = [] := by
      cases a with
      | nil => rfl
      | cons x r => obtain ⟨b, o, h, _⟩ := hA (by simp); cases h
    subst ha
    have hq := eql_nil Tryz.underlying23 none 0 ca
    simp only [List.length_nil, Option.isNone_none] at hq ⊢
    gi_wp2
    refine bodyPost_ret (results_tmp rfl _ _ _) rfl ?_
    exact ⟨_, rfl, World.ownsRow_nil _ _ _ _, Below.refl _ _⟩
  | some ad =>
    have hown : (w.alloc (.cells #[] 59)).ownsRow w.heap.size 59 1 (.slice (some ⟨w.heap.size, 0, none⟩) 0 0) 0 [] := ⟨rfl, .inr ⟨w.heap.size, 0, #[], rfl, Nat.le_refl _, World.alloc_heap_new w _, Nat.le_refl _, by decide, rfl, rfl⟩⟩
    have hc : ∀ j u, (a.map (Value.int .u32))[j]? = some u → (w.alloc (.cells #[] 59)).cell? (ad.add j) = some u := by
      intro j u hj
      have hjl : j < a.length := by
        by_cases h : j < a.length
        · exact h
        · rw [List.getElem?_eq_none (by simp; omega)] at hj; cases hj
      obtain ⟨b, o, h, h2⟩ := hA (by rintro rfl; simp at hjl)
      cases h
      have h3 := h2 j hjl
      rw [Addr_add]
      have hblk : b < w.heap.size := by
        by_cases hb : b < w.heap.size
        · exact hb
        · simp [World.cell?, show w.heap[b]? = none from by simp; omega] at h3
      rw [World.cell?_of_block (Below.heap_alloc w _ b hblk), h3]
      simp [List.getElem?_eq_getElem hjl] at hj
      simp [List.getD_eq_getElem?_getD, List.getElem?_eq_getElem hjl, hj]
    have hq := eql_nil Tryz.underlying23 (some ad) a.length ca
    simp only [Option.isNone_some] at hq
    gi_wp2_with (gi_at_builtin; refine wpListIn_append_own _ rfl _ _ 23 rfl w.heap.size 59 i0 (.int .u32 0) 1 4 Tryz.underlying23 hi hz0 hz1 hz2 rfl (by decide) _ _ _ rfl hown ad a.length ca (a.map (Value.int .u32)) rfl (by simp) hc (by intro u hu; simp at hu; obtain ⟨x, _, rfl⟩ := hu; rfl) (by simp [maxLen]; omega) (by omega) (by simp) ?_; intro v' w1 hown' hgrow _)
    refine bodyPost_ret (results_tmp rfl _ _ _) rfl ?_
    refine ⟨_, rfl, by simpa using hown', ?_⟩
    refine ((Below.refl _ w).alloc (Nat.le_refl _) _).grown hgrow (by simp) fun j ej => ?_
    simp [go_sem, Value.ownBlock] at ej
    omega

def ctClone32 : Ct := fun l => match l with
  | [.lst .u32 a] => some (a.length ≤ 1099511627776, .lst .u32 a)
  | _ => none
theorem ok148 : Sound Tryz.prog 148 ctClone32 := by
  refine ⟨⟨Tryz.f148, _, rfl, rfl, rfl⟩, ?_⟩
  intro l p r h hp w F args hF hv
  unfold ctClone32 at h
  split at h <;> cases h
  rename_i a
  obtain ⟨v1, r1, rfl, h1, rfl⟩ := hv
  obtain ⟨u1, e1, k1⟩ := (show ∃ u, [v1] = [u] ∧ RL F 1 Ru32 a u from h1)
  cases e1
  have o1 := okW_of_RL k1
  obtain ⟨A, ca, rfl, _⟩ := id k1
  refine Calls.mono (wide_calls (clone_u32 Fence.wide 5 (fun _ => trivial) rfl a F A ca k1 hp w hF)) ?_
  rintro e w' ⟨v, rfl, hrow, hB⟩
  obtain ⟨f1, f2, f3⟩ := Fz.all_ok hF hB
  refine ⟨F.all w w', v, f1, f2, f3, hB, rfl, ?_⟩
  exact (show ∃ u, [v] = [u] ∧ RL _ 1 Ru32 _ u from ⟨v, rfl, RL_of_owns hrow o1 (fun b hb => by simp only [Fz.all]; rw [if_neg (by omega)])⟩)
end Go.AE

/- By hand: step.rising, step.falling. -/
namespace Go.AE
open Go.Proofs Go.RowKit Go.Shelf
set_option linter.unusedVariables false
set_option linter.unusedSimpArgs false
set_option maxRecDepth 20000
attribute [local go_sem] Oper.semAt_some

set_option maxRecDepth 100000 in
set_option maxHeartbeats 1000000 in
theorem rising_in (F : Fence) (n : Nat) (hf : F.fn 68) (hro : F.round = none) (w : World) :
    CallsIn F n Tryz.prog 68 #[] w fun e w' => e = .returned (.agg #[.func (.func 103) #[] #[]]) ∧ Below w.heap.size w w' := by
  refine callsIn_of_wp Tryz.func68 rfl hf ?_ hro
  simp only [Tryz.ntmps68, List.size_toArray, List.length_cons, List.length_nil, Nat.reduceAdd, Nat.reduceSub, Array.replicate_succ, Array.replicate_zero, List.push_toArray, List.append_toArray, List.nil_append, List.cons_append]
  gi_wp2
  refine bodyPost_ret (v := .agg #[.func (.func 103) #[] #[]]) ?_ rfl ⟨rfl, (Below.refl _ w).alloc (Nat.le_refl _) _⟩
  simp [results, Tryz.f68, go_sem]
set_option maxRecDepth 100000 in
set_option maxHeartbeats 1000000 in
theorem falling_in (F : Fence) (n : Nat) (hf : F.fn 72) (hro : F.round = none) (w : World) :
    CallsIn F n Tryz.prog 72 #[] w fun e w' => e = .returned (.agg #[.func (.func 104) #[] #[]]) ∧ Below w.heap.size w w' := by
  refine callsIn_of_wp Tryz.func72 rfl hf ?_ hro
  simp only [Tryz.ntmps72, List.size_toArray, List.length_cons, List.length_nil, Nat.reduceAdd, Nat.reduceSub, Array.replicate_succ, Array.replicate_zero, List.push_toArray, List.append_toArray, List.nil_append, List.cons_append]
  gi_wp2
  refine bodyPost_ret (v := .agg #[.func (.func 104) #[] #[]]) ?_ rfl ⟨rfl, (Below.refl _ w).alloc (Nat.le_refl _) _⟩
  simp [results, Tryz.f72, go_sem]

def ctRise (g : Nat) : Ct := fun l => match l with
  | [] => some (True, .one (.func (.func g) #[] #[]))
  | _ => none
theorem ok68 : Sound Tryz.prog 68 (ctRise 103) := by
  refine ⟨⟨Tryz.f68, _, rfl, rfl, rfl⟩, ?_⟩
  intro l p r h hp w F args hF hv
  unfold ctRise at h
  split at h <;> cases h
  obtain rfl : args = [] := hv
  refine Calls.mono (wide_calls (rising_in Fence.wide 5 trivial rfl w)) ?_
  rintro e w' ⟨rfl, hB⟩
  obtain ⟨f1, f2, f3⟩ := Fz.all_ok hF hB
  exact ⟨F.all w w', _, f1, f2, f3, hB, rfl, (show ∃ cs, RC _ (.one (.func (.func 103) #[] #[])) cs ∧ Value.agg #[.func (.func 103) #[] #[]] = .agg cs.toArray from ⟨[_], ⟨rfl, rfl⟩, rfl⟩)⟩
theorem ok72 : Sound Tryz.prog 72 (ctRise 104) := by
  refine ⟨⟨Tryz.f72, _, rfl, rfl, rfl⟩, ?_⟩
  intro l p r h hp w F args hF hv
  unfold ctRise at h
  split at h <;> cases h
  obtain rfl : args = [] := hv
  refine Calls.mono (wide_calls (falling_in Fence.wide 5 trivial rfl w)) ?_
  rintro e w' ⟨rfl, hB⟩
  obtain ⟨f1, f2, f3⟩ := Fz.all_ok hF hB
  exact ⟨F.all w w', _, f1, f2, f3, hB, rfl, (show ∃ cs, RC _ (.one (.func (.func 104) #[] #[])) cs ∧ Value.agg #[.func (.func 104) #[] #[]] = .agg cs.toArray from ⟨[_], ⟨rfl, rfl⟩, rfl⟩)⟩
end Go.AE
