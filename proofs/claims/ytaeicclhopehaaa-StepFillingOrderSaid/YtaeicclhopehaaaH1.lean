/- By hand: the iterator over two lists of words. -/
import Derived.RangeFuncBox
import Derived.RangeFuncLeaves
import Derived.WalkKit
import Derived.OwnWalkIn
import Derived.TacticsInMore
import Derived.LoopNIn
import Derived.LoopIn
import Derived.Maps.AppendAt
import Derived.Laws.EntriesVeiled
import Derived.Laws.AppendOwn
import Derived.Test.YtaeicclhopehaaaB0
import Derived.Test.YtaeicclhopehaaaB1
import Derived.Test.YtaeicclhopehaaaB2
namespace Go.AE
open Go.Proofs Go.RowKit
set_option linter.unusedVariables false
set_option linter.unusedSimpArgs false
attribute [local go_sem] Oper.semAt_some

abbrev encP (a b : List Int) (k : Nat) : Array Value := #[.int .u64 (a.getD k 0), .int .u64 (b.getD k 0)]

theorem RL_cell {F : Fz} {a : List Int} {A : Option Addr} {n c : Nat} (h : RL F 1 Ru32 a (.slice A n c)) {W : World} (hF : ∀ b o, F b = some o → W.heap[b]? = some o) :
    n = a.length ∧ n ≤ c ∧ (a ≠ [] → ∃ b off, A = some ⟨b, off, none⟩ ∧ ∀ i, i < a.length → W.cell? ⟨b, off + i, none⟩ = some (.int .u32 (a.getD i 0))) := by
  obtain ⟨A', c', h1, h2, h3⟩ := h
  cases h1
  refine ⟨rfl, h2, fun hne => ?_⟩
  obtain ⟨b, off, C, T, fr, rfl, h5, h6⟩ := h3 hne
  refine ⟨b, off, rfl, fun i hi => ?_⟩
  obtain ⟨cs, h7, ⟨rfl, h9⟩, h10⟩ := h6 i hi
  have := h10 0 (by decide)
  simp only [Nat.mul_one, Nat.add_zero] at this
  simp only [World.cell?, hF b _ h5, this]
  simp [List.getD_eq_getElem?_getD, List.getElem?_eq_getElem hi]

/-- What the iterator reads. -/
structure RD (F : Fz) (ba bb : Nat) (va vb : Value) (W : World) : Prop where
  a : Boxed W ba 29 va
  b : Boxed W bb 29 vb
  f : ∀ x o, F x = some o → W.heap[x]? = some o
/-- What a round must keep. -/
def KP (F : Fz) (ba bb : Nat) (va vb : Value) (W W' : World) : Prop := RD F ba bb va vb W → RD F ba bb va vb W'
theorem KP.t {F : Fz} {ba bb : Nat} {va vb : Value} {A B C : World} (h : KP F ba bb va vb A B) (k : KP F ba bb va vb B C) : KP F ba bb va vb A C := fun x => k (h x)
theorem RD.kept {F : Fz} {ba bb : Nat} {va vb : Value} {W W' : World} {row : Option Nat} (h : RD F ba bb va vb W) (hg : W.grownBy W' row) (h1 : some ba ≠ row) (h2 : some bb ≠ row) (h3 : ∀ x o, F x = some o → some x ≠ row) : RD F ba bb va vb W' :=
  ⟨h.a.kept hg h1, h.b.kept hg h2, fun x o e => (hg.block x (Array.getElem?_eq_some_iff.1 (h.f x o e)).1 (h3 x o e)).trans (h.f x o e)⟩
theorem RD.below {F : Fz} {ba bb : Nat} {va vb : Value} {n₀ : Nat} {W W' : World} (h : RD F ba bb va vb W) (hB : Below n₀ W W') (ha : ba < n₀) (hb : bb < n₀) (hF : ∀ x o, F x = some o → x < n₀) : RD F ba bb va vb W' :=
  ⟨(hB.block ba ha).trans h.a, (hB.block bb hb).trans h.b, fun x o e => (hB.block x (hF x o e)).trans (h.f x o e)⟩

set_option maxRecDepth 100000 in
set_option maxHeartbeats 2000000 in
theorem pairs1_in (F : Fence) (n : Nat) (hf : F.fn 155) (hro : F.round = none) (hn : 1 ≤ n) (l ba bb : Nat) (a b : List Int) (Z : Fz) (va vb : Value) (hRa : RL Z 1 Ru32 a va) (hRb : RL Z 1 Ru32 b vb) (hla : a.length ≤ 1099511627776) (hlb : b.length ≤ 1099511627776)
    (J Jx : List Nat → World → Prop)
    (hY : ∀ pre x W, J pre W → pre.length < max a.length b.length → YieldAt F (n - 1) Try.prog l (encP a b x) W fun e W' =>
      (e = .returned (.bool true) ∧ J (pre ++ [x]) W' ∧ KP Z ba bb va vb W W') ∨ (e = .returned (.bool false) ∧ Jx (pre ++ [x]) W'))
    (W : World) (hW : RD Z ba bb va vb W) (h0 : J [] W) :
    CallsIn F n Try.prog 155 #[.func (.yield l) #[] #[], .pointer (some ⟨ba, 0, none⟩), .pointer (some ⟨bb, 0, none⟩)] W fun e W' => (∃ v, e = .returned v) ∧
      ((∃ ys, ys = List.range (max a.length b.length) ∧ J ys W') ∨ (∃ pre, True ∧ Jx pre W')) := by
  have oka := okW_of_RL hRa
  have okb := okW_of_RL hRb
  obtain ⟨A, ca, rfl, hca, hA⟩ := id hRa
  obtain ⟨B, cb, rfl, hcb, hB⟩ := id hRb
  refine callsIn_of_wp Try.func155 rfl hf ?_ hro
  simp only [Try.ntmps155, List.size_toArray, List.length_cons, List.length_nil, Nat.reduceAdd, Nat.reduceSub, Array.replicate_succ, Array.replicate_zero, List.push_toArray, List.append_toArray, List.nil_append, List.cons_append]
  have e1 := hW.a.cell
  have e2 := hW.b.cell
  obtain ⟨M, hM⟩ : ∃ M, M = max a.length b.length := ⟨_, rfl⟩
  rw [← hM] at hY ⊢
  gi_wp2
  all_goals
    gi_loopw [12] (fun p wr => ∃ i : Nat, p = .int .i64 (i : Int) ∧ i ≤ M ∧ RD Z ba bb (.slice A a.length ca) (.slice B b.length cb) wr ∧ J (List.range i) wr)
      (fun p wr => M - (intOf p).toNat)
    case atStart => exact ⟨0, rfl, Nat.zero_le _, hW, h0⟩
    case round =>
      obtain ⟨i, rfl, hi, hR, hJ⟩ := hrel
      have e3 := hR.a.cell
      have e4 := hR.b.cell
      have hx := okW_getD oka i
      have hy := okW_getD okb i
      have hwx : IntKind.u64.wrap (a.getD i 0) = a.getD i 0 := wrapu64 (by omega) (by omega)
      have hwy : IntKind.u64.wrap (b.getD i 0) = b.getD i 0 := wrapu64 (by omega) (by omega)
      have HS : Hid (List.range (i + 1) = List.range i ++ [i]) := List.range_succ
      generalize hxa : a.getD i 0 = xa at *
      generalize hyb : b.getD i 0 = yb at *
      by_cases hiM : i < M
      · obtain ⟨fn, tmps, assign, body, hyl, hRd⟩ := hY _ i wr hJ (by rw [List.length_range]; omega)
        simp only [encP, hxa, hyb] at hyl
        by_cases hia : i < a.length <;> by_cases hib : i < b.length
        · first | (exfalso; clear hY; omega) | (
          obtain ⟨b1, o1, rfl, hA1⟩ := (RL_cell hRa hR.f).2.2 (by rintro rfl; simp at hia)
          have hA2 := hA1 i hia
          rw [hxa] at hA2
          have g1 : (i : Int) < a.length := by omega
          obtain ⟨b2, o2, rfl, hB1⟩ := (RL_cell hRb hR.f).2.2 (by rintro rfl; simp at hib)
          have hB2 := hB1 i hib
          rw [hyb] at hB2
          have g2 : (i : Int) < b.length := by omega
          have g3 : ¬ (i : Int) < 0 := by omega
          clear hM hx hy hxa hyb hY hia hib hA hB hA1 hB1
          gi_wp2
          refine hRd.mono ?_
          rintro e W3 (⟨rfl, hJ3, hk3⟩ | ⟨rfl, hJx3⟩)
          · have hR3 := hk3 hR
            gi_wp2
            go_roundw
            case rel => exact ⟨i + 1, rfl, hiM, hR3, by rw [HS.out]; exact hJ3⟩
            case measure => simp only [intOf]; simp; omega
          · gi_wp2
            refine bodyPost_ret (results_none rfl _ _ _) rfl ?_
            exact ⟨⟨_, rfl⟩, .inr ⟨_, trivial, hJx3⟩⟩
          )
        · first | (exfalso; clear hY; omega) | (
          obtain ⟨b1, o1, rfl, hA1⟩ := (RL_cell hRa hR.f).2.2 (by rintro rfl; simp at hia)
          have hA2 := hA1 i hia
          rw [hxa] at hA2
          have g1 : (i : Int) < a.length := by omega
          obtain rfl : yb = 0 := by rw [← hyb]; simp [List.getD_eq_getElem?_getD, List.getElem?_eq_none (Nat.le_of_not_lt hib)]
          have g2 : ¬ (i : Int) < b.length := by omega
          have g3 : ¬ (i : Int) < 0 := by omega
          clear hM hx hy hxa hyb hY hia hib hA hB hA1
          gi_wp2
          refine hRd.mono ?_
          rintro e W3 (⟨rfl, hJ3, hk3⟩ | ⟨rfl, hJx3⟩)
          · have hR3 := hk3 hR
            gi_wp2
            go_roundw
            case rel => exact ⟨i + 1, rfl, hiM, hR3, by rw [HS.out]; exact hJ3⟩
            case measure => simp only [intOf]; simp; omega
          · gi_wp2
            refine bodyPost_ret (results_none rfl _ _ _) rfl ?_
            exact ⟨⟨_, rfl⟩, .inr ⟨_, trivial, hJx3⟩⟩
          )
        · first | (exfalso; clear hY; omega) | (
          obtain rfl : xa = 0 := by rw [← hxa]; simp [List.getD_eq_getElem?_getD, List.getElem?_eq_none (Nat.le_of_not_lt hia)]
          have g1 : ¬ (i : Int) < a.length := by omega
          obtain ⟨b2, o2, rfl, hB1⟩ := (RL_cell hRb hR.f).2.2 (by rintro rfl; simp at hib)
          have hB2 := hB1 i hib
          rw [hyb] at hB2
          have g2 : (i : Int) < b.length := by omega
          have g3 : ¬ (i : Int) < 0 := by omega
          clear hM hx hy hxa hyb hY hia hib hA hB hB1
          gi_wp2
          refine hRd.mono ?_
          rintro e W3 (⟨rfl, hJ3, hk3⟩ | ⟨rfl, hJx3⟩)
          · have hR3 := hk3 hR
            gi_wp2
            go_roundw
            case rel => exact ⟨i + 1, rfl, hiM, hR3, by rw [HS.out]; exact hJ3⟩
            case measure => simp only [intOf]; simp; omega
          · gi_wp2
            refine bodyPost_ret (results_none rfl _ _ _) rfl ?_
            exact ⟨⟨_, rfl⟩, .inr ⟨_, trivial, hJx3⟩⟩
          )
        · first | (exfalso; clear hY; omega) | (
          obtain rfl : xa = 0 := by rw [← hxa]; simp [List.getD_eq_getElem?_getD, List.getElem?_eq_none (Nat.le_of_not_lt hia)]
          have g1 : ¬ (i : Int) < a.length := by omega
          obtain rfl : yb = 0 := by rw [← hyb]; simp [List.getD_eq_getElem?_getD, List.getElem?_eq_none (Nat.le_of_not_lt hib)]
          have g2 : ¬ (i : Int) < b.length := by omega
          have g3 : ¬ (i : Int) < 0 := by omega
          clear hM hx hy hxa hyb hY hia hib hA hB
          gi_wp2
          refine hRd.mono ?_
          rintro e W3 (⟨rfl, hJ3, hk3⟩ | ⟨rfl, hJx3⟩)
          · have hR3 := hk3 hR
            gi_wp2
            go_roundw
            case rel => exact ⟨i + 1, rfl, hiM, hR3, by rw [HS.out]; exact hJ3⟩
            case measure => simp only [intOf]; simp; omega
          · gi_wp2
            refine bodyPost_ret (results_none rfl _ _ _) rfl ?_
            exact ⟨⟨_, rfl⟩, .inr ⟨_, trivial, hJx3⟩⟩
          )
      · have e5 : i = M := by omega
        have g1 : ¬ (i : Int) < b.length ∧ ¬ (i : Int) < a.length := by omega
        have HT : Hid (List.range i = List.range M) := by rw [e5]; rfl
        have g2 := g1.1
        have g4 := g1.2
        clear hM hx hy hxa hyb hY hA hB e5 g1
        gi_wp2
        go_end0
        exact ⟨⟨_, rfl⟩, .inl (HT.out ▸ hJ)⟩
end Go.AE
