/- By hand: slices.Clone. -/
import Derived.Test.YtaeicclhopehaaaH7
import Derived.Laws.Cover3
namespace Go.AE
open Go.Proofs Go.RowKit Go.Shelf
set_option linter.unusedVariables false
set_option linter.unusedSimpArgs false
set_option maxRecDepth 20000
attribute [local go_sem] Oper.semAt_some

theorem eql_nil {t e : TypeId} (h : Try.prog.underlying t = some (.slice e)) (a : Option Addr) (l c : Nat) (w : World) : (binOp .eql t (.slice a l c) (.slice none 0 0)).run Try.prog w = .ok (.bool a.isNone) w := by
  simp [binOp, run_equal_slice_nil w t e a l c h]
set_option maxRecDepth 100000 in
set_option maxHeartbeats 1000000 in
theorem clone_u32 (F : Fence) (n : Nat) (hall : ∀ k, F.fn k) (hro : F.round = none) (a : List Int) (Z : Fz) (A : Option Addr) (ca : Nat) (hRa : RL Z 1 Ru32 a (.slice A a.length ca)) (hla : a.length ≤ 1099511627776)
    (w : World) (hZ : ∀ x o, Z x = some o → w.heap[x]? = some o) :
    CallsIn F n Try.prog 128 #[.slice A a.length ca] w fun e W' => ∃ v, e = .returned v ∧ W'.ownsRow w.heap.size 72 1 v a.length (a.map (Value.int .u32)) ∧ Below w.heap.size w W' := by
  obtain ⟨i0, hi, hz0, hz1, hz2⟩ := info_parts info72
  obtain ⟨_, hca, hA⟩ := RL_cell hRa hZ
  refine callsIn_of_wp Try.func128 rfl (hall _) ?_ hro
  simp only [Try.ntmps128, List.size_toArray, List.length_cons, List.length_nil, Nat.reduceAdd, Nat.reduceSub, Array.replicate_succ, Array.replicate_zero, List.push_toArray, List.append_toArray, List.nil_append, List.cons_append]
  cases A with
  | none =>
    have ha : a = [] := by
      cases a with
      | nil => rfl
      | cons x r => obtain ⟨b, o, h, _⟩ := hA (by simp); cases h
    subst ha
    have hq := eql_nil Try.underlying29 none 0 ca
    simp only [List.length_nil, Option.isNone_none] at hq ⊢
    gi_wp2
    refine bodyPost_ret (results_tmp rfl _ _ _) rfl ?_
    exact ⟨_, rfl, World.ownsRow_nil _ _ _ _, Below.refl _ _⟩
  | some ad =>
    have hown : (w.alloc (.cells #[] 72)).ownsRow w.heap.size 72 1 (.slice (some ⟨w.heap.size, 0, none⟩) 0 0) 0 [] := ⟨rfl, .inr ⟨w.heap.size, 0, #[], rfl, Nat.le_refl _, World.alloc_heap_new w _, Nat.le_refl _, by decide, rfl, rfl⟩⟩
    have hc : ∀ j u, (a.map (Value.int .u32))[j]? = some u → (w.alloc (.cells #[] 72)).cell? (ad.add j) = some u := by
      intro j u hj
      have hjl : j < a.length := by
        by_cases h : j < a.length
        · exact h
        · rw [List.getElem?_eq_none (by simp; omega)] at hj; cases hj
      obtain ⟨b, o, h, h2⟩ := hA (by rintro rfl; simp at hjl)
      cases h
      have h3 := h2 j hjl
      rw [Addr_add]
      have hblk : b < w.heap.size := by
        by_cases hb : b < w.heap.size
        · exact hb
        · simp [World.cell?, show w.heap[b]? = none from by simp; omega] at h3
      rw [World.cell?_of_block (Below.heap_alloc w _ b hblk), h3]
      simp [List.getElem?_eq_getElem hjl] at hj
      simp [List.getD_eq_getElem?_getD, List.getElem?_eq_getElem hjl, hj]
    have hq := eql_nil Try.underlying29 (some ad) a.length ca
    simp only [Option.isNone_some] at hq
    gi_wp2_with (gi_at_builtin; refine wpListIn_append_own _ rfl _ _ 29 rfl w.heap.size 72 i0 (.int .u32 0) 1 4 Try.underlying29 hi hz0 hz1 hz2 rfl (by decide) _ _ _ rfl hown ad a.length ca (a.map (Value.int .u32)) rfl (by simp) hc (by intro u hu; simp at hu; obtain ⟨x, _, rfl⟩ := hu; rfl) (by simp [maxLen]; omega) (by omega) (by simp) ?_; intro v' w1 hown' hgrow _)
    refine bodyPost_ret (results_tmp rfl _ _ _) rfl ?_
    refine ⟨_, rfl, by simpa using hown', ?_⟩
    refine ((Below.refl _ w).alloc (Nat.le_refl _) _).grown hgrow (by simp) fun j ej => ?_
    simp [go_sem, Value.ownBlock] at ej
    omega

def ctClone32 : Ct := fun l => match l with
  | [.lst .u32 a] => some (a.length ≤ 1099511627776, .lst .u32 a)
  | _ => none
theorem ok128 : Sound Try.prog 128 ctClone32 := by
  refine ⟨⟨Try.f128, _, rfl, rfl, rfl⟩, ?_⟩
  intro l p r h hp w F args hF hv
  unfold ctClone32 at h
  split at h <;> cases h
  rename_i a
  obtain ⟨v1, r1, rfl, h1, rfl⟩ := hv
  obtain ⟨u1, e1, k1⟩ := (show ∃ u, [v1] = [u] ∧ RL F 1 Ru32 a u from h1)
  cases e1
  have o1 := okW_of_RL k1
  obtain ⟨A, ca, rfl, _⟩ := id k1
  refine Calls.mono (wide_calls (clone_u32 Fence.wide 5 (fun _ => trivial) rfl a F A ca k1 hp w hF)) ?_
  rintro e w' ⟨v, rfl, hrow, hB⟩
  obtain ⟨f1, f2, f3⟩ := Fz.all_ok hF hB
  refine ⟨F.all w w', v, f1, f2, f3, hB, rfl, ?_⟩
  exact (show ∃ u, [v] = [u] ∧ RL _ 1 Ru32 _ u from ⟨v, rfl, RL_of_owns hrow o1 (fun b hb => by simp only [Fz.all]; rw [if_neg (by omega)])⟩)
end Go.AE
