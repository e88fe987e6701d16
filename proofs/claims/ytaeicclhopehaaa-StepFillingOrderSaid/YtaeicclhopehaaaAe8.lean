/- Operation by operation: append; then all of them. -/
import Derived.Test.YtaeicclhopehaaaAe7
namespace Go.AE
open Go.RowKit
set_option linter.unusedVariables false

section
variable {P : Program} {ti : TI} {w0 : World} {F0 : Fz} {U : Nat → Prop} {m : MM} {F : Fz} {G : Gm} {w : World}

/-- A slice of the call's own, as it stands: nil, or a block's beginning. -/
def OwnSl (n0 : Nat) (F : Fz) (k : K) (e : TypeId) (l : List k.T) (v : Value) (w : World) : Prop :=
  (v = .slice none 0 0 ∧ l = []) ∨ ∃ g c C, v = .slice (some ⟨g, 0, none⟩) l.length c ∧ n0 ≤ g ∧ w.heap[g]? = some (.cells C e (0, 0)) ∧ l.length ≤ c ∧ C.size = c * k.es ∧ c ≤ maxLen ∧ RowIn F k l C

theorem append_core (ok : TIOk P ti) {t e : TypeId} {k : K} (hk : ti.ek t = some (e, k)) {n0 : Nat} (hn0 : n0 ≤ w.heap.size) (hfit : ∀ b o, F b = some o → w.heap[b]? = some o) {v : Value} {l1 l2 : List k.T} (hown : OwnSl n0 F k e l1 v w) {vx : Value} (hx : RC F (.lst k l2) [vx])
    (hlen : (l1.length + l2.length) * k.bytes ≤ 140737488355328) (ty : TypeId) : ∃ v' w', (Builtin.append_ #[t, t] ty #[v, vx]).run P w = .ok v' w' ∧ OwnSl n0 F k e (l1 ++ l2) v' w' ∧ w.grownBy w' v.ownBlock ∧ (v' = .slice none 0 0 → w' = w ∧ v = v') ∧ (v'.ownBlock = v.ownBlock ∨ v'.ownBlock = some w.heap.size) := by
  obtain ⟨hu, i, z, hi, hz, hs, hb, hzs, hzk⟩ := ok.ek t e k hk
  obtain ⟨v', e1, A, c2, h1, h2, h3⟩ := hx
  cases e1
  by_cases hl2 : l2 = []
  · subst hl2
    subst h1
    have h0 : ∀ a : Addr, (loadCells a 0).run P w = .ok #[] w := fun a => by simp [loadCells, loadCellsFrom]
    have hrun : (Builtin.append_ #[t, t] ty #[v, .slice A 0 c2]).run P w = .ok v w := by
      rcases hown with ⟨rfl, _⟩ | ⟨g, c, C, rfl, _, _, hc, _⟩
      · cases A <;> simp [Builtin.append_, run_underlying hu, sizeOf, typeInfo, hi, Builtin.lenOf, Builtin.firstCells, h0]
      · cases A <;> simp [Builtin.append_, run_underlying hu, sizeOf, typeInfo, hi, Builtin.lenOf, Builtin.firstCells, hc, storeCells, h0]
    exact ⟨v, w, hrun, by simpa using hown, World.grownBy.refl w _, fun _ => ⟨rfl, rfl⟩, .inl rfl⟩
  · obtain ⟨b, off, C2, T2, fr, rfl, h5, h6⟩ := h3 hl2
    subst h1
    have hes := k.es_pos
    have hby := k.bytes_pos
    have hsmall : l1.length + l2.length ≤ 140737488355328 := Nat.le_trans (Nat.le_mul_of_pos_right _ hby) hlen
    -- the old cells
    obtain ⟨xs, hxs, hxo⟩ : ∃ xs, w.ownsRow n0 e k.es v l1.length xs ∧ ∀ i (h : i < l1.length), ∃ cs, cs.length = k.es ∧ RK F k l1[i] cs ∧ ∀ j, j < k.es → xs[i * k.es + j]? = cs[j]? := by
      rcases hown with ⟨rfl, rfl⟩ | ⟨g, c, C, rfl, hg, hh, hc, hC, hm', hr⟩
      · exact ⟨[], ⟨by simp, .inl ⟨rfl, rfl⟩⟩, fun i h => by simp at h⟩
      · have hle : l1.length * k.es ≤ C.size := by rw [hC]; exact Nat.mul_le_mul_right _ hc
        refine ⟨C.toList.take (l1.length * k.es), ⟨by simp; omega, .inr ⟨g, c, C, rfl, hg, hh, hc, hm', hC, rfl⟩⟩, fun i h => ?_⟩
        obtain ⟨cs, a1, a2, a3⟩ := hr i h
        refine ⟨cs, a1, a2, fun j hj => ?_⟩
        have : i * k.es + j < l1.length * k.es := by
          have : (i + 1) * k.es ≤ l1.length * k.es := Nat.mul_le_mul_right _ h
          rw [Nat.add_mul] at this; omega
        rw [List.getElem?_take_of_lt this, ← a3 j hj]; simp
    -- the new cells
    have hgetN : ∀ p, p < l2.length * k.es → ∃ y, C2[off + p]? = some y ∧ plainV y = true := by
      intro p hp
      have hq : p / k.es < l2.length := (Nat.div_lt_iff_lt_mul hes).2 hp
      obtain ⟨cs, a1, a2, a3⟩ := h6 (p / k.es) hq
      have hmod := Nat.mod_lt p hes
      have := a3 (p % k.es) hmod
      rw [Nat.add_assoc, show p / k.es * k.es + p % k.es = p from by rw [Nat.mul_comm]; exact Nat.div_add_mod p k.es] at this
      rw [this, List.getElem?_eq_getElem (by omega)]
      exact ⟨_, rfl, RK.plain a2 _ (List.getElem_mem _)⟩
    have hC2 : off + l2.length * k.es ≤ C2.size := by
      have hpos : 0 < l2.length := List.length_pos_iff.2 hl2
      have hpos2 : 0 < l2.length * k.es := Nat.mul_pos hpos hes
      obtain ⟨y, hy, _⟩ := hgetN (l2.length * k.es - 1) (by omega)
      have := (Array.getElem?_eq_some_iff.1 hy).1
      omega
    have hnl : ((C2.toList.drop off).take (l2.length * k.es)).length = l2.length * k.es := by simp; omega
    have hng : ∀ p, p < l2.length * k.es → ((C2.toList.drop off).take (l2.length * k.es))[p]? = C2[off + p]? := fun p hp => by
      rw [List.getElem?_take_of_lt hp, List.getElem?_drop]; simp
    have hcell : ∀ j u, ((C2.toList.drop off).take (l2.length * k.es))[j]? = some u → w.cell? ((⟨b, off, none⟩ : Addr).add j) = some u := by
      intro j u hj
      have hlt : j < l2.length * k.es := by have := (List.getElem?_eq_some_iff.1 hj).1; omega
      rw [hng j hlt] at hj
      rw [Addr_add]
      simp [World.cell?, hfit _ _ h5, hj]
    have hone : ∀ u ∈ (C2.toList.drop off).take (l2.length * k.es), u.oneCell' = true := by
      intro u hu'
      obtain ⟨j, hj⟩ := List.mem_iff_getElem?.1 hu'
      have hlt : j < l2.length * k.es := by have := (List.getElem?_eq_some_iff.1 hj).1; omega
      rw [hng j hlt] at hj
      obtain ⟨y, hy, hpl⟩ := hgetN j hlt
      rw [hj] at hy; cases hy
      exact plain_one hpl
    obtain ⟨v', w', hr, h7, h8, h9, h10⟩ := run_append_own_at (P := P) (w := w) n0 t ty e i z k.es k.bytes hu hi hz hs hb hzs hes v l1.length xs hxs ⟨b, off, none⟩ l2.length c2 _ hnl hcell hone (by simp only [maxLen]; omega) hlen hn0
    refine ⟨v', w', hr, ?_, h8, fun hn => absurd (h9.1 hn).2 (by simp [hl2]), h10⟩
    rcases h7.2 with ⟨_, hz0⟩ | ⟨g, cap, cur, hv', hg, hh, hc, hm', hC, htk⟩
    · exact absurd hz0 (by have : 0 < l2.length := List.length_pos_iff.2 hl2; omega)
    · refine .inr ⟨g, cap, cur, by rw [hv']; simp, hg, hh, by simpa using hc, hC, hm', fun q hq => ?_⟩
      have hxl := hxs.1
      have hcur : ∀ p, p < (l1.length + l2.length) * k.es → cur[p]? = (xs ++ (C2.toList.drop off).take (l2.length * k.es))[p]? := fun p hp => by
        rw [← htk, List.getElem?_take_of_lt hp]; simp
      have hq' : q < l1.length + l2.length := by simpa using hq
      have hin : ∀ j, j < k.es → q * k.es + j < (l1.length + l2.length) * k.es := fun j hj => by
        have : (q + 1) * k.es ≤ (l1.length + l2.length) * k.es := Nat.mul_le_mul_right _ hq'
        rw [Nat.add_mul] at this; omega
      by_cases hq1 : q < l1.length
      · obtain ⟨cs, a1, a2, a3⟩ := hxo q hq1
        refine ⟨cs, a1, by simpa [List.getElem_append_left hq1] using a2, fun j hj => ?_⟩
        have hlt : q * k.es + j < xs.length := by
          have : (q + 1) * k.es ≤ l1.length * k.es := Nat.mul_le_mul_right _ hq1
          rw [Nat.add_mul] at this; omega
        rw [hcur _ (hin j hj), List.getElem?_append_left hlt]
        exact a3 j hj
      · obtain ⟨cs, a1, a2, a3⟩ := h6 (q - l1.length) (by omega)
        refine ⟨cs, a1, by rw [List.getElem_append_right (by omega)]; exact a2, fun j hj => ?_⟩
        have hge : xs.length ≤ q * k.es + j := by
          have : l1.length * k.es ≤ q * k.es := Nat.mul_le_mul_right _ (by omega)
          omega
        have hsub : q * k.es + j - xs.length = (q - l1.length) * k.es + j := by
          rw [Nat.sub_mul]
          have : l1.length * k.es ≤ q * k.es := Nat.mul_le_mul_right _ (by omega)
          omega
        have hlt2 : (q - l1.length) * k.es + j < l2.length * k.es := by
          have : (q - l1.length + 1) * k.es ≤ l2.length * k.es := Nat.mul_le_mul_right _ (by omega)
          rw [Nat.add_mul] at this; omega
        rw [hcur _ (hin j hj), List.getElem?_append_right hge, hsub, hng _ hlt2, ← a3 j hj, Nat.add_assoc]

theorem MM.upd_append (m : MM) : ∀ (a b : Ws), m.upd (a ++ b) = (m.upd a).upd b := by
  intro a
  induction a generalizing m with
  | nil => intro b; rfl
  | cons x a ih => intro b; exact ih _ b

/-- A slice that has been appended to is entry nid. -/
theorem adopt_sl (hm : Mem w0 F0 U m F G w) {nid : Nat} (hnid : ¬ U nid) {k : K} {e : TypeId} {l : List k.T} {v v' : Value} {w' : World} (h : OwnSl w0.heap.size F k e l v' w') (hg : w.grownBy w' v.ownBlock) (hn : v' = .slice none 0 0 → w' = w)
    (hat : v'.ownBlock = v.ownBlock ∨ v'.ownBlock = some w.heap.size) (hF : ∀ g, v.ownBlock = some g → F g = none ∧ w0.heap.size ≤ g ∧ g < w.heap.size) (hfree : ∀ g i e c, v.ownBlock = some g → m i = some e → G i = some (some (g, c)) → False) :
    ∃ G', G.le G' ∧ RV F G' (.row nid) v' ∧ Mem w0 F0 (fun i => U i ∨ i = nid) (m.set nid (some (.row e k l false))) F G' w' := by
  rcases h with ⟨rfl, rfl⟩ | ⟨g, c, C, rfl, h1, h2, h3, h4, h5, h6⟩
  · obtain rfl := hn rfl
    exact ⟨_, Gm.le_set (hm.fresh _ hnid), .inl ⟨G.set_same _ _, rfl⟩, hm.adoptNil hnid e k⟩
  · have hb : Below w0.heap.size w0 w' := hm.below.grown hg hm.below.size (fun k hk => (hF k hk).2.1)
    have hgF : F g = none := by
      rcases hat with hat | hat
      · exact (hF g (by rw [← hat]; rfl)).1
      · have : g = w.heap.size := by simpa [Value.ownBlock] using hat
        cases hFg : F g with
        | none => rfl
        | some o => exact absurd (hm.lt hFg) (by omega)
    have hfr : ∀ i e c, m i = some e → G i = some (some (g, c)) → False := fun i e c hi hG => by
      rcases hat with hat | hat
      · exact hfree g i e c (by rw [← hat]; rfl) hi hG
      · have : g = w.heap.size := by simpa [Value.ownBlock] using hat
        have := ((hm.own i e hi).lt hG).2
        omega
    have hold : ∀ b, b ≠ g → b < w.heap.size → ((∃ o, F b = some o) ∨ ∃ i e c, m i = some e ∧ G i = some (some (b, c))) → w'.heap[b]? = w.heap[b]? := fun b hbg hlt hown => by
      refine hg.block b hlt ?_
      intro e1
      rcases hown with ⟨o, ho⟩ | ⟨i, e, c, hi, hG⟩
      · rw [(hF b e1.symm).1] at ho; cases ho
      · exact hfree b i e c e1.symm hi hG
    exact ⟨_, Gm.le_set (hm.fresh _ hnid), .inr ⟨g, (c, l.length), G.set_same _ _, rfl⟩, hm.adopt hnid (c, l.length) _ hb hgF hold hfr (.inr ⟨g, (c, l.length), C, G.set_same _ _, h1, by simpa using hgF, h2, rfl, h3, h4, h5, h6⟩)⟩
theorem append_run (ok : TIOk P ti) (hm : Mem w0 F0 U m F G w) {nid : Nat} (hnid : ¬ U nid) {t : TypeId} {s x : AV} {p : Prop} {r : AV} {ws : Ws} (h : appEff ti m nid t s x = some (p, r, ws)) (hp : p) {vs vx : Value} (hs : RV F G s vs) (hx : RV F G x vx) (ty : TypeId) :
    ∃ v w', (Builtin.append_ #[t, t] ty #[vs, vx]).run P w = .ok v w' ∧ After w0 F0 U m F G nid r ws v w' := by
  unfold appEff at h
  split at h
  · cases h
  · rename_i e k hk
    split at h
    · cases h
    · rename_i x' ws' hpub
      obtain ⟨F1, hF1, hm1, hx1⟩ := pub_ok hpub hm hx
      have hx2 := nilAV_ok (ti := ti) (t := t) hx1
      split at h
      · rename_i k' l2' hnil
        rw [hnil] at hx2
        split at h
        · cases h
        · rename_i l2 hcast
          unfold castL at hcast
          split at hcast
          · rename_i ek
            subst ek
            simp only [Option.some.injEq] at hcast
            subst hcast
            split at h
            · -- nil
              simp only [Option.some.injEq, Prod.mk.injEq] at h
              obtain ⟨rfl, rfl, rfl⟩ := h
              obtain ⟨rfl, _⟩ := RV_v hs
              obtain ⟨v', w', h1, h2, h3, h4, h5⟩ := append_core (l1 := []) ok hk hm1.below.size hm1.fit (.inl ⟨rfl, rfl⟩) hx2 (by simpa using hp) ty
              obtain ⟨G', h6, h7, h8⟩ := adopt_sl hm1 hnid h2 h3 (fun e => (h4 e).1) h5 (fun g hg => by cases hg) (fun g i e c hg => by cases hg)
              exact ⟨v', w', h1, F1, G', hF1, h6, h7, by rw [MM.upd_append]; exact h8⟩
            · rename_i id
              split at h
              · rename_i T k1 l1' h0
                split at h
                · cases h
                · rename_i l1 hcast1
                  unfold castL at hcast1
                  split at hcast1
                  · rename_i ek1
                    subst ek1
                    simp only [Option.some.injEq] at hcast1
                    subst hcast1
                    split at h
                    · rename_i eT
                      subst eT
                      simp only [Option.some.injEq, Prod.mk.injEq] at h
                      obtain ⟨rfl, rfl, rfl⟩ := h
                      have hs1 := hs.mono hF1 (Gm.le.refl G)
                      have hsl : OwnSl w0.heap.size F1 k1 T l1' vs w ∧ (∀ g, vs.ownBlock = some g → F1 g = none ∧ w0.heap.size ≤ g ∧ g < w.heap.size ∧ ∃ c, G id = some (some (g, c))) := by
                        rcases hm1.own id _ h0 with ⟨a1, a2⟩ | ⟨g, c, C, a1, a2, a3, a4, hq, a5, a6, a7, a9⟩
                        · rcases hs1 with ⟨_, rfl⟩ | ⟨g, c, e1, _⟩
                          · exact ⟨.inl ⟨rfl, a2⟩, fun g hg => by cases hg⟩
                          · rw [a1] at e1; cases e1
                        · rcases hs1 with ⟨e1, _⟩ | ⟨g', c', e1, rfl⟩
                          · rw [a1] at e1; cases e1
                          · have e2 := a1.symm.trans e1
                            simp only [Option.some.injEq, Prod.mk.injEq] at e2
                            obtain ⟨rfl, rfl⟩ := e2
                            refine ⟨.inr ⟨g, c.1, C, by rw [hq], a2, a4, a5, a6, a7, a9⟩, fun g2 hg2 => ?_⟩
                            have : g = g2 := by simpa [Value.ownBlock] using hg2
                            subst this
                            exact ⟨by simpa using a3, a2, (Array.getElem?_eq_some_iff.1 a4).1, c, a1⟩
                      obtain ⟨v', w', h1, h2, h3, h4, h5⟩ := append_core ok hk hm1.below.size hm1.fit hsl.1 hx2 hp ty
                      have hm2 := hm1.drop id
                      obtain ⟨G', h6, h7, h8⟩ := adopt_sl hm2 hnid h2 h3 (fun e => (h4 e).1) h5 (fun g hg => ⟨(hsl.2 g hg).1, (hsl.2 g hg).2.1, (hsl.2 g hg).2.2.1⟩) (fun g i e c hg hi hG => by
                        simp only [MM.set] at hi
                        split at hi
                        · cases hi
                        · rename_i hne
                          obtain ⟨_, _, _, c2, hG2⟩ := hsl.2 g hg
                          exact hne (hm1.inj i id _ _ g c c2 hi h0 hG hG2))
                      exact ⟨v', w', h1, F1, G', hF1, h6, h7, by rw [MM.upd_append]; exact h8⟩
                    · cases h
                  · cases hcast1
              · cases h
            · cases h
          · cases hcast
      · cases h
end
end Go.AE
