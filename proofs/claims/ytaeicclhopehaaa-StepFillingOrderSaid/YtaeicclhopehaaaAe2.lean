/- The call's own blocks: what they hold, abstractly; how the memory stands to that; steps that keep it. -/
import Derived.Test.YtaeicclhopehaaaAe1
namespace Go.AE
open Go.RowKit
set_option linter.unusedVariables false

inductive Ent where
  | box (T : TypeId) (a : AV)
  | row (T : TypeId) (k : K) (l : List k.T) (fz : Bool)

abbrev MM := Nat → Option Ent
def MM.set (m : MM) (id : Nat) (e : Option Ent) : MM := fun i => if i = id then e else m i
def MM.upd (m : MM) : List (Nat × Option Ent) → MM
  | [] => m
  | p :: r => MM.upd (m.set p.1 p.2) r

/-- The elements of a row stand in its block. -/
def RowIn (F : Fz) (k : K) (l : List k.T) (C : Array Value) : Prop :=
  ∀ i (h : i < l.length), ∃ cs, cs.length = k.es ∧ RK F k l[i] cs ∧ ∀ j, j < k.es → C[i * k.es + j]? = cs[j]?

def OwnOk (n0 : Nat) (F : Fz) (G : Gm) (w : World) (id : Nat) : Ent → Prop
  | .box T a => ∃ g cs, G id = some (some (g, 0, 0)) ∧ n0 ≤ g ∧ F g = none ∧ w.heap[g]? = some (.cells (List.toArray cs) T (0, 0)) ∧ RC F a cs
  | .row T k l fz => (G id = some none ∧ l = []) ∨ ∃ g c C, G id = some (some (g, c)) ∧ n0 ≤ g ∧ F g = (if fz = true then some (.cells C T (0, 0)) else none) ∧ w.heap[g]? = some (.cells C T (0, 0)) ∧
      c.2 = l.length ∧ l.length ≤ c.1 ∧ C.size = c.1 * k.es ∧ c.1 ≤ maxLen ∧ RowIn F k l C

/-- How the memory stands: F stays and lies there; the own entries stand at G. -/
structure Mem (w0 : World) (F0 : Fz) (U : Nat → Prop) (m : MM) (F : Fz) (G : Gm) (w : World) : Prop where
  le0 : F0.le F
  old : ∀ b, b < w0.heap.size → F b = F0 b
  fit : ∀ b o, F b = some o → w.heap[b]? = some o
  below : Below w0.heap.size w0 w
  own : ∀ id e, m id = some e → OwnOk w0.heap.size F G w id e
  inj : ∀ id id' e e' g c c', m id = some e → m id' = some e' → G id = some (some (g, c)) → G id' = some (some (g, c')) → id = id'
  fresh : ∀ id, ¬ U id → G id = none

theorem Mem.wider {w0 : World} {F0 : Fz} {U U' : Nat → Prop} {m : MM} {F : Fz} {G : Gm} {w : World} (h : Mem w0 F0 U m F G w) (hU : ∀ i, U i → U' i) : Mem w0 F0 U' m F G w :=
  { h with fresh := fun id hid => h.fresh id (fun hu => hid (hU id hu)) }
theorem Mem.drew {w0 : World} {F0 : Fz} {U : Nat → Prop} {m : MM} {F : Fz} {G : Gm} {w : World} (h : Mem w0 F0 U m F G w) : Mem w0 F0 U m F G { w with drawn := w.drawn + 1 } :=
  ⟨h.le0, h.old, h.fit, h.below.drew, fun id e he => by
    have := h.own id e he
    cases e <;> exact this, h.inj, h.fresh⟩

/-- Nothing has happened. -/
theorem Mem.lt {w0 : World} {F0 : Fz} {U : Nat → Prop} {m : MM} {F : Fz} {G : Gm} {w : World} (h : Mem w0 F0 U m F G w) {b : Nat} {o : Obj} (hb : F b = some o) : b < w.heap.size :=
  (Array.getElem?_eq_some_iff.1 (h.fit b o hb)).1

theorem RowIn.mono {F F' : Fz} (hF : F.le F') {k : K} {l : List k.T} {C : Array Value} (h : RowIn F k l C) : RowIn F' k l C := fun i hi => by
  obtain ⟨cs, h1, h2, h3⟩ := h i hi
  exact ⟨cs, h1, h2.mono hF, h3⟩

/-- An entry under more that stays, in a world that has its block as it was. -/
theorem OwnOk.kept {n0 : Nat} {F F' : Fz} {G G' : Gm} {w w' : World} {id : Nat} {e : Ent} (h : OwnOk n0 F G w id e) (hF : F.le F') (hG : G.le G')
    (hw : ∀ g c, G id = some (some (g, c)) → w'.heap[g]? = w.heap[g]? ∧ F' g = F g) : OwnOk n0 F' G' w' id e := by
  cases e with
  | box T a =>
    obtain ⟨g, cs, h1, h2, h3, h4, h5⟩ := h
    obtain ⟨h6, h7⟩ := hw g (0, 0) h1
    exact ⟨g, cs, hG _ _ h1, h2, by rw [h7]; exact h3, by rw [h6]; exact h4, h5.mono hF⟩
  | row T k l fz =>
    rcases h with ⟨h1, h2⟩ | ⟨g, c, C, h1, h2, h3, h4, hq, h5, h6, h7, h9⟩
    · exact .inl ⟨hG _ _ h1, h2⟩
    · obtain ⟨h10, h11⟩ := hw g c h1
      exact .inr ⟨g, c, C, hG _ _ h1, h2, by rw [h11]; exact h3, by rw [h10]; exact h4, hq, h5, h6, h7, h9.mono hF⟩
theorem OwnOk.lt {n0 : Nat} {F : Fz} {G : Gm} {w : World} {id : Nat} {e : Ent} (h : OwnOk n0 F G w id e) {g : Nat} {c : Nat × Nat} (hg : G id = some (some (g, c))) : n0 ≤ g ∧ g < w.heap.size := by
  cases e with
  | box T a =>
    obtain ⟨g', cs, h1, h2, h3, h4, h5⟩ := h
    rw [hg] at h1; cases h1
    exact ⟨h2, (Array.getElem?_eq_some_iff.1 h4).1⟩
  | row T k l fz =>
    rcases h with ⟨h1, h2⟩ | ⟨g', c', C, h1, h2, h3, h4, _⟩
    · rw [hg] at h1; cases h1
    · rw [hg] at h1; cases h1
      exact ⟨h2, (Array.getElem?_eq_some_iff.1 h4).1⟩

def Gm.set (G : Gm) (id : Nat) (p : Option (Nat × Nat × Nat)) : Gm := fun i => if i = id then some p else G i
theorem Gm.le_set {G : Gm} {id : Nat} {p : Option (Nat × Nat × Nat)} (h : G id = none) : G.le (G.set id p) := fun i q hq => by
  unfold Gm.set
  split
  · rename_i e; subst e; rw [h] at hq; cases hq
  · exact hq
theorem Gm.set_same (G : Gm) (id : Nat) (p : Option (Nat × Nat × Nat)) : G.set id p id = some p := by simp [Gm.set]

/-- A world that has grown: old blocks lie as they did. -/
theorem heap_alloc_old (w : World) (o : Obj) {g : Nat} (h : g < w.heap.size) : (w.alloc o).heap[g]? = w.heap[g]? := Below.heap_alloc w o g h
theorem heap_alloc_here (w : World) (o : Obj) : (w.alloc o).heap[w.heap.size]? = some o := by
  show (w.heap.push o)[w.heap.size]? = some o
  simp

/-- A new block, owned as entry id. -/
theorem Mem.new {w0 : World} {F0 : Fz} {U : Nat → Prop} {m : MM} {F : Fz} {G : Gm} {w : World} (h : Mem w0 F0 U m F G w) {id : Nat} (hid : ¬ U id) (c : Nat × Nat) (o : Obj) (e : Ent)
    (he : OwnOk w0.heap.size F (G.set id (some (w.heap.size, c))) (w.alloc o) id e) :
    Mem w0 F0 (fun i => U i ∨ i = id) (m.set id (some e)) F (G.set id (some (w.heap.size, c))) (w.alloc o) := by
  have hG := h.fresh id hid
  have hle : G.le (G.set id (some (w.heap.size, c))) := Gm.le_set hG
  refine ⟨h.le0, h.old, fun b o' hb => ?_, h.below.alloc h.below.size o, fun i e' hi => ?_, ?_, fun i hi => ?_⟩
  · rw [heap_alloc_old _ _ (h.lt hb)]; exact h.fit b o' hb
  · simp only [MM.set] at hi
    split at hi
    · rename_i e0; cases hi; subst e0; exact he
    · exact (h.own i e' hi).kept (Fz.le.refl F) hle (fun g c' hg => ⟨heap_alloc_old _ _ ((h.own i e' hi).lt hg).2, rfl⟩)
  · intro i i' e1 e2 g c1 c2 hi hi' hg hg'
    simp only [MM.set] at hi hi'
    simp only [Gm.set] at hg hg'
    split at hi <;> split at hi'
    · rename_i a b; rw [a, b]
    · rename_i a b
      rw [if_pos a] at hg; rw [if_neg b] at hg'
      simp only [Option.some.injEq, Prod.mk.injEq] at hg
      have := ((h.own i' e2 hi').lt hg').2
      omega
    · rename_i a b
      rw [if_neg a] at hg; rw [if_pos b] at hg'
      simp only [Option.some.injEq, Prod.mk.injEq] at hg'
      have := ((h.own i e1 hi).lt hg).2
      omega
    · rename_i a b
      rw [if_neg a] at hg; rw [if_neg b] at hg'
      exact h.inj i i' e1 e2 g c1 c2 hi hi' hg hg'
  · simp only [Gm.set]
    rw [if_neg (fun e0 => hi (.inr e0))]
    exact h.fresh i (fun hu => hi (.inl hu))

/-- An entry's block is written, or taken for another use: the entry is told anew. -/
theorem Mem.turn {w0 : World} {F0 : Fz} {U : Nat → Prop} {m : MM} {F : Fz} {G : Gm} {w w' : World} (h : Mem w0 F0 U m F G w) {id : Nat} {e0 e : Ent} (h0 : m id = some e0) {g : Nat} {c : Nat × Nat} (hg : G id = some (some (g, c)))
    (hF : F g = none) (hw : Below g w w') (hr : ∀ b, b ≠ g → b < w.heap.size → w'.heap[b]? = w.heap[b]?) (he : OwnOk w0.heap.size F G w' id e) :
    Mem w0 F0 U (m.set id (some e)) F G w' := by
  have hlt := (h.own id e0 h0).lt hg
  refine ⟨h.le0, h.old, fun b o hb => ?_, h.below.trans (hw.mono hlt.1), fun i e' hi => ?_, ?_, h.fresh⟩
  · rw [hr b (fun e1 => by subst e1; rw [hF] at hb; cases hb) (h.lt hb)]; exact h.fit b o hb
  · simp only [MM.set] at hi
    split at hi
    · rename_i e1; cases hi; subst e1; exact he
    · rename_i hne
      refine (h.own i e' hi).kept (Fz.le.refl F) (Gm.le.refl G) (fun g' c' hg' => ⟨hr g' (fun e1 => ?_) ((h.own i e' hi).lt hg').2, rfl⟩)
      subst e1
      exact hne (h.inj i id e' e0 g' c' c hi h0 hg' hg)
  · intro i i' e1 e2 g1 c1 c2 hi hi' hg1 hg2
    simp only [MM.set] at hi hi'
    split at hi <;> split at hi'
    · rename_i a b; rw [a, b]
    · rename_i a b; subst a; exact h.inj i i' e0 e2 g1 c1 c2 h0 hi' hg1 hg2
    · rename_i a b; subst b; exact h.inj i i' e1 e0 g1 c1 c2 hi h0 hg1 hg2
    · exact h.inj i i' e1 e2 g1 c1 c2 hi hi' hg1 hg2

/-- A row that from now on stays. -/
def Fz.set (F : Fz) (g : Nat) (o : Obj) : Fz := fun b => if b = g then some o else F b
theorem Mem.freeze {w0 : World} {F0 : Fz} {U : Nat → Prop} {m : MM} {F : Fz} {G : Gm} {w : World} (h : Mem w0 F0 U m F G w) {id : Nat} {T : TypeId} {k : K} {l : List k.T} {fz : Bool} (h0 : m id = some (.row T k l fz)) :
    ∃ F', F.le F' ∧ Mem w0 F0 U (m.set id (some (.row T k l true))) F' G w := by
  have hsame : ∀ e1, m.set id (some e1) id = some e1 := fun e1 => by simp [MM.set]
  rcases h.own id _ h0 with ⟨h1, h2⟩ | ⟨g, c, C, h1, h2, h3, h4, hq, h5, h6, h7, h9⟩
  · refine ⟨F, Fz.le.refl F, h.le0, h.old, h.fit, h.below, fun i e hi => ?_, ?_, h.fresh⟩
    · simp only [MM.set] at hi
      split at hi
      · rename_i e1; cases hi; subst e1; exact .inl ⟨h1, h2⟩
      · exact h.own i e hi
    · intro i i' e1 e2 g1 c1 c2 hi hi' hg1 hg2
      simp only [MM.set] at hi hi'
      split at hi <;> split at hi'
      · rename_i a b; rw [a, b]
      · rename_i a b; subst a; exact h.inj i i' _ e2 g1 c1 c2 h0 hi' hg1 hg2
      · rename_i a b; subst b; exact h.inj i i' e1 _ g1 c1 c2 hi h0 hg1 hg2
      · exact h.inj i i' e1 e2 g1 c1 c2 hi hi' hg1 hg2
  · have hle : F.le (F.set g (.cells C T (0, 0))) := fun b o hb => by
      unfold Fz.set
      split
      · rename_i e1; subst e1
        rw [h3] at hb
        split at hb
        · exact hb
        · cases hb
      · exact hb
    refine ⟨F.set g (.cells C T (0, 0)), hle, h.le0.trans hle, fun b hb => ?_, fun b o hb => ?_, h.below, fun i e hi => ?_, ?_, h.fresh⟩
    · unfold Fz.set
      rw [if_neg (by omega)]
      exact h.old b hb
    · unfold Fz.set at hb
      split at hb
      · rename_i e1; subst e1; cases hb; exact h4
      · exact h.fit b o hb
    · simp only [MM.set] at hi
      split at hi
      · rename_i e1; cases hi; subst e1
        exact .inr ⟨g, c, C, h1, h2, by simp [Fz.set], h4, hq, h5, h6, h7, h9.mono hle⟩
      · rename_i hne
        refine (h.own i e hi).kept hle (Gm.le.refl G) (fun g' c' hg' => ⟨rfl, ?_⟩)
        unfold Fz.set
        rw [if_neg]
        intro e1; subst e1
        exact hne (h.inj i id e _ g' c' c hi h0 hg' h1)
    · intro i i' e1 e2 g1 c1 c2 hi hi' hg1 hg2
      simp only [MM.set] at hi hi'
      split at hi <;> split at hi'
      · rename_i a b; rw [a, b]
      · rename_i a b; subst a; exact h.inj i i' _ e2 g1 c1 c2 h0 hi' hg1 hg2
      · rename_i a b; subst b; exact h.inj i i' e1 _ g1 c1 c2 hi h0 hg1 hg2
      · exact h.inj i i' e1 e2 g1 c1 c2 hi hi' hg1 hg2
/-- A frozen row reads as its list. -/
theorem Mem.reads {w0 : World} {F0 : Fz} {U : Nat → Prop} {m : MM} {F : Fz} {G : Gm} {w : World} (h : Mem w0 F0 U m F G w) {id : Nat} {T : TypeId} {k : K} {l : List k.T} (h0 : m id = some (.row T k l true))
    {v : Value} (hv : RV F G (.row id) v) : RC F (.lst k l) [v] := by
  refine ⟨v, rfl, ?_⟩
  rcases h.own id _ h0 with ⟨h1, h2⟩ | ⟨g, c, C, h1, h2, h3, h4, hq, h5, h6, h7, h9⟩
  · subst h2
    rcases hv with ⟨_, rfl⟩ | ⟨g, c, e1, rfl⟩
    · exact ⟨none, 0, rfl, by simp, fun e => absurd rfl e⟩
    · rw [h1] at e1; cases e1
  · rcases hv with ⟨e1, _⟩ | ⟨g', c', e1, rfl⟩
    · rw [h1] at e1; cases e1
    · rw [h1] at e1; cases e1
      refine ⟨_, _, by rw [hq], h5, fun hl => ⟨g, 0, C, T, (0, 0), rfl, by simpa using h3, fun i hi => ?_⟩⟩
      obtain ⟨cs, a1, a2, a3⟩ := h9 i hi
      exact ⟨cs, a1, a2, fun j hj => by rw [Nat.zero_add]; exact a3 j hj⟩
/-- Behind a call that made memory, and turned nothing. -/
theorem Mem.called {w0 : World} {F0 : Fz} {U : Nat → Prop} {m : MM} {F F' : Fz} {G : Gm} {w w' : World} (h : Mem w0 F0 U m F G w) (hF : F.le F') (hn : ∀ b, b < w.heap.size → F' b = F b) (hfit : ∀ b o, F' b = some o → w'.heap[b]? = some o)
    (hb : Below w.heap.size w w') : Mem w0 F0 U m F' G w' := by
  have hs := h.below.size
  refine ⟨h.le0.trans hF, fun b hb' => (hn b (by omega)).trans (h.old b hb'), hfit, h.below.trans (hb.mono hs), fun i e hi => ?_, h.inj, h.fresh⟩
  exact (h.own i e hi).kept hF (Gm.le.refl G) (fun g c hg => ⟨hb.block g ((h.own i e hi).lt hg).2, hn g ((h.own i e hi).lt hg).2⟩)
/-- An entry is let go. -/
theorem Mem.drop {w0 : World} {F0 : Fz} {U : Nat → Prop} {m : MM} {F : Fz} {G : Gm} {w : World} (h : Mem w0 F0 U m F G w) (id : Nat) : Mem w0 F0 U (m.set id none) F G w := by
  refine ⟨h.le0, h.old, h.fit, h.below, fun i e hi => ?_, ?_, h.fresh⟩
  · simp only [MM.set] at hi
    split at hi
    · cases hi
    · exact h.own i e hi
  · intro i i' e1 e2 g1 c1 c2 hi hi' hg1 hg2
    simp only [MM.set] at hi hi'
    split at hi
    · cases hi
    · split at hi'
      · cases hi'
      · exact h.inj i i' e1 e2 g1 c1 c2 hi hi' hg1 hg2

/-- A block is taken up as entry id: what else is owned lies elsewhere. -/
theorem Mem.adopt {w0 : World} {F0 : Fz} {U : Nat → Prop} {m : MM} {F : Fz} {G : Gm} {w w' : World} (h : Mem w0 F0 U m F G w) {id : Nat} (hid : ¬ U id) {g : Nat} (c : Nat × Nat) (e : Ent) (hb : Below w0.heap.size w0 w') (hF : F g = none)
    (hold : ∀ b, b ≠ g → b < w.heap.size → ((∃ o, F b = some o) ∨ ∃ i e c, m i = some e ∧ G i = some (some (b, c))) → w'.heap[b]? = w.heap[b]?) (hfree : ∀ i e c, m i = some e → G i = some (some (g, c)) → False)
    (he : OwnOk w0.heap.size F (G.set id (some (g, c))) w' id e) : Mem w0 F0 (fun i => U i ∨ i = id) (m.set id (some e)) F (G.set id (some (g, c))) w' := by
  have hG := h.fresh id hid
  have hle : G.le (G.set id (some (g, c))) := Gm.le_set hG
  refine ⟨h.le0, h.old, fun b o' hb' => ?_, hb, fun i e' hi => ?_, ?_, fun i hi => ?_⟩
  · rw [hold b (fun e1 => by subst e1; rw [hF] at hb'; cases hb') (h.lt hb') (.inl ⟨_, hb'⟩)]; exact h.fit b o' hb'
  · simp only [MM.set] at hi
    split at hi
    · rename_i e0; cases hi; subst e0; exact he
    · refine (h.own i e' hi).kept (Fz.le.refl F) hle (fun g' c' hg => ⟨hold g' (fun e1 => ?_) ((h.own i e' hi).lt hg).2 (.inr ⟨i, e', c', hi, hg⟩), rfl⟩)
      subst e1
      exact hfree i e' c' hi hg
  · intro i i' e1 e2 g1 c1 c2 hi hi' hg hg'
    simp only [MM.set] at hi hi'
    simp only [Gm.set] at hg hg'
    split at hi <;> split at hi'
    · rename_i a b; rw [a, b]
    · rename_i a b
      rw [if_pos a] at hg; rw [if_neg b] at hg'
      simp only [Option.some.injEq, Prod.mk.injEq] at hg
      obtain ⟨rfl, _⟩ := hg
      exact (hfree i' e2 c2 hi' hg').elim
    · rename_i a b
      rw [if_neg a] at hg; rw [if_pos b] at hg'
      simp only [Option.some.injEq, Prod.mk.injEq] at hg'
      obtain ⟨rfl, _⟩ := hg'
      exact (hfree i e1 c1 hi hg).elim
    · rename_i a b
      rw [if_neg a] at hg; rw [if_neg b] at hg'
      exact h.inj i i' e1 e2 g1 c1 c2 hi hi' hg hg'
  · simp only [Gm.set]
    rw [if_neg (fun e0 => hi (.inr e0))]
    exact h.fresh i (fun hu => hi (.inl hu))
/-- A nil slice as entry id. -/
theorem Mem.adoptNil {w0 : World} {F0 : Fz} {U : Nat → Prop} {m : MM} {F : Fz} {G : Gm} {w : World} (h : Mem w0 F0 U m F G w) {id : Nat} (hid : ¬ U id) (T : TypeId) (k : K) :
    Mem w0 F0 (fun i => U i ∨ i = id) (m.set id (some (.row T k [] false))) F (G.set id none) w := by
  have hG := h.fresh id hid
  have hle : G.le (G.set id none) := Gm.le_set hG
  refine ⟨h.le0, h.old, h.fit, h.below, fun i e' hi => ?_, ?_, fun i hi => ?_⟩
  · simp only [MM.set] at hi
    split at hi
    · rename_i e0; cases hi; subst e0; exact .inl ⟨G.set_same _ _, rfl⟩
    · exact (h.own i e' hi).kept (Fz.le.refl F) hle (fun g' c' hg => ⟨rfl, rfl⟩)
  · intro i i' e1 e2 g1 c1 c2 hi hi' hg hg'
    simp only [MM.set] at hi hi'
    simp only [Gm.set] at hg hg'
    split at hi <;> split at hi'
    · rename_i a b; rw [a, b]
    · rename_i a b; rw [if_pos a] at hg; cases hg
    · rename_i a b; rw [if_pos b] at hg'; cases hg'
    · rename_i a b
      rw [if_neg a] at hg; rw [if_neg b] at hg'
      exact h.inj i i' e1 e2 g1 c1 c2 hi hi' hg hg'
  · simp only [Gm.set]
    rw [if_neg (fun e0 => hi (.inr e0))]
    exact h.fresh i (fun hu => hi (.inl hu))
end Go.AE
