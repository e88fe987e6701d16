/- Operation by operation: memory. -/
import Derived.Test.YtaeicclhopehaaaAe4
namespace Go.AE
open Go.RowKit
set_option linter.unusedVariables false

section
variable {P : Program} {ti : TI} {w0 : World} {F0 : Fz} {U : Nat → Prop} {m : MM} {F : Fz} {G : Gm} {w : World}

theorem RV_v {x v : Value} (h : RV F G (.v x) v) : v = x ∧ plainV x = true := by
  obtain ⟨h1, h2⟩ := (show RC F (.v x) [v] from h)
  cases h2
  exact ⟨rfl, h1⟩

theorem below_setRow (w : World) (g : Nat) (cs : Array Value) : Below g w (w.setRow g cs) :=
  ⟨rfl, rfl, rfl, by simp, fun k hk => setRow_other w g k cs (by omega)⟩

theorem plain_one {v : Value} (h : plainV v = true) : v.oneCell' = true := by cases v <;> first | rfl | cases h

theorem storeAt_run (t : TypeId) (a : Addr) (y : Value) : (Instr.storeAt t (.pointer (some a)) y).run P w = (storeVar t a y).run P w := by simp [Instr.storeAt, Instr.sureAddr]

/-- A store into a block, at a place. -/
theorem store_run {t : TypeId} {n : Nat} {b : Bool} (ok : TIOk P ti) (hs : ti.sz t = some (n, b)) {g off : Nat} {C : Array Value} {T : TypeId} (hg : w.heap[g]? = some (.cells C T (0, 0))) {x : Value} (hx : x.cells.size = n) (hpl : ∀ y ∈ x.cells.toList, plainV y = true)
    (hin : off + n ≤ C.size) : (storeVar t ⟨g, off, none⟩ x).run P w = .ok () (w.setRow g (C.toList.take off ++ x.cells.toList ++ C.toList.drop (off + n)).toArray) := by
  obtain ⟨h1, _⟩ := ok.sz t n b hs
  obtain ⟨i, hi, rfl⟩ := Option.map_eq_some_iff.1 h1
  have hl := run_storeCells_at (P := P) g off T x.cells.toList 0 C w hg (by simp [hx]; omega) (fun v hv => plain_one (hpl v hv))
  have e : x.cells.toList.length = i.size := by simp [hx]
  rw [e] at hl
  simp only [Nat.add_zero] at hl
  simp [storeVar, sizeOf, typeInfo, hi, hx, hl]

theorem box_store {t : TypeId} {n : Nat} {b : Bool} (ok : TIOk P ti) (hs : ti.sz t = some (n, b)) (hm : Mem w0 F0 U m F G w) {id off : Nat} {T : TypeId} {a a' x : AV} (h0 : m id = some (.box T a)) (hn : x.cells = n) (hx : a.setPart off n x = some a')
    {v y : Value} (hv : RV F G (.ptr id off) v) (hy : RVp F x y) : ∃ w', (Instr.storeAt t v y).run P w = .ok () w' ∧ Mem w0 F0 U (m.set id (some (.box T a'))) F G w' := by
  obtain ⟨g, cs, h1, h2, h3, h4, h5⟩ := hm.own id _ h0
  obtain ⟨g', c', e1, rfl⟩ := hv
  rw [h1] at e1; cases e1
  obtain ⟨hyc, _, _⟩ := hy.cells
  have hyl : y.cells.toList.length = n := by rw [RC.length hyc, hn]
  obtain ⟨pre, post, mid, rfl, e2, e3, e4⟩ := AV.setPart_ok hx h5 hyc hyl
  have hr := store_run (w := w) (off := off) (x := y) ok hs h4 (by simpa using hyl) (RC.plain hyc) (by simp [e2, e3])
  have hc : (List.take off (pre ++ mid ++ post) ++ y.cells.toList ++ List.drop (off + n) (pre ++ mid ++ post)) = pre ++ y.cells.toList ++ post := by
    rw [List.append_assoc pre, List.take_append_of_le_length (by omega), List.take_of_length_le (by omega)]
    congr 1
    rw [← List.append_assoc, List.drop_append, List.drop_of_length_le (by simp; omega)]
    have : off + n - (pre ++ mid).length = 0 := by simp; omega
    rw [this]; rfl
  simp only [] at hr
  rw [hc] at hr
  refine ⟨_, (storeAt_run ..).trans hr, ?_⟩
  refine hm.turn h0 h1 h3 (below_setRow w g _) (fun b hb _ => setRow_other w g b _ hb) ?_
  exact ⟨g, _, h1, h2, h3, setRow_heap w g _ _ T (0, 0) h4, e4⟩

/-- A row's element, read. -/
theorem row_at {k : K} {l : List k.T} {C : Array Value} (h : RowIn F k l C) {i : Nat} (hi : i < l.length) : ∃ cs, cs.length = k.es ∧ RC F (k.enc (l.getD i k.zero)) cs ∧ ∀ j, j < k.es → C[i * k.es + j]? = cs[j]? := by
  obtain ⟨cs, h1, h2, h3⟩ := h i hi
  refine ⟨cs, h1, ?_, h3⟩
  have : l.getD i k.zero = l[i] := by simp [List.getD_eq_getElem?_getD, List.getElem?_eq_getElem hi]
  rw [this]
  exact h2.enc
theorem ep_load {t : TypeId} {n : Nat} {b : Bool} (ok : TIOk P ti) (hs : ti.sz t = some (n, b)) (hm : Mem w0 F0 U m F G w) {id i off : Nat} {T : TypeId} {k : K} {l : List k.T} {fz : Bool} {x : AV} (h0 : m id = some (.row T k l fz)) (hi : i < l.length)
    (hx : (k.enc (l.getD i k.zero)).part off n = some x) (hb : x.agg = b) {v : Value} (hv : RV F G (.ep id k.es i off) v) : ∃ y, (Instr.loadAt t v).run P w = .ok y w ∧ RVp F x y := by
  obtain ⟨g', c', e1, rfl⟩ := hv
  rcases hm.own id _ h0 with ⟨h1, h2⟩ | ⟨g, c, C, h1, h2, h3, h4, hq, h5, h6, h7, h9⟩
  · rw [e1] at h1; cases h1
  · rw [h1] at e1; cases e1
    obtain ⟨cs, a1, a2, a3⟩ := row_at h9 hi
    obtain ⟨pre, post, mid, rfl, e2, e3, e4⟩ := AV.part_ok hx a2
    obtain ⟨y, hy, hr⟩ := load_run (w := w) ok hs hb h4 (off := i * k.es + off) (cs := mid) e3 (fun j hj => by
      rw [Nat.add_assoc, a3 (off + j) (by simp at a1; omega), ← e2]; exact getElem?_mid pre mid post j hj) e4
    exact ⟨y, by simpa [Instr.loadAt, Instr.sureAddr] using hy, hr⟩
theorem rp_load {t : TypeId} {n : Nat} {b : Bool} (ok : TIOk P ti) (hs : ti.sz t = some (n, b)) (hm : Mem w0 F0 U m F G w) {a x : AV} (hx : a.part 0 n = some x) (hb : x.agg = b) {v : Value} (hv : RV F G (.rp a) v) :
    ∃ y, (Instr.loadAt t v).run P w = .ok y w ∧ RVp F x y := by
  obtain ⟨g, off, C, T, fr, cs', h1, h2, h3, h4⟩ := (show RC F (.rp a) [v] from hv)
  cases h1
  obtain ⟨pre, post, mid, rfl, e2, e3, e4⟩ := AV.part_ok hx h3
  obtain rfl : pre = [] := List.eq_nil_of_length_eq_zero e2
  obtain ⟨y, hy, hr⟩ := load_run (w := w) ok hs hb (hm.fit _ _ h2) (off := off) (cs := mid) e3 (fun j hj => by
    rw [h4 j (by simp; omega)]; simpa using getElem?_mid [] mid post j hj) e4
  exact ⟨y, by simpa [Instr.loadAt, Instr.sureAddr] using hy, hr⟩

theorem RowIn.set {k : K} {l : List k.T} {C : Array Value} (h : RowIn F k l C) (hC : l.length * k.es ≤ C.size) {i : Nat} (hi : i < l.length) {y : k.T} {cs : List Value} (hy : RK F k y cs) :
    RowIn F k (l.set i y) (C.toList.take (i * k.es) ++ cs ++ C.toList.drop (i * k.es + k.es)).toArray := by
  have hcl := RK.length hy
  have hend : i * k.es + k.es ≤ C.size := by
    have : (i + 1) * k.es ≤ l.length * k.es := Nat.mul_le_mul_right _ hi
    rw [Nat.add_mul] at this; omega
  have htl : (C.toList.take (i * k.es)).length = i * k.es := by simp; omega
  intro j hj
  have hj' : j < l.length := by simpa using hj
  by_cases hij : j = i
  · subst hij
    refine ⟨cs, hcl, by simpa using hy, fun p hp => ?_⟩
    rw [List.getElem?_toArray]
    have := getElem?_mid (C.toList.take (j * k.es)) cs (C.toList.drop (j * k.es + k.es)) p (by omega)
    rw [htl] at this
    exact this
  · obtain ⟨ds, h1, h2, h3⟩ := h j hj'
    refine ⟨ds, h1, by simpa [List.getElem_set, Ne.symm hij] using h2, fun p hp => ?_⟩
    rw [List.getElem?_toArray, ← h3 p hp]
    rcases Nat.lt_or_gt_of_ne hij with hlt | hgt
    · have : j * k.es + p < i * k.es := by
        have : (j + 1) * k.es ≤ i * k.es := Nat.mul_le_mul_right _ hlt
        rw [Nat.add_mul] at this; omega
      rw [List.append_assoc, List.getElem?_append_left (by omega), List.getElem?_take_of_lt this]
      simp
    · have h4 : i * k.es + k.es ≤ j * k.es + p := by
        have : (i + 1) * k.es ≤ j * k.es := Nat.mul_le_mul_right _ hgt
        rw [Nat.add_mul] at this; omega
      rw [List.getElem?_append_right (by simp [hcl, htl]; omega), List.getElem?_drop]
      simp only [List.length_append, htl, hcl]
      rw [show i * k.es + k.es + (j * k.es + p - (i * k.es + k.es)) = j * k.es + p by omega]
      simp

theorem ep_store {t : TypeId} {b : Bool} {k : K} (ok : TIOk P ti) (hs : ti.sz t = some (k.es, b)) (hm : Mem w0 F0 U m F G w) {id i : Nat} {T : TypeId} {l : List k.T} {x : AV} {p : Prop} {y : k.T} (h0 : m id = some (.row T k l false)) (hi : i < l.length)
    (hx : k.dec x = some (p, y)) (hp : p) {v u : Value} (hv : RV F G (.ep id k.es i 0) v) (hu : RVp F x u) : ∃ w', (Instr.storeAt t v u).run P w = .ok () w' ∧ Mem w0 F0 U (m.set id (some (.row T k (l.set i y) false))) F G w' := by
  obtain ⟨g', c', e1, rfl⟩ := hv
  rcases hm.own id _ h0 with ⟨h1, h2⟩ | ⟨g, c, C, h1, h2, h3, h4, hq, h5, h6, h7, h9⟩
  · rw [e1] at h1; cases h1
  · have e2 := h1.symm.trans e1
    simp only [Option.some.injEq, Prod.mk.injEq] at e2
    obtain ⟨rfl, rfl⟩ := e2
    obtain ⟨hyc, _, _⟩ := hu.cells
    have hk := K.dec_ok hx hp hyc
    have hyl := RK.length hk
    have hC : l.length * k.es ≤ C.size := by rw [h6]; exact Nat.mul_le_mul_right _ h5
    have hend : i * k.es + k.es ≤ C.size := by
      have : (i + 1) * k.es ≤ l.length * k.es := Nat.mul_le_mul_right _ hi
      rw [Nat.add_mul] at this; omega
    have hr := store_run (w := w) (off := i * k.es) (x := u) ok hs h4 (by simpa using hyl) (RC.plain hyc) hend
    refine ⟨_, (storeAt_run ..).trans hr, ?_⟩
    refine hm.turn h0 h1 (by simpa using h3) (below_setRow w g _) (fun b hb _ => setRow_other w g b _ hb) ?_
    refine .inr ⟨g, c, _, h1, h2, by simpa using h3, setRow_heap w g _ _ T (0, 0) h4, by simpa using hq, by simpa using h5, ?_, h7, h9.set hC hi hk⟩
    simp only [List.size_toArray, List.length_append, List.length_take, List.length_drop, Array.length_toList]
    have : u.cells.size = k.es := by simpa using hyl
    omega

theorem alloc_new (hm : Mem w0 F0 U m F G w) {nid : Nat} (hn : ¬ U nid) {t : TypeId} {x : AV} {C : Array Value} (hx : RC F x C.toList) :
    After w0 F0 U m F G nid (.ptr nid 0) [(nid, some (.box t x))] (.pointer (some ⟨w.heap.size, 0, none⟩)) (w.alloc (.cells C t)) := by
  refine ⟨F, G.set nid (some (w.heap.size, 0, 0)), Fz.le.refl F, Gm.le_set (hm.fresh _ hn), ⟨w.heap.size, (0, 0), G.set_same nid _, rfl⟩, ?_⟩
  refine hm.new hn (0, 0) _ _ ?_
  refine ⟨w.heap.size, C.toList, G.set_same nid _, hm.below.size, ?_, ?_, hx⟩
  · cases hF : F w.heap.size with
    | none => rfl
    | some o => exact absurd (hm.lt hF) (by omega)
  · rw [heap_alloc_here]

/-- A new row. -/
theorem row_new (hm : Mem w0 F0 U m F G w) {nid : Nat} (hn : ¬ U nid) {T : TypeId} {k : K} {l : List k.T} {C : Array Value} {c : Nat} (h1 : l.length ≤ c) (h2 : C.size = c * k.es) (h3 : c ≤ maxLen) (h5 : RowIn F k l C) :
    After w0 F0 U m F G nid (.row nid) [(nid, some (.row T k l false))] (.slice (some ⟨w.heap.size, 0, none⟩) l.length c) (w.alloc (.cells C T)) := by
  refine ⟨F, G.set nid (some (w.heap.size, c, l.length)), Fz.le.refl F, Gm.le_set (hm.fresh _ hn), .inr ⟨w.heap.size, (c, l.length), G.set_same nid _, rfl⟩, ?_⟩
  refine hm.new hn (c, l.length) _ _ (.inr ⟨w.heap.size, (c, l.length), C, G.set_same nid _, hm.below.size, ?_, ?_, rfl, h1, h2, h3, h5⟩)
  · cases hF : F w.heap.size with
    | none => rfl
    | some o => exact absurd (hm.lt hF) (by omega)
  · rw [heap_alloc_here]

theorem made_get (z : Array Value) (n i j : Nat) (hj : j < z.size) (h : i * z.size + j < n) : (madeCells z n)[i * z.size + j]? = z[j]? := by
  have h1 : (i * z.size + j) % z.size = j := by rw [Nat.add_comm, Nat.add_mul_mod_self_right, Nat.mod_eq_of_lt hj]
  rw [Array.getElem?_eq_getElem (by simpa [madeCells] using h), Array.getElem?_eq_getElem hj]
  simp [madeCells, h1, getElem!_pos, hj]
end
end Go.AE
