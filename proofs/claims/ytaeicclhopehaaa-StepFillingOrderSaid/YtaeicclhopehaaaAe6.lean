/- Operation by operation: addresses, slices, structs, numbers. -/
import Derived.Test.YtaeicclhopehaaaAe5
namespace Go.AE
open Go.RowKit
set_option linter.unusedVariables false

section
variable {P : Program} {ti : TI} {w0 : World} {F0 : Fz} {U : Nat → Prop} {m : MM} {F : Fz} {G : Gm} {w : World}

theorem K.bytes_pos (k : K) : 0 < k.bytes := by cases k <;> decide
theorem K.es_pos (k : K) : 0 < k.es := by cases k <;> decide

theorem Addr_add (b off n : Nat) : (⟨b, off, none⟩ : Addr).add n = ⟨b, off + n, none⟩ := by unfold Addr.add; split <;> simp_all

theorem field_run (ok : TIOk P ti) {s j off n : Nat} (hf : ti.fld s j = some (off, n)) (b o : Nat) : (Instr.fieldAt s (.pointer (some ⟨b, o, none⟩)) j).run P w = .ok (.pointer (some ⟨b, o + off, none⟩)) w := by
  obtain ⟨fs, f, i, h1, h2, h3, h4, h5, h6⟩ := ok.fld s j off n hf
  subst h3 h5
  simp [Instr.fieldAt, run_underlying h1, h2, Instr.sureAddr, fieldPlace, sizeOf, typeInfo, h4, h6, Addr_add]

theorem index_run (ok : TIOk P ti) {t e : TypeId} {k : K} (hk : ti.ek t = some (e, k)) {ik : IntKind} {n : Int} {b off len cap : Nat} (h0 : 0 ≤ n) (h1 : n < len) :
    (Instr.indexAt t (.slice (some ⟨b, off, none⟩) len cap) (.int ik n)).run P w = .ok (.pointer (some ⟨b, off + n.toNat * k.es, none⟩)) w := by
  obtain ⟨hu, i, z, hi, hz, hs, _⟩ := ok.ek t e k hk
  simp [Instr.indexAt, asIntOf, run_underlying hu, h0, h1, sizeOf, typeInfo, hi, hs, Addr_add]

theorem lst_index (ok : TIOk P ti) {t e : TypeId} {k : K} (hk : ti.ek t = some (e, k)) {ik : IntKind} {n : Int} {l : List k.T} (h0 : 0 ≤ n) (h1 : n < l.length) {v : Value} (hv : RC F (.lst k l) [v]) :
    ∃ p, (Instr.indexAt t v (.int ik n)).run P w = .ok p w ∧ RC F (.rp (k.enc (l.getD n.toNat k.zero))) [p] := by
  obtain ⟨v', h2, A, c, h3, h4, h5⟩ := hv
  cases h2
  obtain ⟨b, off, C, T, fr, rfl, h6, h7⟩ := h5 (by intro e; subst e; simp at h1; omega)
  subst h3
  refine ⟨_, index_run ok hk h0 h1, ?_⟩
  have hn : n.toNat < l.length := by omega
  obtain ⟨cs, a1, a2, a3⟩ := h7 n.toNat hn
  have : l.getD n.toNat k.zero = l[n.toNat] := by simp [List.getD_eq_getElem?_getD, List.getElem?_eq_getElem hn]
  rw [this]
  exact ⟨b, off + n.toNat * k.es, C, T, fr, cs, rfl, h6, a2.enc, fun j hj => by rw [a1] at hj; exact a3 j hj⟩
theorem row_index (ok : TIOk P ti) (hm : Mem w0 F0 U m F G w) {t e : TypeId} {k : K} (hk : ti.ek t = some (e, k)) {ik : IntKind} {n : Int} {id : Nat} {T : TypeId} {l : List k.T} {fz : Bool} (h0 : m id = some (.row T k l fz)) (hn : 0 ≤ n) (h1 : n < l.length)
    {v : Value} (hv : RV F G (.row id) v) : ∃ p, (Instr.indexAt t v (.int ik n)).run P w = .ok p w ∧ RV F G (.ep id k.es n.toNat 0) p := by
  rcases hm.own id _ h0 with ⟨a1, a2⟩ | ⟨g, c, C, a1, a2, a3, a4, hq, a5, a6, a7, a9⟩
  · subst a2; simp at h1; omega
  · rcases hv with ⟨e1, _⟩ | ⟨g', c', e1, rfl⟩
    · rw [a1] at e1; cases e1
    · have e2 := a1.symm.trans e1
      simp only [Option.some.injEq, Prod.mk.injEq] at e2
      obtain ⟨rfl, rfl⟩ := e2
      refine ⟨_, index_run ok hk hn (by rw [hq]; exact h1), g, c, a1, ?_⟩
      simp

theorem make_run (ok : TIOk P ti) (hm : Mem w0 F0 U m F G w) {nid : Nat} (hnid : ¬ U nid) {t e : TypeId} {k : K} (hk : ti.ek t = some (e, k)) {k1 k2 : IntKind} {n c : Int} (h0 : 0 ≤ n) (h1 : n ≤ c) (h2 : c * k.bytes ≤ 140737488355328) :
    ∃ v w', (Instr.makeSlice t (.int k1 n) (.int k2 c)).run P w = .ok v w' ∧ After w0 F0 U m F G nid (.row nid) [(nid, some (.row e k (List.replicate n.toNat k.zero) false))] v w' := by
  obtain ⟨hu, i, z, hi, hz, hs, hb, hzs, hzk⟩ := ok.ek t e k hk
  have hp := k.bytes_pos
  have hc : c ≤ 140737488355328 := by
    have : c * 1 ≤ c * (k.bytes : Int) := Int.mul_le_mul_of_nonneg_left (by omega) (by omega)
    omega
  have hr := run_make (P := P) w t e i z hu hi hz k1 k2 n c h0 h1 (by rw [hb, Int.mul_comm]; omega) (by omega)
  refine ⟨_, _, hr, ?_⟩
  rw [hs]
  have hl : (List.replicate n.toNat k.zero).length = n.toNat := by simp
  have := row_new (T := e) (k := k) (l := List.replicate n.toNat k.zero) (C := madeCells z.cells (c.toNat * k.es)) (c := c.toNat) hm hnid (by rw [hl]; omega) (by simp [madeCells]) (by simp only [maxLen]; omega) (fun j hj => ?_)
  · rw [hl] at this; exact this
  · rw [hl] at hj
    refine ⟨z.cells.toList, by simpa using hzs, by simpa using hzk F, fun p hp => ?_⟩
    have h5 : j * k.es + p < c.toNat * k.es := by
      have : (j + 1) * k.es ≤ c.toNat * k.es := Nat.mul_le_mul_right _ (by omega)
      rw [Nat.add_mul] at this; omega
    have := made_get z.cells (c.toNat * k.es) j p (by rw [hzs]; exact hp) (by rw [hzs]; exact h5)
    rw [hzs] at this
    rw [this]; simp

theorem RL.cut {α : Type} {es : Nat} {R : α → List Value → Prop} {l : List α} (a b : Nat) (hab : a ≤ b) (hb : b ≤ l.length) {A : Option Addr} {c : Nat} (hv : RL F es R l (.slice A l.length c)) (A' : Option Addr)
    (hA : b - a ≠ 0 → A' = A.map (·.add (a * es))) : RL F es R ((l.take b).drop a) (.slice A' (b - a) (c - a)) := by
  obtain ⟨A0, c0, h1, h2, h3⟩ := hv
  cases h1
  have hl : ((l.take b).drop a).length = b - a := by simp; omega
  refine ⟨A', c - a, by rw [hl], by omega, fun hne => ?_⟩
  have hpos : b - a ≠ 0 := by
    intro e
    apply hne
    apply List.eq_nil_of_length_eq_zero
    omega
  obtain ⟨g, off, C, T, fr, rfl, h5, h6⟩ := h3 (by intro e; subst e; simp at hb; omega)
  refine ⟨g, off + a * es, C, T, fr, by rw [hA hpos]; simp [Addr_add], h5, fun i hi => ?_⟩
  rw [hl] at hi
  obtain ⟨cs, a1, a2, a3⟩ := h6 (a + i) (by omega)
  refine ⟨cs, a1, by simpa [List.getElem_drop, List.getElem_take] using a2, fun k hk => ?_⟩
  rw [← a3 k hk, Nat.add_mul]
  congr 1
  omega

theorem slice_run (ok : TIOk P ti) {t e : TypeId} {k : K} (hk : ti.ek t = some (e, k)) {l : List k.T} {v : Value} (hv : RC F (.lst k l) [v]) {lo hi : Option Value} {a b : Int}
    (hlo : (lo = none ∧ a = 0) ∨ ∃ q, lo = some (.int q a)) (hhi : (hi = none ∧ b = l.length) ∨ ∃ q, hi = some (.int q b)) (h0 : 0 ≤ a) (h1 : a ≤ b) (h2 : b ≤ l.length) :
    ∃ r, (Instr.sliceAt t v lo hi none).run P w = .ok r w ∧ RC F (.lst k ((l.take b.toNat).drop a.toNat)) [r] := by
  obtain ⟨hu, i, z, hi', hz, hs, _⟩ := ok.ek t e k hk
  obtain ⟨v', e1, hrl⟩ := hv
  cases e1
  obtain ⟨A, c, rfl, h4, h5⟩ := id hrl
  have hb : b ≤ c := by omega
  have hb0 : 0 ≤ b := by omega
  have hmx : a ≤ max b 0 := by omega
  refine ⟨.slice (if c = a.toNat then A else A.map (·.add (a.toNat * k.es))) (b.toNat - a.toNat) (c - a.toNat), ?_, _, rfl, hrl.cut a.toNat b.toNat (by omega) (by omega) _ (fun hne => ?_)⟩
  · rcases hlo with ⟨rfl, rfl⟩ | ⟨q, rfl⟩ <;> rcases hhi with ⟨rfl, rfl⟩ | ⟨q', rfl⟩ <;>
      simp [Instr.sliceAt, run_underlying hu, Instr.slice, Instr.sliceBounds, Instr.sliceBound, asIntOf, sizeOf, typeInfo, hi', hs, h0, h1, hb, hb0, hmx]
  · rw [if_neg (by omega)]

/-- The cells of a part, laid into others. -/
theorem fill_fold : ∀ (vs : List Value) (off s : Nat) (C : Array Value), off + s + vs.length ≤ C.size →
    ((vs.zipIdx s).foldl (fun (cs : Array Value) (p : Value × Nat) => cs.setIfInBounds (off + p.2) p.1) C) = (C.toList.take (off + s) ++ vs ++ C.toList.drop (off + s + vs.length)).toArray := by
  intro vs
  induction vs with
  | nil => intro off s C h; simp
  | cons v vs ih =>
    intro off s C h
    simp only [List.length_cons] at h
    simp only [List.zipIdx_cons, List.foldl_cons]
    rw [ih off (s + 1) (C.setIfInBounds (off + s) v) (by simp; omega)]
    have hlt : off + s < C.toList.length := by simp; omega
    have hD : (C.toList.set (off + s) v).drop (off + (s + 1) + vs.length) = C.toList.drop (off + s + (vs.length + 1)) := by
      rw [List.drop_set_of_lt (by omega)]
      congr 1
      omega
    have hT : (C.toList.set (off + s) v).take (off + (s + 1)) = C.toList.take (off + s) ++ [v] := by
      rw [show off + (s + 1) = (off + s) + 1 by omega, List.take_succ_eq_append_getElem (by simpa using hlt), List.take_set_of_le (Nat.le_refl _)]
      simp
    apply Array.ext'
    simp only [Array.toList_setIfInBounds, List.length_cons, hD, hT]
    simp

theorem fill_one (place : Nat → Option (Nat × Nat)) (C : Array Value) (i : Nat) (v : Value) (rest : List (Nat × Value)) {off n : Nat} (hp : place i = some (off, n)) (hn : v.cells.size = n) (hin : off + n ≤ C.size) :
    Instr.fill place C ((i, v) :: rest) = Instr.fill place (C.toList.take off ++ v.cells.toList ++ C.toList.drop (off + n)).toArray rest := by
  simp only [Instr.fill, hp, hn]
  rw [if_neg (by simp; omega)]
  congr 1
  have := fill_fold v.cells.toList off 0 C (by simp; omega)
  simp only [Nat.add_zero, Array.length_toList, hn] at this
  rw [← this, ← Array.foldl_toList, Array.toList_zipIdx]

theorem take_drop_mid {pre mid post cs : List Value} {off n : Nat} (e2 : pre.length = off) (e3 : mid.length = n) : (List.take off (pre ++ mid ++ post) ++ cs ++ List.drop (off + n) (pre ++ mid ++ post)) = pre ++ cs ++ post := by
  rw [List.append_assoc pre, List.take_append_of_le_length (by omega), List.take_of_length_le (by omega)]
  congr 1
  rw [← List.append_assoc, List.drop_append, List.drop_of_length_le (by simp; omega)]
  have : off + n - (pre ++ mid).length = 0 := by simp; omega
  rw [this]; rfl

theorem foldB_ok {t : TypeId} {place : Nat → Option (Nat × Nat)} (hpl : ∀ j off n, ti.fld t j = some (off, n) → place j = some (off, n)) : ∀ {is : List Nat} {as : List AV} {vs : List Value} {z z' : AV} {C : Array Value},
    foldB ti t z (is.zip as) = some z' → RC F z C.toList → RVs F as vs → is.length = as.length → ∃ C', Instr.fill place C (is.zip vs) = some C' ∧ RC F z' C'.toList := by
  intro is
  induction is with
  | nil =>
    intro as vs z z' C h hz hv hl
    simp only [List.zip_nil_left, foldB, Option.some.injEq] at h
    subst h
    exact ⟨C, by simp [Instr.fill], hz⟩
  | cons i is ih =>
    intro as vs z z' C h hz hv hl
    cases as with
    | nil => simp at hl
    | cons a as =>
      obtain ⟨v, rs, rfl, hv1, hv2⟩ := hv
      simp only [List.zip_cons_cons, foldB] at h
      split at h
      · rename_i off n hf
        split at h
        · rename_i hn
          split at h
          · rename_i z1 hs
            obtain ⟨hc, _, _⟩ := hv1.cells
            have hcl : v.cells.toList.length = n := by rw [RC.length hc, hn]
            obtain ⟨pre, post, mid, e1, e2, e3, e4⟩ := AV.setPart_ok hs hz hc hcl
            have hsz : C.size = pre.length + mid.length + post.length := by rw [← Array.length_toList, e1]; simp [Nat.add_assoc]
            have hvs : v.cells.size = n := by simpa using hcl
            obtain ⟨C', h1, h2⟩ := ih (C := (C.toList.take off ++ v.cells.toList ++ C.toList.drop (off + n)).toArray) h (by rw [e1, take_drop_mid e2 e3]; exact e4) hv2 (by simpa using hl)
            refine ⟨C', ?_, h2⟩
            rw [List.zip_cons_cons, fill_one place C i v _ (hpl _ _ _ hf) hvs (by omega)]
            exact h1
          · cases h
        · cases h
      · cases h

theorem foldS_ok {k : K} : ∀ {is : List Nat} {as : List AV} {vs : List Value} {l l' : List k.T} {p : Prop} {C : Array Value},
    foldS k l (is.zip as) = some (p, l') → p → RowIn F k l C → C.size = l.length * k.es → RVs F as vs → is.length = as.length → ∃ C', Instr.fill (fun i => some (i * k.es, k.es)) C (is.zip vs) = some C' ∧ RowIn F k l' C' ∧ l'.length = l.length ∧ C'.size = C.size := by
  intro is
  induction is with
  | nil =>
    intro as vs l l' p C h hp hr hC hv hl
    simp only [List.zip_nil_left, foldS, Option.some.injEq, Prod.mk.injEq] at h
    obtain ⟨_, rfl⟩ := h
    exact ⟨C, by simp [Instr.fill], hr, rfl, rfl⟩
  | cons i is ih =>
    intro as vs l l' p C h hp hr hC hv hl
    cases as with
    | nil => simp at hl
    | cons a as =>
      obtain ⟨v, rs, rfl, hv1, hv2⟩ := hv
      simp only [List.zip_cons_cons, foldS] at h
      split at h
      · rename_i p1 y hd
        split at h
        · rename_i q l1 hf
          simp only [Option.some.injEq, Prod.mk.injEq] at h
          obtain ⟨rfl, rfl⟩ := h
          obtain ⟨hp1, hil, hq⟩ := hp
          obtain ⟨hc, _, _⟩ := hv1.cells
          have hk := K.dec_ok hd hp1 hc
          have hkl := RK.length hk
          have hend : i * k.es + k.es ≤ C.size := by
            have : (i + 1) * k.es ≤ l.length * k.es := Nat.mul_le_mul_right _ hil
            rw [Nat.add_mul] at this; omega
          have hsz : (C.toList.take (i * k.es) ++ v.cells.toList ++ C.toList.drop (i * k.es + k.es)).toArray.size = C.size := by
            simp only [List.size_toArray, List.length_append, List.length_take, List.length_drop, Array.length_toList]
            have : v.cells.size = k.es := by simpa using hkl
            omega
          obtain ⟨C', h1, h2, h3, h4⟩ := ih hf hq (hr.set (by omega) hil hk) (by rw [hsz, List.length_set]; exact hC) hv2 (by simpa using hl)
          refine ⟨C', ?_, h2, by simpa using h3, by rw [h4, hsz]⟩
          rw [List.zip_cons_cons, fill_one _ C i v _ rfl (by simpa using hkl) hend]
          exact h1
        · cases h
      · cases h
end
end Go.AE
