/- A region may go in whatever order its edges allow: it comes to what the text's order comes to. -/
import Derived.Test.YtaeicclhopehaaaAeB
namespace Go.AE
open Go.RowKit
set_option linter.unusedVariables false

/-! ### The order -/
theorem maskOf_bit {acc : List Nat} {i : Nat} : ∀ {es : List Edge}, (maskOf acc es).testBit i = true → ∃ e ∈ es, Region.binds .any e = true ∧ (i = e.on ∨ (acc.getD e.on 0).testBit i = true) := by
  intro es
  induction es with
  | nil => intro h; simp [maskOf] at h
  | cons e r ih =>
    intro h
    simp only [maskOf] at h
    split at h
    · rename_i hb
      simp only [Nat.testBit_or, Bool.or_eq_true, Nat.testBit_two_pow, decide_eq_true_eq] at h
      rcases h with h | h | h
      · exact ⟨e, by simp, hb, .inl h.symm⟩
      · exact ⟨e, by simp, hb, .inr h⟩
      · obtain ⟨e', h1, h2⟩ := ih h; exact ⟨e', by simp [h1], h2⟩
    · obtain ⟨e', h1, h2⟩ := ih h; exact ⟨e', by simp [h1], h2⟩

theorem befs_ok : ∀ (r : List Oper) (pre : List Oper) (acc : List Nat), acc.length = pre.length →
    (∀ j (hj : j < pre.length), ∀ i, (acc.getD j 0).testBit i = true → ∃ e ∈ pre[j].after.toList, Region.binds .any e = true ∧ (i = e.on ∨ (e.on < j ∧ (acc.getD e.on 0).testBit i = true))) →
    ∀ j (hj : j < (pre ++ r).length), ∀ i, ((befs r acc).getD j 0).testBit i = true → ∃ e ∈ (pre ++ r)[j].after.toList, Region.binds .any e = true ∧ (i = e.on ∨ (e.on < j ∧ ((befs r acc).getD e.on 0).testBit i = true)) := by
  intro r
  induction r with
  | nil => intro pre acc hl h; simpa [befs] using h
  | cons o r ih =>
    intro pre acc hl h
    have key := ih (pre ++ [o]) (acc ++ [maskOf acc o.after.toList]) (by simp [hl]) ?_
    · intro j hj i hb
      have := key j (by simpa using hj) i hb
      simpa [befs] using this
    · intro j hj i hb
      by_cases hjl : j < pre.length
      · have hacc : (acc ++ [maskOf acc o.after.toList]).getD j 0 = acc.getD j 0 := by
          simp [List.getD_eq_getElem?_getD, List.getElem?_append_left (show j < acc.length by omega)]
        rw [hacc] at hb
        obtain ⟨e, h1, h2, h3⟩ := h j hjl i hb
        refine ⟨e, by rw [List.getElem_append_left hjl]; exact h1, h2, ?_⟩
        rcases h3 with h3 | ⟨h3, h4⟩
        · exact .inl h3
        · refine .inr ⟨h3, ?_⟩
          have : (acc ++ [maskOf acc o.after.toList]).getD e.on 0 = acc.getD e.on 0 := by
            simp [List.getD_eq_getElem?_getD, List.getElem?_append_left (show e.on < acc.length by omega)]
          rw [this]; exact h4
      · have hje : j = pre.length := by simp at hj; omega
        subst hje
        have hacc : (acc ++ [maskOf acc o.after.toList]).getD pre.length 0 = maskOf acc o.after.toList := by
          simp [List.getD_eq_getElem?_getD, ← hl]
        rw [hacc] at hb
        obtain ⟨e, h1, h2, h3⟩ := maskOf_bit hb
        refine ⟨e, by simpa using h1, h2, ?_⟩
        rcases h3 with h3 | h3
        · exact .inl h3
        · by_cases hlt : e.on < acc.length
          · refine .inr ⟨by omega, ?_⟩
            have : (acc ++ [maskOf acc o.after.toList]).getD e.on 0 = acc.getD e.on 0 := by
              simp [List.getD_eq_getElem?_getD, List.getElem?_append_left hlt]
            rw [this]; exact h3
          · rw [List.getD_eq_getElem?_getD, List.getElem?_eq_none (by omega)] at h3; simp at h3

/-- What has come is closed: whatever must come ahead of it has come. -/
def Closed (ops : List Oper) (L : Nat → Bool) : Prop := ∀ k (h : k < ops.length), L k = true → ∀ e ∈ ops[k].after.toList, Region.binds .any e = true → L e.on = true
theorem anc_listed {ops : List Oper} {L : Nat → Bool} (hc : Closed ops L) : ∀ (j : Nat) (hj : j < ops.length), (∀ e ∈ ops[j].after.toList, Region.binds .any e = true → L e.on = true) → ∀ i, ((befs ops []).getD j 0).testBit i = true → L i = true := by
  intro j
  induction j using Nat.strongRecOn with
  | _ j ih =>
    intro hj hr i hb
    obtain ⟨e, h1, h2, h3⟩ := befs_ok ops [] [] rfl (fun j hj => by simp at hj) j (by simpa using hj) i hb
    have h1' : e ∈ ops[j].after.toList := by simpa using h1
    have hon := hr e h1' h2
    rcases h3 with rfl | ⟨h3, h4⟩
    · exact hon
    · exact ih e.on h3 (by omega) (fun e' he' hb' => hc e.on (by omega) hon e' he' hb') i h4

/-! ### Entries -/
structure En where
  o : Oper
  run : Bool
  r : AV
  ws : Ws
  nid : Nat
  ri : List Nat
def wrS (t : Nat) (e : En) : Option AV := if e.o.dst = some t then some (if e.run = true then e.r else .un) else none
def lastOf : Ws → Nat → Option (Option Ent)
  | [], _ => none
  | p :: r, id => match lastOf r id with
    | some x => some x
    | none => if id = p.1 then some p.2 else none
def wrM (id : Nat) (e : En) : Option (Option Ent) := if e.run = true then lastOf e.ws id else none
theorem upd_last : ∀ (ws : Ws) (m : MM) (id : Nat), m.upd ws id = (lastOf ws id).getD (m id) := by
  intro ws
  induction ws with
  | nil => intro m id; rfl
  | cons p r ih =>
    intro m id
    rw [show m.upd (p :: r) = (m.set p.1 p.2).upd r from rfl, ih]
    simp only [lastOf]
    cases h : lastOf r id with
    | some x => simp
    | none =>
      simp only [Option.getD_none, MM.set]
      split <;> simp
theorem lastOf_mem : ∀ {ws : Ws} {id : Nat}, (lastOf ws id).isSome = true → id ∈ ws.map (·.1) := by
  intro ws
  induction ws with
  | nil => intro id h; simp [lastOf] at h
  | cons p r ih =>
    intro id h
    simp only [lastOf] at h
    cases hr : lastOf r id with
    | some x => simp [ih (by rw [hr]; rfl : (lastOf r id).isSome = true)]
    | none =>
      rw [hr] at h
      simp only at h
      split at h
      · rename_i e; simp [e]
      · cases h

def slAt (es : List En) (sl0 : Nat → AV) (L : Nat → Bool) (t : Nat) : AV := lastW (wrS t) L 0 es (sl0 t)
def mAt (es : List En) (m0 : MM) (L : Nat → Bool) : MM := fun id => lastW (wrM id) L 0 es (m0 id)
def lt (j : Nat) (k : Nat) : Bool := decide (k < j)

/-- The guard's word on an entry. -/
def gOk (dsts : List (Option Tmp)) (sl : Nat → AV) (e : En) : Prop :=
  match e.o.guard with
  | none => e.run = true
  | some (g, gb) => ∃ d, gdst dsts g = some d ∧ ((e.run = true ∧ sl d = .v (.bool gb)) ∨ (e.run = false ∧ (sl d = .v (.bool !gb) ∨ sl d = .un)))

/-- The entries are what the text's order comes to. -/
structure TV (nt : Nat) (ti : TI) (env : Env) (ops : List Oper) (es : List En) (sl0 : Nat → AV) (m0 : MM) (n0 n1 : Nat) : Prop where
  len : es.length = ops.length
  op : ∀ j (h : j < es.length), ops[j]'(len ▸ h) = es[j].o
  dst : ∀ j (h : j < es.length) d, es[j].o.dst = some d → d < nt
  guard : ∀ j (h : j < es.length), gOk (ops.map (·.dst)) (slAt es sl0 (lt j)) es[j]
  eff : ∀ j (h : j < es.length), es[j].run = true → es[j].ri = opIds (evO (slAt es sl0 (lt j))) es[j].o.op ∧ ∃ p, opEff ti env (evO (slAt es sl0 (lt j))) (mAt es m0 (lt j)) es[j].nid es[j].o.op = some (p, es[j].r, es[j].ws) ∧ p
  nid : ∀ j (h : j < es.length), es[j].run = true → n0 ≤ es[j].nid ∧ es[j].nid < n1
  ndist : ∀ i j (hi : i < es.length) (hj : j < es.length), i < j → es[i].run = true → es[j].run = true → es[i].nid < es[j].nid

/-- What two entries share is ordered. -/
def Apart (ops : List Oper) (es : List En) : Prop :=
  ∀ i j (hi : i < es.length) (hj : j < es.length), i < j → es[i].run = true → es[j].run = true →
    (∃ id, (id ∈ es[i].ws.map (·.1) ∧ (id ∈ es[j].ri ∨ id ∈ es[j].ws.map (·.1))) ∨ (id ∈ es[j].ws.map (·.1) ∧ id ∈ es[i].ri)) → ((befs ops []).getD j 0).testBit i = true

theorem regOk_edges {ops : List Oper} (h : regOk ops = true) {j : Nat} (hj : j < ops.length) {e : Edge} (he : e ∈ ops[j].after.toList) (hb : Region.binds .any e = true) : e.on < j := by
  simp only [regOk, Bool.and_eq_true, List.all_eq_true] at h
  have := h.1 (ops[j], j) (by rw [List.mem_zipIdx_iff_getElem?]; simp [hj]) e he
  simpa [hb] using this
theorem regOk_slots {ops : List Oper} (h : regOk ops = true) {i j : Nat} (hi : i < ops.length) (hj : j < ops.length) (hne : i ≠ j) {t : Tmp} (ht : t ∈ names (ops.map (·.dst)) ops[j]) (hd : ops[i].dst = some t) :
    (i < j → ((befs ops []).getD j 0).testBit i = true) ∧ (j < i → ((befs ops []).getD i 0).testBit j = true) := by
  simp only [regOk, Bool.and_eq_true, List.all_eq_true] at h
  have h1 := h.2 (ops[j], j) (by rw [List.mem_zipIdx_iff_getElem?]; simp [hj]) t ht (some t, i) (by rw [List.mem_zipIdx_iff_getElem?]; simp [hi, hd])
  simp [hne] at h1
  constructor
  · intro hlt; simpa [hlt] using h1
  · intro hlt; simpa [Nat.not_lt_of_lt hlt] using h1
end Go.AE
