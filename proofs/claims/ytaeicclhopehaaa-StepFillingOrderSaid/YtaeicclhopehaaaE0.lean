/- States under other names of their own blocks: for loops that append. -/
import Derived.Test.YtaeicclhopehaaaD3
namespace Go.AE
open Go.Proofs Go.RowKit
set_option linter.unusedVariables false
set_option linter.unusedSectionVars false
set_option maxRecDepth 20000

def rn : List (Nat × Option Nat) → Nat → Option Nat
  | [], id => some id
  | (i, o) :: r, id => if i = id then o else rn r id
def Grn (n : Nat) (f : List (Nat × Option Nat)) (G : Gm) : Gm := fun id => if id < n then (match rn f id with | some j => G j | none => some none) else none
def AV.leR (n : Nat) (f : List (Nat × Option Nat)) (a b : AV) : Prop := ∀ F G v, RV F G a v → RV F (Grn n f G) b v
def AV.noid : AV → Bool
  | .ptr _ _ => false
  | .ep _ _ _ _ => false
  | .row _ => false
  | _ => true
theorem AV.leR_of {n : Nat} {f : List (Nat × Option Nat)} {a b : AV} (hb : b.noid = true) (h : AV.le 0 a b) : AV.leR n f a b := by
  intro F G v hv
  have := h F G v hv
  cases b <;> first | exact this | cases hb
theorem AV.leR_ptr {n i j o : Nat} {f : List (Nat × Option Nat)} (hi : i < n) (h : rn f i = some j) : AV.leR n f (.ptr j o) (.ptr i o) := by
  rintro F G v ⟨g, c, h1, h2⟩
  exact ⟨g, c, by simp only [Grn]; rw [if_pos hi, h]; exact h1, h2⟩
theorem AV.leR_ep {n i j es k o : Nat} {f : List (Nat × Option Nat)} (hi : i < n) (h : rn f i = some j) : AV.leR n f (.ep j es k o) (.ep i es k o) := by
  rintro F G v ⟨g, c, h1, h2⟩
  exact ⟨g, c, by simp only [Grn]; rw [if_pos hi, h]; exact h1, h2⟩
theorem AV.leR_row {n i j : Nat} {f : List (Nat × Option Nat)} (hi : i < n) (h : rn f i = some j) : AV.leR n f (.row j) (.row i) := by
  rintro F G v (⟨h1, h2⟩ | ⟨g, c, h1, h2⟩)
  · exact .inl ⟨by simp only [Grn]; rw [if_pos hi, h]; exact h1, h2⟩
  · exact .inr ⟨g, c, by simp only [Grn]; rw [if_pos hi, h]; exact h1, h2⟩
theorem AV.leR_nil {n i : Nat} {f : List (Nat × Option Nat)} (hi : i < n) (h : rn f i = none) : AV.leR n f (.v (.slice none 0 0)) (.row i) := by
  rintro F G v ⟨_, hv⟩
  simp only [List.cons.injEq, and_true] at hv
  exact .inl ⟨by simp only [Grn]; rw [if_pos hi, h], hv⟩

def slLeR (n : Nat) (f : List (Nat × Option Nat)) (sl : Nat → AV) : List (Nat × AV) → Prop
  | [] => True
  | (t, x) :: r => AV.leR n f (sl t) x ∧ slLeR n f sl r
def entLeR (m : MM) : Option Nat → Option Ent → Prop
  | some j, e => entLe (m j) e
  | none, none => True
  | none, some (.row _ _ l _) => l = []
  | none, some (.box _ _) => False
def memLeR (n : Nat) (f : List (Nat × Option Nat)) (m : MM) : List (Nat × Option Ent) → Prop
  | [] => True
  | (id, e) :: r => (e = none ∨ id < n) ∧ entLeR m (rn f id) e ∧ memLeR n f m r
def injB (f : List (Nat × Option Nat)) : List (Nat × Option Ent) → Bool
  | [] => true
  | (id, _) :: r => r.all (fun p => p.1 == id || (rn f id).isNone || !(rn f id == rn f p.1)) && injB f r

theorem slLeR_lk {n : Nat} {f : List (Nat × Option Nat)} {sl : Nat → AV} : ∀ {l : List (Nat × AV)}, slLeR n f sl l → ∀ t, AV.leR n f (sl t) (lkS l t) := by
  intro l
  induction l with
  | nil => intro h t; exact fun _ _ _ _ => trivial
  | cons p r ih =>
    obtain ⟨t', x⟩ := p
    rintro ⟨h1, h2⟩ t
    simp only [lkS]
    split
    · rename_i e; subst e; exact h1
    · exact ih h2 t
theorem memLeR_lk {n : Nat} {f : List (Nat × Option Nat)} {m : MM} : ∀ {l : List (Nat × Option Ent)}, memLeR n f m l → ∀ id e, lkM l id = some e → id < n ∧ entLeR m (rn f id) (some e) := by
  intro l
  induction l with
  | nil => intro h id e he; cases he
  | cons p r ih =>
    obtain ⟨id', x⟩ := p
    rintro ⟨h1, h2, h3⟩ id e he
    simp only [lkM] at he
    split at he
    · rename_i e0; subst e0 he
      refine ⟨?_, h2⟩
      rcases h1 with h1 | h1
      · cases h1
      · exact h1
    · exact ih h3 id e he
theorem lkM_mem : ∀ {l : List (Nat × Option Ent)} {id : Nat} {e : Ent}, lkM l id = some e → ∃ p ∈ l, p.1 = id := by
  intro l
  induction l with
  | nil => intro id e h; cases h
  | cons p r ih =>
    obtain ⟨i, x⟩ := p
    intro id e h
    simp only [lkM] at h
    split at h
    · rename_i e0; exact ⟨_, List.mem_cons_self, e0⟩
    · obtain ⟨p, h1, h2⟩ := ih h; exact ⟨p, List.mem_cons_of_mem _ h1, h2⟩
theorem injB_mem {f : List (Nat × Option Nat)} : ∀ {l : List (Nat × Option Ent)}, injB f l = true → ∀ p ∈ l, ∀ q ∈ l, ∀ j, rn f p.1 = some j → rn f q.1 = some j → p.1 = q.1 := by
  intro l
  induction l with
  | nil => intro _ p hp; cases hp
  | cons a r ih =>
    obtain ⟨i, x⟩ := a
    intro h p hp q hq j h1 h2
    simp only [injB, Bool.and_eq_true, List.all_eq_true, Bool.or_eq_true, beq_iff_eq, Bool.not_eq_true', beq_eq_false_iff_ne, ne_eq] at h
    obtain ⟨h3, h4⟩ := h
    rcases List.mem_cons.1 hp with rfl | hp <;> rcases List.mem_cons.1 hq with rfl | hq
    · rfl
    · have := h3 q hq
      rw [h1, h2] at this
      exact (by simpa using this : q.1 = i).symm
    · have := h3 p hp
      rw [h1, h2] at this
      simpa using this
    · exact ih h4 p hp q hq j h1 h2
section
variable {P : Program} {ti : TI} {nt : Nat}
theorem AS.le_ren (f : List (Nat × Option Nat)) {τ σ : AS} (h1 : slLeR σ.nx f (lkS τ.sl) σ.sl) (h2 : memLeR σ.nx f (lkM τ.mem) σ.mem) (h3 : injB f σ.mem = true) : AS.le nt τ σ := by
  rintro w0 F0 a w ⟨F, G, hm, hs, hsz, hdf⟩
  have hgr : ∀ id g c, Grn σ.nx f G id = some (some (g, c)) → ∃ j, rn f id = some j ∧ G j = some (some (g, c)) := by
    intro id g c h
    simp only [Grn] at h
    split at h
    · split at h
      · rename_i j hj; exact ⟨j, hj, h⟩
      · cases h
    · cases h
  refine ⟨F, Grn σ.nx f G, ⟨hm.le0, hm.old, hm.fit, hm.below, fun id e he => ?_, ?_, fun id hid => ?_⟩, fun t => slLeR_lk h1 t F G _ (hs t), hsz, hdf⟩
  · obtain ⟨h4, h5⟩ := memLeR_lk h2 id e he
    cases hf : rn f id with
    | none =>
      have hG : Grn σ.nx f G id = some none := by simp only [Grn]; rw [if_pos h4, hf]
      rw [hf] at h5
      cases e with
      | box T y => exact h5.elim
      | row T k l fz => exact .inl ⟨hG, h5⟩
    | some j =>
      have hG : Grn σ.nx f G id = G j := by simp only [Grn]; rw [if_pos h4, hf]
      rw [hf] at h5
      replace h5 : entLe (lkM τ.mem j) (some e) := h5
      cases hτ : lkM τ.mem j with
      | none => rw [hτ] at h5; cases h5
      | some e' =>
        rw [hτ] at h5
        have ho := hm.own j e' hτ
        cases e' with
        | box T x =>
          cases e with
          | box T' y =>
            obtain ⟨rfl, h6⟩ := h5
            obtain ⟨g, cs, a1, a2, a3, a4, a5⟩ := ho
            exact ⟨g, cs, by rw [hG]; exact a1, a2, a3, a4, h6 F cs a5⟩
          | row T' k' l' fz' => exact h5.elim
        | row T' k' l fz =>
          have h6 : e = .row T' k' l fz := by
            cases e with
            | box T2 y => exact h5.elim
            | row T2 k2 l2 fz2 => exact Eq.symm h5
          subst h6
          rcases ho with ⟨a1, a2⟩ | ⟨g, c, C, a1, a2⟩
          · exact .inl ⟨by rw [hG]; exact a1, a2⟩
          · exact .inr ⟨g, c, C, by rw [hG]; exact a1, a2⟩
  · intro i i' e e' g c c' hi hi' hg hg'
    obtain ⟨_, h4⟩ := memLeR_lk h2 i e hi
    obtain ⟨_, h5⟩ := memLeR_lk h2 i' e' hi'
    obtain ⟨j, hj, hgj⟩ := hgr _ _ _ hg
    obtain ⟨j', hj', hgj'⟩ := hgr _ _ _ hg'
    rw [hj] at h4
    rw [hj'] at h5
    replace h4 : entLe (lkM τ.mem j) (some e) := h4
    replace h5 : entLe (lkM τ.mem j') (some e') := h5
    cases hτ : lkM τ.mem j with
    | none => rw [hτ] at h4; cases h4
    | some x =>
      cases hτ' : lkM τ.mem j' with
      | none => rw [hτ'] at h5; cases h5
      | some y =>
        obtain rfl := hm.inj j j' x y g c c' hτ hτ' hgj hgj'
        obtain ⟨p, hp, rfl⟩ := lkM_mem hi
        obtain ⟨q, hq, rfl⟩ := lkM_mem hi'
        exact injB_mem h3 p hp q hq j hj hj'
  · simp only [Grn]
    rw [if_neg hid]
end

/-! ### Another reading of the types, from here on -/
section
variable {P : Program} {ti ti2 : TI} {env : Env} {nt : Nat} {fin : AS → Prop}
theorem den_switch (ok : TIOk P ti) : ∀ (k : Kst) (e : Exit) (σ : AS), den P ti env nt fin k e σ → den P ti2 env nt fin k e σ := by
  intro k
  induction k with
  | nil => intro e σ h; cases e <;> exact h
  | code c k ih =>
    intro e σ h
    cases e <;> first
      | exact ih _ _ h
      | exact fun _ henv hmix w0 F0 a w hg => wp_mono (h ok henv hmix w0 F0 a w hg) (Out.imp (fun e τ => ih e τ))
  | blk id k ih =>
    intro e σ h
    cases e <;> first
      | exact ih _ _ h
      | (simp only [den] at h ⊢
         split at h
         · rename_i e; rw [if_pos e]; exact ih _ _ h
         · rename_i e; rw [if_neg e]; exact ih _ _ h)
  | lp I k ih =>
    intro e σ h
    cases e <;> first
      | exact ih _ _ h
      | exact h
theorem run_switch (ok : TIOk P ti) {c : Code} {k : Kst} {σ : AS} (h : Run P ti env nt fin c k σ) : Run P ti2 env nt fin c k σ :=
  fun _ henv hmix w0 F0 a w hg => wp_mono (h ok henv hmix w0 F0 a w hg) (Out.imp (fun e τ => den_switch ok k e τ))
theorem step_switch (ok : TIOk P ti) {k : Kst} {σ : AS} (h : Step P ti env nt fin k σ) : Step P ti2 env nt fin k σ := den_switch ok k .normal σ h
theorem step_weak' {k : Kst} {σ σ' : AS} (h : AS.le nt σ σ') (hc : ∃ c k', k = .code c k') (hs : Step P ti env nt fin k σ') : Step P ti env nt fin k σ := by
  obtain ⟨c, k', rfl⟩ := hc
  exact run_weak h hs
end
def ti_ek2 : TypeId → Option (TypeId × K) := fun t => match t with
    | 22 => some (26, .stp) | 29 => some (72, .u32) | 42 => some (4, .bool) | 44 => some (33, .qx) | 71 => some (69, .ex) | 109 => some (111, .way) | 122 => some (2, .i64) | 124 => some (44, .qxs) | 151 => some (42, .bs) | 155 => some (3, .i64)
    | _ => none
def ti2 : TI := ⟨ti_sz, ti_zero, ti_zeroB, ti_fld, ti_ek2, ti_int, ti_isb, ti_eq2, ti_f1, ti_ms⟩
theorem tie2_sz : ti2.sz = ti_sz := rfl
theorem tie2_zero : ti2.zero = ti_zero := rfl
theorem tie2_zeroB : ti2.zeroB = ti_zeroB := rfl
theorem tie2_fld : ti2.fld = ti_fld := rfl
theorem tie2_ek : ti2.ek = ti_ek2 := rfl
theorem tie2_int : ti2.int = ti_int := rfl
theorem tie2_isb : ti2.isb = ti_isb := rfl
theorem tie2_eq2 : ti2.eq2 = ti_eq2 := rfl
theorem tie2_f1 : ti2.f1 = ti_f1 := rfl
theorem tie2_ms : ti2.ms = ti_ms := rfl
theorem ti2Ok : TIOk Try.prog ti2 :=
  { sz := tiOk.sz, zero := tiOk.zero, zeroB := tiOk.zeroB, fld := tiOk.fld, int := tiOk.int, isb := tiOk.isb, eq2 := tiOk.eq2, f1 := tiOk.f1, ms := tiOk.ms
    ek := by
      intro t e k h
      simp only [ti2, ti_ek2] at h
      split at h <;> first
        | (cases h; refine ⟨rfl, _, _, rfl, rfl, rfl, rfl, rfl, ?_⟩
           intro F
           first
             | exact (rfl : _ = _)
             | exact ⟨rfl, by decide, by decide⟩
             | exact rq_zero F
             | exact ⟨_, rfl, rl_nil _ _ _⟩
             | exact ⟨_, _, rfl, rl_nil _ _ _, rl_nil _ _ _⟩
             | exact ⟨_, _, rfl, rq_zero F, rl_nil _ _ _⟩)
        | cases h }
end Go.AE
