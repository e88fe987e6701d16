/- Code, on states; and a function's contract out of it. -/
import Derived.Test.YtaeicclhopehaaaAeE
import Derived.Deep.LoopGhost
namespace Go.AE
open Go.RowKit
set_option linter.unusedVariables false
set_option linter.unusedSectionVars false

def Out (w0 : World) (F0 : Fz) (nt : Nat) (Q : Exit → AS → Prop) : Exit → Act → World → Prop
  | .panic _, _, _ => False
  | .outgrown, _, _ => False
  | e, a, w => ∃ τ, Gam w0 F0 nt τ a w ∧ Q e τ

def GoC (P : Program) (ti : TI) (env : Env) (nt : Nat) (c : Code) (σ : AS) (Q : Exit → AS → Prop) : Prop :=
  TIOk P ti → EnvOk P env → P.follows .mixedOrders = true → ∀ w0 F0 a w, Gam w0 F0 nt σ a w → c.wp P (Out w0 F0 nt Q) a w

/-- What is still to be done. -/
inductive Kst where
  | nil
  | code (c : Code) (k : Kst)
  | blk (id : Nat) (k : Kst)
  | lp (I : AS → Prop) (k : Kst)

section
variable (P : Program) (ti : TI) (env : Env) (nt : Nat) (fin : AS → Prop)

def den : Kst → Exit → AS → Prop
  | .nil, .normal, σ => fin σ
  | .nil, .ret, σ => fin σ
  | .nil, _, _ => False
  | .code c k, .normal, σ => GoC P ti env nt c σ (den k)
  | .code _ k, e, σ => den k e σ
  | .blk _ k, .normal, σ => den k .normal σ
  | .blk id k, .exit j, σ => if j = id then den k .normal σ else den k (.exit j) σ
  | .blk _ k, e, σ => den k e σ
  | .lp I _, .normal, σ => I σ
  | .lp _ k, e, σ => den k e σ

def Run (c : Code) (k : Kst) (σ : AS) : Prop := GoC P ti env nt c σ (den P ti env nt fin k)
def Step (k : Kst) (σ : AS) : Prop := den P ti env nt fin k .normal σ
def Exits (k : Kst) (id : Nat) (σ : AS) : Prop := den P ti env nt fin k (.exit id) σ
end

section
variable {P : Program} {ti : TI} {env : Env} {nt : Nat} {fin : AS → Prop} {k : Kst} {σ : AS}

theorem Out.imp {w0 : World} {F0 : Fz} {Q Q' : Exit → AS → Prop} (h : ∀ e τ, Q e τ → Q' e τ) : ∀ e a w, Out w0 F0 nt Q e a w → Out w0 F0 nt Q' e a w := by
  intro e a w ho
  cases e <;> first
    | exact ho
    | (obtain ⟨τ, h1, h2⟩ := ho; exact ⟨τ, h1, h _ _ h2⟩)

theorem step_code {c : Code} (h : Run P ti env nt fin c k σ) : Step P ti env nt fin (.code c k) σ := h
theorem step_blk {id : Nat} (h : Step P ti env nt fin k σ) : Step P ti env nt fin (.blk id k) σ := h
theorem step_nil (h : fin σ) : Step P ti env nt fin .nil σ := h
theorem step_lp {I : AS → Prop} (h : I σ) : Step P ti env nt fin (.lp I k) σ := h
theorem exits_code {c : Code} {id : Nat} (h : Exits P ti env nt fin k id σ) : Exits P ti env nt fin (.code c k) id σ := h
theorem exits_here {id : Nat} (h : Step P ti env nt fin k σ) : Exits P ti env nt fin (.blk id k) id σ := by
  show (if id = id then _ else _)
  rw [if_pos rfl]; exact h
theorem exits_blk {id j : Nat} (hne : (j == id) = false) (h : Exits P ti env nt fin k j σ) : Exits P ti env nt fin (.blk id k) j σ := by
  show (if j = id then _ else _)
  rw [if_neg (by simpa using hne)]; exact h
theorem exits_lp {I : AS → Prop} {id : Nat} (h : Exits P ti env nt fin k id σ) : Exits P ti env nt fin (.lp I k) id σ := h
theorem den_ret : ∀ {k : Kst}, fin σ → den P ti env nt fin k .ret σ := by
  intro k h
  induction k with
  | nil => exact h
  | code c k ih => exact ih
  | blk id k ih => exact ih
  | lp I k ih => exact ih

theorem run_seq {x y : Code} (h : Run P ti env nt fin x (.code y k) σ) : Run P ti env nt fin (.seq x y) k σ := by
  intro ok henv hmix w0 F0 a w hg
  refine wp_seq (wp_mono (h ok henv hmix w0 F0 a w hg) ?_)
  intro e a' w' ho
  cases e with
  | normal => obtain ⟨τ, h1, h2⟩ := ho; exact h2 ok henv hmix w0 F0 a' w' h1
  | exit id => exact ho
  | goto l => exact ho
  | ret => exact ho
  | panic ch => exact ho
  | outgrown => exact ho
theorem run_block {id : Nat} {c : Code} (h : Run P ti env nt fin c (.blk id k) σ) : Run P ti env nt fin (.block id c) k σ := by
  intro ok henv hmix w0 F0 a w hg
  refine wp_block (wp_mono (h ok henv hmix w0 F0 a w hg) ?_)
  intro e a' w' ho
  cases e with
  | normal => exact ho
  | exit j =>
    obtain ⟨τ, h1, h2⟩ := ho
    simp only [den] at h2
    simp only [Exit.inBlock]
    split
    · rename_i e; rw [if_pos e] at h2; exact ⟨τ, h1, h2⟩
    · rename_i e; rw [if_neg e] at h2; exact ⟨τ, h1, h2⟩
  | goto l => exact ho
  | ret => exact ho
  | panic ch => exact ho
  | outgrown => exact ho
theorem run_skip (h : Step P ti env nt fin k σ) : Run P ti env nt fin .skip k σ := fun ok henv hmix w0 F0 a w hg => wp_skip ⟨σ, hg, h⟩
theorem run_exit {id : Nat} (h : Exits P ti env nt fin k id σ) : Run P ti env nt fin (.exit id) k σ := fun ok henv hmix w0 F0 a w hg => wp_exit ⟨σ, hg, h⟩
theorem run_ret (h : fin σ) : Run P ti env nt fin .ret k σ := fun ok henv hmix w0 F0 a w hg => wp_ret ⟨σ, hg, den_ret h⟩
theorem run_cond {c : Operand} {x y : Code} {b : Bool} (hc : evO (lkS σ.sl) c = .v (.bool b)) (ht : b = true → Run P ti env nt fin x k σ) (hf : b = false → Run P ti env nt fin y k σ) : Run P ti env nt fin (.cond c x y) k σ := by
  intro ok henv hmix w0 F0 a w hg
  obtain ⟨F, G, hm, hs, hsz, hdf⟩ := id hg
  have := evO_ok hs c
  rw [hc] at this
  exact wp_cond_split (RV_v this).1 (fun hb => ht hb ok henv hmix w0 F0 a w hg) (fun hb => hf hb ok henv hmix w0 F0 a w hg)
theorem run_region {id : Nat} {ops : Array Oper} (h : evalQ nt ti env (ops.toList.map (·.dst)) ops.toList σ (Step P ti env nt fin k)) : Run P ti env nt fin (.region id ops false) k σ := by
  intro ok henv hmix w0 F0 a w hg
  exact region_seq ok henv h hg (fun τ a w h1 h2 => ⟨τ, h1, h2⟩)
theorem run_draw {id : Nat} {ops : Array Oper} (hreg : regOk ops.toList = true) (h : evalR nt ti env (ops.toList.map (·.dst)) 0 ops.toList σ [] (fun τ efs => compat ops.toList efs = true ∧ Step P ti env nt fin k τ)) : Run P ti env nt fin (.region id ops true) k σ := by
  intro ok henv hmix w0 F0 a w hg
  exact region_draw ok henv hmix hreg h hg (fun τ a w h1 h2 => ⟨τ, h1, h2⟩)

/-! ### Weakening -/
def AS.le (nt : Nat) (τ σ : AS) : Prop := ∀ w0 F0 a w, Gam w0 F0 nt τ a w → Gam w0 F0 nt σ a w
theorem AS.le.refl (σ : AS) : AS.le nt σ σ := fun _ _ _ _ h => h
theorem run_weak {c : Code} {σ' : AS} (h : AS.le nt σ σ') (hr : Run P ti env nt fin c k σ') : Run P ti env nt fin c k σ := fun ok henv hmix w0 F0 a w hg => hr ok henv hmix w0 F0 a w (h w0 F0 a w hg)

theorem run_loop {ι : Type} (S : ι → AS) (p : ι → Prop) (μ : ι → Nat) (x0 : ι) {c : Code} (hp : p x0) (h0 : AS.le nt σ (S x0))
    (round : ∀ x, p x → Run P ti env nt fin c (.lp (fun τ => ∃ y, p y ∧ μ y < μ x ∧ AS.le nt τ (S y)) k) (S x)) : Run P ti env nt fin (.loop c) k σ := by
  intro ok henv hmix w0 F0 a w hg
  refine wp_loop_ghost (fun n a w => ∃ x, μ x = n ∧ p x ∧ Gam w0 F0 nt (S x) a w) (μ x0) ⟨x0, rfl, hp, h0 w0 F0 a w hg⟩ ?_
  rintro n a w ⟨x, rfl, hpx, hgx⟩
  refine wp_mono (round x hpx ok henv hmix w0 F0 a w hgx) ?_
  intro e a' w' ho
  cases e with
  | normal =>
    obtain ⟨τ, h1, y, h2, h3, h4⟩ := ho
    exact ⟨μ y, h3, y, rfl, h2, h4 w0 F0 a' w' h1⟩
  | exit j => exact ho
  | goto l => exact ho
  | ret => exact ho
  | panic ch => exact ho
  | outgrown => exact ho
/-- The ways through c meet again. -/
theorem run_cut {c : Code} (I : AS → Prop) (h : Run P ti env nt fin c (.lp I k) σ) (h2 : ∀ τ, I τ → Step P ti env nt fin k τ) : Run P ti env nt fin c k σ := by
  intro ok henv hmix w0 F0 a w hg
  refine wp_mono (h ok henv hmix w0 F0 a w hg) ?_
  intro e a' w' ho
  cases e with
  | normal => obtain ⟨τ, h3, h4⟩ := ho; exact ⟨τ, h3, h2 τ h4⟩
  | exit j => exact ho
  | goto l => exact ho
  | ret => exact ho
  | panic ch => exact ho
  | outgrown => exact ho

/-- What follows may start from a weaker state. -/
theorem step_weak {σ' : AS} (h : AS.le nt σ σ') : ∀ {k : Kst}, (∀ I k', k ≠ .lp I k') → (k ≠ .nil) → (∀ id k', k ≠ .blk id k') → Step P ti env nt fin k σ' → Step P ti env nt fin k σ := by
  intro k h1 h2 h3 hs
  cases k with
  | nil => exact absurd rfl h2
  | code c k => exact run_weak h hs
  | blk id k => exact absurd rfl (h3 id k)
  | lp I k => exact absurd rfl (h1 I k)

def Gr (n : Nat) (G : Gm) : Gm := fun id => if id < n then G id else none
/-- One value tells what another tells, of the entries below n. -/
def AV.le (n : Nat) (a b : AV) : Prop := ∀ F G v, RV F G a v → RV F (Gr n G) b v
def AV.under (n : Nat) : AV → Bool
  | .ptr id _ => decide (id < n)
  | .ep id _ _ _ => decide (id < n)
  | .row id => decide (id < n)
  | _ => true
theorem AV.le_refl {n : Nat} {a : AV} (h : a.under n = true) : AV.le n a a := by
  intro F G v hv
  cases a <;> first
    | exact hv
    | (simp only [AV.under, decide_eq_true_eq] at h
       first
         | (obtain ⟨g, c, h1, h2⟩ := hv; exact ⟨g, c, by simp only [Gr]; rw [if_pos h]; exact h1, h2⟩)
         | (rcases hv with ⟨h1, h2⟩ | ⟨g, c, h1, h2⟩
            · exact .inl ⟨by simp only [Gr]; rw [if_pos h]; exact h1, h2⟩
            · exact .inr ⟨g, c, by simp only [Gr]; rw [if_pos h]; exact h1, h2⟩))
theorem AV.le_junk {n : Nat} {a : AV} : AV.le n a .junk := fun _ _ _ _ => trivial
theorem AV.le_of_eq {n : Nat} {a b : AV} (e : a = b) (h : b.under n = true) : AV.le n a b := e ▸ AV.le_refl (e ▸ h)
theorem AV.le_int {n : Nat} {k : IntKind} {x y : Int} (e : x = y) : AV.le n (.v (.int k x)) (.v (.int k y)) := AV.le_of_eq (by rw [e]) rfl
theorem AV.le_bool {n : Nat} {x y : Bool} (e : x = y) : AV.le n (vb x) (vb y) := AV.le_of_eq (by rw [e]) rfl
theorem AV.le_lst {n : Nat} {k : K} {x y : List k.T} (e : x = y) : AV.le n (.lst k x) (.lst k y) := AV.le_of_eq (by rw [e]) rfl
theorem AV.le_q {n : Nat} {x y : Rat} {c d : Bool} {s t : Nat} (e : x = y) (hc : d = true → c = true) (hs : s ≤ t) : AV.le n (.q x c s) (.q y d t) := by
  subst e
  intro F G v hv
  obtain ⟨cs, ⟨nn, dd, c1, c2, cn, cd, h1, h2, h3, h4, h5⟩, h6⟩ := (show ∃ cs, RC F (.q x c s) cs ∧ v = .agg cs.toArray from hv)
  obtain ⟨neg, sv, ws, a1, a2, a3, a4, a5⟩ := h2
  obtain ⟨neg', sv', ws', b1, b2, b3, b4, b5⟩ := h3
  exact (show ∃ cs, RC F (.q x d t) cs ∧ v = .agg cs.toArray from ⟨cs, ⟨nn, dd, c1, c2, cn, cd, h1, ⟨neg, sv, ws, a1, a2, by omega, a4, a5⟩, ⟨neg', sv', ws', b1, b2, by omega, b4, b5⟩, h4, fun hd => h5 (hc hd)⟩, h6⟩)

def slLe (n : Nat) (sl : Nat → AV) : List (Nat × AV) → Prop
  | [] => True
  | (t, x) :: r => AV.le n (sl t) x ∧ slLe n sl r
def entLe : Option Ent → Option Ent → Prop
  | _, none => True
  | none, some _ => False
  | some (.box T a), some (.box T' b) => T = T' ∧ ∀ F cs, RC F a cs → RC F b cs
  | some (.box _ _), some (.row _ _ _ _) => False
  | some (.row T k l fz), some (.row T' k' l' fz') => Ent.row T k l fz = Ent.row T' k' l' fz'
  | some (.row _ _ _ _), some (.box _ _) => False
def memLe (n : Nat) (m : MM) : List (Nat × Option Ent) → Prop
  | [] => True
  | (id, e) :: r => (e = none ∨ id < n) ∧ entLe (m id) e ∧ memLe n m r

theorem slLe_lk {n : Nat} {sl : Nat → AV} : ∀ {l : List (Nat × AV)}, slLe n sl l → ∀ t, AV.le n (sl t) (lkS l t) := by
  intro l
  induction l with
  | nil => intro h t; exact AV.le_junk
  | cons p r ih =>
    obtain ⟨t', x⟩ := p
    rintro ⟨h1, h2⟩ t
    simp only [lkS]
    split
    · rename_i e; subst e; exact h1
    · exact ih h2 t
theorem memLe_lk {n : Nat} {m : MM} : ∀ {l : List (Nat × Option Ent)}, memLe n m l → ∀ id e, lkM l id = some e → id < n ∧ entLe (m id) (some e) := by
  intro l
  induction l with
  | nil => intro h id e he; cases he
  | cons p r ih =>
    obtain ⟨id', x⟩ := p
    rintro ⟨h1, h2, h3⟩ id e he
    simp only [lkM] at he
    split at he
    · rename_i e0; subst e0 he
      refine ⟨?_, h2⟩
      rcases h1 with h1 | h1
      · cases h1
      · exact h1
    · exact ih h3 id e he
theorem AS.le_of {τ σ : AS} (h1 : slLe σ.nx (lkS τ.sl) σ.sl) (h2 : memLe σ.nx (lkM τ.mem) σ.mem) : AS.le nt τ σ := by
  rintro w0 F0 a w ⟨F, G, hm, hs, hsz, hdf⟩
  have hgr : ∀ id p, Gr σ.nx G id = some p → G id = some p := by
    intro id p h
    simp only [Gr] at h
    split at h
    · exact h
    · cases h
  refine ⟨F, Gr σ.nx G, ⟨hm.le0, hm.old, hm.fit, hm.below, fun id e he => ?_, ?_, fun id hid => ?_⟩, fun t => slLe_lk h1 t F G _ (hs t), hsz, hdf⟩
  · obtain ⟨h3, h4⟩ := memLe_lk h2 id e he
    have hG : Gr σ.nx G id = G id := by simp only [Gr]; rw [if_pos h3]
    cases hτ : lkM τ.mem id with
    | none => rw [hτ] at h4; cases h4
    | some e' =>
      rw [hτ] at h4
      have ho := hm.own id e' hτ
      cases e' with
      | box T x =>
        cases e with
        | box T' y =>
          obtain ⟨rfl, h5⟩ := h4
          obtain ⟨g, cs, a1, a2, a3, a4, a5⟩ := ho
          exact ⟨g, cs, by rw [hG]; exact a1, a2, a3, a4, h5 F cs a5⟩
        | row T' k' l' fz' => exact h4.elim
      | row T k' l fz =>
        have h5 : e = .row T k' l fz := by
          cases e with
          | box T2 y => exact h4.elim
          | row T2 k2 l2 fz2 => exact Eq.symm h4
        subst h5
        rcases ho with ⟨a1, a2⟩ | ⟨g, c, C, a1, a2⟩
        · exact .inl ⟨by rw [hG]; exact a1, a2⟩
        · exact .inr ⟨g, c, C, by rw [hG]; exact a1, a2⟩
  · intro i i' e e' g c c' hi hi' hg hg'
    obtain ⟨_, h4⟩ := memLe_lk h2 i e hi
    obtain ⟨_, h5⟩ := memLe_lk h2 i' e' hi'
    cases hτ : lkM τ.mem i with
    | none => rw [hτ] at h4; cases h4
    | some x =>
      cases hτ' : lkM τ.mem i' with
      | none => rw [hτ'] at h5; cases h5
      | some y => exact hm.inj i i' x y g c c' hτ hτ' (hgr _ _ hg) (hgr _ _ hg')
  · simp only [Gr]
    rw [if_neg hid]

/-! ### Results -/
def AVle (a b : AV) : Prop := ∀ F v, RVp F a v → RVp F b v
theorem AVle.rfl {a : AV} : AVle a a := fun _ _ h => h
theorem AVle_of_eq {a b : AV} (e : a = b) : AVle a b := e ▸ AVle.rfl
theorem AVle_of_le {a b : AV} (h : AV.le 0 a b) (h1 : ∀ F v, RVp F a v → RV F (fun _ => none) a v) (h2 : ∀ F G v, RV F G b v → RVp F b v) : AVle a b := fun F v hv => h2 _ _ _ (h F _ v (h1 F v hv))
def resA (ti : TI) (σ : AS) : ResultVar → Option AV
  | .tmp t => some (lkS σ.sl t)
  | .cell a t => match lkS σ.sl a with
    | .ptr id off => match lkM σ.mem id with
      | some (.box _ x) => match ti.sz t with
        | some (n, b) => match x.part off n with
          | some y => if y.agg = b then some y else none
          | none => none
        | none => none
      | _ => none
    | _ => none
def resAs (ti : TI) (σ : AS) : List ResultVar → Option (List AV)
  | [] => some []
  | r :: rs => match resA ti σ r, resAs ti σ rs with
    | some a, some as => some (a :: as)
    | _, _ => none
def lsLe : List AV → AV → Prop
  | [], .tn => True
  | a :: r, .tc x y => AVle a x ∧ lsLe r y
  | _, _ => False
def resLe : List AV → AV → Prop
  | [a], r => AVle a r
  | l, .tup t => lsLe l t
  | _, _ => False
def finR (ti : TI) (rv : List ResultVar) (r : AV) (σ : AS) : Prop :=
  match resAs ti σ rv with
  | some as => (match pubs ti (lkM σ.mem) [] as with
    | some (as', _) => resLe as' r
    | none => False)
  | none => False
end
end Go.AE
