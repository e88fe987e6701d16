/- What stays in memory, and how abstract values read there: plain definitions, over any program. The call's own blocks: what they hold, abstractly; how the memory stands to that; steps that keep it. What each operation does to abstract values, as a function. That function tells what the machine does: operation by operation. Operation by operation: memory. Operation by operation: addresses, slices, structs, numbers. Operation by operation: numbers, append, calls; then all of them. Operation by operation: append; then all of them. All operations together. -/
import Derived.WalkKit
import Derived.Orders
import Derived.Below
import Derived.Laws.CopyRow
import Derived.Maps.AppendAt
import Derived.Conc.MuLone
namespace Go.AE
open Go.RowKit
set_option linter.unusedVariables false

/-- What is known to stay: some blocks, with what they hold. -/
abbrev Fz := Nat → Option Obj
def Fz.le (F F' : Fz) : Prop := ∀ b o, F b = some o → F' b = some o
theorem Fz.le.refl (F : Fz) : F.le F := fun _ _ h => h
theorem Fz.le.trans {A B C : Fz} (h : A.le B) (k : B.le C) : A.le C := fun b o e => k b o (h b o e)

structure QV where
  x : Rat
  c : Bool
  s : Nat

/-- A rational with its words as they stand. -/
structure QX where
  n : Bool
  nw : List Int
  d : Bool
  dw : List Int

/-- The kinds of elements of slices. -/
inductive K where
  | stp | q | bool | u32 | i64 | way | qs | ex | bs | qx | qxs
  deriving DecidableEq

@[reducible] def K.T : K → Type
  | .stp => Int × Int
  | .q => QV
  | .bool => Bool
  | .u32 => Int
  | .i64 => Int
  | .way => QV × List Bool
  | .qs => List QV
  | .ex => List (Int × Int) × Int × Int × Int
  | .bs => List Bool
  | .qx => QX
  | .qxs => List QX

def K.es : K → Nat
  | .stp => 2 | .q => 4 | .bool => 1 | .u32 => 1 | .i64 => 1 | .way => 5 | .qs => 1 | .ex => 4 | .bs => 1 | .qx => 4 | .qxs => 1
def K.bytes : K → Nat
  | .stp => 16 | .q => 64 | .bool => 1 | .u32 => 4 | .i64 => 8 | .way => 88 | .qs => 24 | .ex => 48 | .bs => 24 | .qx => 64 | .qxs => 24
def K.zero : (k : K) → k.T
  | .stp => (0, 0) | .q => ⟨0, true, 0⟩ | .bool => false | .u32 => (0 : Int) | .i64 => (0 : Int) | .way => (⟨0, true, 0⟩, []) | .qs => [] | .ex => ([], 0, 0, 0) | .bs => [] | .qx => ⟨false, [], false, []⟩ | .qxs => []

/-- Abstract values. -/
inductive AV where
  | v (x : Value)
  | pair (a b : AV)
  | z (x : Int) (c : Bool) (s : Nat)
  | q (x : Rat) (c : Bool) (s : Nat)
  | lst (k : K) (l : List k.T)
  | rp (a : AV)
  | ptr (id off : Nat)
  | ep (id es i off : Nat)
  | row (id : Nat)
  | tn
  | tc (a b : AV)
  | tup (a : AV)
  | un
  | junk
  | one (x : Value)
  | mp (o : Obj)
  | fr (T : TypeId) (k : K) (l : List k.T)
  | pin (id g : Nat)
  | clo (g i j : Nat)

abbrev vi (n : Int) : AV := .v (.int .i64 n)
abbrev vb (b : Bool) : AV := .v (.bool b)

/-- The words' number, least significant first. -/
def wv : List Int → Int
  | [] => 0
  | w :: r => w + 4294967296 * wv r
def zval (neg : Bool) (ws : List Int) : Int := if neg then - wv ws else wv ws
def canonZ (neg : Bool) (ws : List Int) : Prop := ws.getLast? ≠ some 0 ∧ (neg = true → ws ≠ [])
def qval (n d : Int) : Rat := if d = 0 then (n : Rat) else (n : Rat) / (d : Rat)
def canonQ (n d : Int) : Prop := d = 0 ∨ (1 < d ∧ Int.gcd n d = 1)

/-- A slice value reads as a list. -/
def RL {α : Type} (F : Fz) (es : Nat) (R : α → List Value → Prop) (l : List α) (v : Value) : Prop :=
  ∃ A c, v = .slice A l.length c ∧ l.length ≤ c ∧
    (l ≠ [] → ∃ b off C T fr, A = some ⟨b, off, none⟩ ∧ F b = some (.cells C T fr) ∧
      ∀ i (h : i < l.length), ∃ cs, cs.length = es ∧ R l[i] cs ∧ ∀ k, k < es → C[off + i * es + k]? = cs[k]?)

def Ru32 (n : Int) (cs : List Value) : Prop := cs = [.int .u32 n] ∧ 0 ≤ n ∧ n < 4294967296
def RZ (F : Fz) (x : Int) (c : Bool) (s : Nat) (cs : List Value) : Prop :=
  ∃ neg sv ws, cs = [.bool neg, sv] ∧ RL F 1 Ru32 ws sv ∧ ws.length ≤ s ∧ x = zval neg ws ∧ (c = true → canonZ neg ws)
def RQ (F : Fz) (x : Rat) (c : Bool) (s : Nat) (cs : List Value) : Prop :=
  ∃ n d c1 c2 cn cd, cs = c1 ++ c2 ∧ RZ F n cn s c1 ∧ RZ F d cd s c2 ∧ x = qval n d ∧ (c = true → cn = true ∧ cd = true ∧ canonQ n d)
def Rstp (p : Int × Int) (cs : List Value) : Prop := cs = [.int .i64 p.1, .int .i64 p.2]
def Rbool (b : Bool) (cs : List Value) : Prop := cs = [.bool b]
def Rqx (F : Fz) (x : QX) (cs : List Value) : Prop := ∃ v1 v2, cs = [.bool x.n, v1, .bool x.d, v2] ∧ RL F 1 Ru32 x.nw v1 ∧ RL F 1 Ru32 x.dw v2
def RK (F : Fz) : (k : K) → k.T → List Value → Prop
  | .stp, p, cs => Rstp p cs
  | .q, x, cs => RQ F x.x x.c x.s cs
  | .bool, b, cs => Rbool b cs
  | .u32, n, cs => Ru32 n cs
  | .i64, n, cs => cs = [.int .i64 n]
  | .way, p, cs => ∃ c1 v, cs = c1 ++ [v] ∧ RQ F p.1.x p.1.c p.1.s c1 ∧ RL F 1 Rbool p.2 v
  | .qs, l, cs => ∃ v, cs = [v] ∧ RL F 4 (fun x cs => RQ F x.x x.c x.s cs) l v
  | .ex, p, cs => ∃ v, cs = [v, .int .i64 p.2.1, .int .i64 p.2.2.1, .int .i64 p.2.2.2] ∧ RL F 2 Rstp p.1 v
  | .bs, l, cs => ∃ v, cs = [v] ∧ RL F 1 Rbool l v
  | .qx, x, cs => Rqx F x cs
  | .qxs, l, cs => ∃ v, cs = [v] ∧ RL F 4 (Rqx F) l v

def plainV : Value → Bool
  | .agg _ => false
  | .tuple _ => false
  | _ => true

/-- The cells of a value that stays. -/
def RC (F : Fz) : AV → List Value → Prop
  | .v x, cs => plainV x = true ∧ cs = [x]
  | .pair a b, cs => ∃ c1 c2, cs = c1 ++ c2 ∧ RC F a c1 ∧ RC F b c2
  | .z x c s, cs => RZ F x c s cs
  | .q x c s, cs => RQ F x c s cs
  | .lst k l, cs => ∃ v, cs = [v] ∧ RL F k.es (RK F k) l v
  | .rp a, cs => ∃ b off C T fr cs', cs = [.pointer (some ⟨b, off, none⟩)] ∧ F b = some (.cells C T fr) ∧ RC F a cs' ∧ ∀ k, k < cs'.length → C[off + k]? = cs'[k]?
  | .one x, cs => plainV x = true ∧ cs = [x]
  | .mp o, cs => ∃ b, cs = [.map (some b)] ∧ F b = some o
  | _, _ => False

def AV.cells : AV → Nat
  | .v _ => 1
  | .pair a b => a.cells + b.cells
  | .z .. => 2
  | .q .. => 4
  | .lst .. => 1
  | .rp _ => 1
  | .one _ => 1
  | .mp _ => 1
  | _ => 0
def AV.agg : AV → Bool
  | .pair .. => true
  | .z .. => true
  | .q .. => true
  | .one _ => true
  | _ => false

/-- Where the own blocks lie: none yet; a nil slice; a block, a capacity and a length. -/
abbrev Gm := Nat → Option (Option (Nat × Nat × Nat))
def Gm.le (G G' : Gm) : Prop := ∀ i p, G i = some p → G' i = some p
theorem Gm.le.refl (G : Gm) : G.le G := fun _ _ h => h
theorem Gm.le.trans {A B C : Gm} (h : A.le B) (k : B.le C) : A.le C := fun b o e => k b o (h b o e)

def RVp (F : Fz) (a : AV) (v : Value) : Prop := if a.agg = true then ∃ cs, RC F a cs ∧ v = .agg cs.toArray else RC F a [v]
def RT (F : Fz) : AV → List Value → Prop
  | .tn, vs => vs = []
  | .tc a b, vs => ∃ x r, vs = x :: r ∧ RVp F a x ∧ RT F b r
  | _, _ => False
def RV (F : Fz) (G : Gm) : AV → Value → Prop
  | .junk, _ => True
  | .un, v => v = undef
  | .ptr id off, v => ∃ g c, G id = some (some (g, c)) ∧ v = .pointer (some ⟨g, off, none⟩)
  | .ep id es i off, v => ∃ g c, G id = some (some (g, c)) ∧ v = .pointer (some ⟨g, i * es + off, none⟩)
  | .row id, v => (G id = some none ∧ v = .slice none 0 0) ∨ ∃ g c, G id = some (some (g, c)) ∧ v = .slice (some ⟨g, 0, none⟩) c.2 c.1
  | .tup t, v => ∃ vs, v = .tuple vs.toArray ∧ RT F t vs
  | .pin id g, v => G id = some (some (g, 0, 0))
  | .clo g i j, v => ∃ b c x y, v = .func (.func g) #[] #[.pointer (some ⟨b, 0, none⟩), .pointer (some ⟨c, 0, none⟩)] ∧ G i = some (some (b, x)) ∧ G j = some (some (c, y))
  | a, v => RVp F a v

theorem RL.mono {α : Type} {F F' : Fz} {es : Nat} {R R' : α → List Value → Prop} (hF : F.le F') (hR : ∀ x cs, R x cs → R' x cs) {l : List α} {v : Value} (h : RL F es R l v) : RL F' es R' l v := by
  obtain ⟨A, c, h1, h2, h3⟩ := h
  refine ⟨A, c, h1, h2, fun hl => ?_⟩
  obtain ⟨b, off, C, T, fr, h4, h5, h6⟩ := h3 hl
  refine ⟨b, off, C, T, fr, h4, hF _ _ h5, fun i hi => ?_⟩
  obtain ⟨cs, h7, h8, h9⟩ := h6 i hi
  exact ⟨cs, h7, hR _ _ h8, h9⟩
theorem RZ.mono {F F' : Fz} (hF : F.le F') {x : Int} {c : Bool} {s : Nat} {cs : List Value} (h : RZ F x c s cs) : RZ F' x c s cs := by
  obtain ⟨neg, sv, ws, h1, h2, h3⟩ := h
  exact ⟨neg, sv, ws, h1, h2.mono hF (fun _ _ h => h), h3⟩
theorem RQ.mono {F F' : Fz} (hF : F.le F') {x : Rat} {c : Bool} {s : Nat} {cs : List Value} (h : RQ F x c s cs) : RQ F' x c s cs := by
  obtain ⟨n, d, c1, c2, cn, cd, h1, h2, h3, h4⟩ := h
  exact ⟨n, d, c1, c2, cn, cd, h1, h2.mono hF, h3.mono hF, h4⟩
theorem Rqx.mono {F F' : Fz} (hF : F.le F') {x : QX} {cs : List Value} (h : Rqx F x cs) : Rqx F' x cs := by
  obtain ⟨v1, v2, h1, h2, h3⟩ := h
  exact ⟨v1, v2, h1, h2.mono hF (fun _ _ h => h), h3.mono hF (fun _ _ h => h)⟩
theorem RK.mono {F F' : Fz} (hF : F.le F') : ∀ {k : K} {x : k.T} {cs : List Value}, RK F k x cs → RK F' k x cs := by
  intro k x cs h
  cases k
  case stp => exact h
  case q => exact RQ.mono hF h
  case bool => exact h
  case u32 => exact h
  case i64 => exact h
  case way =>
    obtain ⟨c1, v, h1, h2, h3⟩ := h
    exact ⟨c1, v, h1, h2.mono hF, h3.mono hF (fun _ _ h => h)⟩
  case qs =>
    obtain ⟨v, h1, h2⟩ := h
    exact ⟨v, h1, h2.mono hF (fun _ _ h => h.mono hF)⟩
  case ex =>
    obtain ⟨v, h1, h2⟩ := h
    exact ⟨v, h1, h2.mono hF (fun _ _ h => h)⟩
  case bs =>
    obtain ⟨v, h1, h2⟩ := h
    exact ⟨v, h1, h2.mono hF (fun _ _ h => h)⟩
  case qx => exact Rqx.mono hF h
  case qxs =>
    obtain ⟨v, h1, h2⟩ := h
    exact ⟨v, h1, h2.mono hF (fun _ _ h => h.mono hF)⟩
theorem RC.mono {F F' : Fz} (hF : F.le F') : ∀ {a : AV} {cs : List Value}, RC F a cs → RC F' a cs := by
  intro a
  induction a with
  | v x => exact fun h => h
  | pair a b iha ihb => exact fun ⟨c1, c2, h1, h2, h3⟩ => ⟨c1, c2, h1, iha h2, ihb h3⟩
  | z => exact RZ.mono hF
  | q => exact RQ.mono hF
  | lst k l => exact fun ⟨v, h1, h2⟩ => ⟨v, h1, h2.mono hF (fun _ _ h => RK.mono hF h)⟩
  | rp a ih => exact fun ⟨b, off, C, T, fr, cs', h1, h2, h3, h4⟩ => ⟨b, off, C, T, fr, cs', h1, hF _ _ h2, ih h3, h4⟩
  | one x => exact fun h => h
  | mp o => exact fun ⟨b, h1, h2⟩ => ⟨b, h1, hF _ _ h2⟩
  | _ => exact fun h => h.elim
theorem RVp.mono {F F' : Fz} (hF : F.le F') {a : AV} {v : Value} (h : RVp F a v) : RVp F' a v := by
  unfold RVp at *
  split
  · rename_i ha
    rw [if_pos ha] at h
    obtain ⟨cs, h1, h2⟩ := h
    exact ⟨cs, h1.mono hF, h2⟩
  · rename_i ha
    rw [if_neg ha] at h
    exact h.mono hF
theorem RT.mono {F F' : Fz} (hF : F.le F') : ∀ {a : AV} {vs : List Value}, RT F a vs → RT F' a vs := by
  intro a
  induction a with
  | tn => exact fun h => h
  | tc a b iha ihb => exact fun ⟨x, r, h1, h2, h3⟩ => ⟨x, r, h1, h2.mono hF, ihb h3⟩
  | _ => exact fun h => h.elim
theorem RV.mono {F F' : Fz} {G G' : Gm} (hF : F.le F') (hG : G.le G') {a : AV} {v : Value} (h : RV F G a v) : RV F' G' a v := by
  cases a with
  | junk => trivial
  | un => exact h
  | ptr id off => obtain ⟨g, c, h1, h2⟩ := h; exact ⟨g, c, hG _ _ h1, h2⟩
  | ep id es i off => obtain ⟨g, c, h1, h2⟩ := h; exact ⟨g, c, hG _ _ h1, h2⟩
  | row id =>
    rcases h with ⟨h1, h2⟩ | ⟨g, c, h1, h2⟩
    · exact .inl ⟨hG _ _ h1, h2⟩
    · exact .inr ⟨g, c, hG _ _ h1, h2⟩
  | tup t => obtain ⟨vs, h1, h2⟩ := h; exact ⟨vs, h1, h2.mono hF⟩
  | v x => exact RVp.mono hF h
  | pair a b => exact RVp.mono hF h
  | z x c s => exact RVp.mono hF h
  | q x c s => exact RVp.mono hF h
  | lst k l => exact RVp.mono hF h
  | rp a => exact RVp.mono hF h
  | one x => exact RVp.mono hF h
  | mp o => exact RVp.mono hF h
  | fr T k l => exact RVp.mono hF h
  | pin id g => exact hG _ _ h
  | clo g i j => obtain ⟨b, c, x, y, h1, h2, h3⟩ := h; exact ⟨b, c, x, y, h1, hG _ _ h2, hG _ _ h3⟩
  | tn => exact RVp.mono hF h
  | tc a b => exact RVp.mono hF h

theorem RL.plain {α : Type} {F : Fz} {es : Nat} {R : α → List Value → Prop} {l : List α} {v : Value} (h : RL F es R l v) : plainV v = true := by
  obtain ⟨A, c, rfl, _⟩ := h; rfl
theorem RZ.length {F : Fz} {x : Int} {c : Bool} {s : Nat} {cs : List Value} (h : RZ F x c s cs) : cs.length = 2 := by
  obtain ⟨neg, sv, ws, rfl, _⟩ := h; rfl
theorem RQ.length {F : Fz} {x : Rat} {c : Bool} {s : Nat} {cs : List Value} (h : RQ F x c s cs) : cs.length = 4 := by
  obtain ⟨n, d, c1, c2, cn, cd, rfl, h2, h3, _⟩ := h; simp [h2.length, h3.length]
theorem RC.length {F : Fz} : ∀ {a : AV} {cs : List Value}, RC F a cs → cs.length = a.cells := by
  intro a
  induction a with
  | v x => rintro cs ⟨_, rfl⟩; rfl
  | pair a b iha ihb => rintro cs ⟨c1, c2, rfl, h2, h3⟩; simp [AV.cells, iha h2, ihb h3]
  | z => exact RZ.length
  | q => exact RQ.length
  | lst k l => rintro cs ⟨v, rfl, _⟩; rfl
  | rp a ih => rintro cs ⟨b, off, C, T, fr, cs', rfl, _⟩; rfl
  | one x => rintro cs ⟨_, rfl⟩; rfl
  | mp o => rintro cs ⟨b, rfl, _⟩; rfl
  | _ => intro cs h; exact h.elim
theorem RK.length {F : Fz} : ∀ {k : K} {x : k.T} {cs : List Value}, RK F k x cs → cs.length = k.es := by
  intro k x cs h
  cases k
  case stp => cases h; rfl
  case q => exact RQ.length h
  case bool => cases h; rfl
  case u32 => obtain ⟨rfl, _⟩ := h; rfl
  case i64 => cases h; rfl
  case way => obtain ⟨c1, v, rfl, h2, h3⟩ := h; simp [h2.length, K.es]
  case qs => obtain ⟨v, rfl, _⟩ := h; rfl
  case ex => obtain ⟨v, rfl, _⟩ := h; rfl
  case bs => obtain ⟨v, rfl, _⟩ := h; rfl
  case qx => obtain ⟨v1, v2, rfl, _⟩ := h; rfl
  case qxs => obtain ⟨v, rfl, _⟩ := h; rfl
/-- Each cell of a value that stays is one cell's value. -/
theorem RZ.plain {F : Fz} {x : Int} {c : Bool} {s : Nat} {cs : List Value} (h : RZ F x c s cs) : ∀ y ∈ cs, plainV y = true := by
  obtain ⟨neg, sv, ws, rfl, h, _⟩ := h
  intro y hy
  simp at hy
  rcases hy with rfl | rfl
  · rfl
  · exact h.plain
theorem RQ.plain {F : Fz} {x : Rat} {c : Bool} {s : Nat} {cs : List Value} (h : RQ F x c s cs) : ∀ y ∈ cs, plainV y = true := by
  obtain ⟨n, d, c1, c2, cn, cd, rfl, h2, h3, _⟩ := h
  intro y hy
  rcases List.mem_append.1 hy with hy | hy
  · exact h2.plain y hy
  · exact h3.plain y hy
theorem RC.plain {F : Fz} : ∀ {a : AV} {cs : List Value}, RC F a cs → ∀ y ∈ cs, plainV y = true := by
  intro a
  induction a with
  | v x => rintro cs ⟨h, rfl⟩ y hy; simp at hy; subst hy; exact h
  | pair a b iha ihb =>
    rintro cs ⟨c1, c2, rfl, h2, h3⟩ y hy
    rcases List.mem_append.1 hy with hy | hy
    · exact iha h2 y hy
    · exact ihb h3 y hy
  | z => exact RZ.plain
  | q => exact RQ.plain
  | lst k l => rintro cs ⟨v, rfl, h⟩ y hy; simp at hy; subst hy; exact h.plain
  | rp a ih => rintro cs ⟨b, off, C, T, fr, cs', rfl, _⟩ y hy; simp at hy; subst hy; rfl
  | one x => rintro cs ⟨h, rfl⟩ y hy; simp at hy; subst hy; exact h
  | mp o => rintro cs ⟨b, rfl, _⟩ y hy; simp at hy; subst hy; rfl
  | _ => intro cs h; exact h.elim
theorem RK.plain {F : Fz} : ∀ {k : K} {x : k.T} {cs : List Value}, RK F k x cs → ∀ y ∈ cs, plainV y = true := by
  intro k x cs h y hy
  cases k
  case stp => cases h; simp at hy; rcases hy with rfl | rfl <;> rfl
  case q => exact RQ.plain h y hy
  case bool => cases h; simp at hy; subst hy; rfl
  case u32 => obtain ⟨rfl, _⟩ := h; simp at hy; subst hy; rfl
  case i64 => cases h; simp at hy; subst hy; rfl
  case way =>
    obtain ⟨c1, v, rfl, h2, h3⟩ := h
    rcases List.mem_append.1 hy with hy | hy
    · exact h2.plain y hy
    · simp at hy; subst hy; exact h3.plain
  case qs => obtain ⟨v, rfl, h⟩ := h; simp at hy; subst hy; exact h.plain
  case ex => obtain ⟨v, rfl, h⟩ := h; simp at hy; rcases hy with rfl | rfl | rfl | rfl <;> first | rfl | exact h.plain
  case bs => obtain ⟨v, rfl, h⟩ := h; simp at hy; subst hy; exact h.plain
  case qx => obtain ⟨v1, v2, rfl, h1, h2⟩ := h; simp at hy; rcases hy with rfl | rfl | rfl | rfl <;> first | rfl | exact h1.plain | exact h2.plain
  case qxs => obtain ⟨v, rfl, h⟩ := h; simp at hy; subst hy; exact h.plain

/-- An element, as an abstract value. -/
def K.enc : (k : K) → k.T → AV
  | .stp, p => .pair (vi p.1) (vi p.2)
  | .q, x => .q x.x x.c x.s
  | .bool, b => vb b
  | .u32, n => .v (.int .u32 n)
  | .i64, n => vi n
  | .way, p => .pair (.q p.1.x p.1.c p.1.s) (.lst .bool p.2)
  | .qs, l => .lst .q l
  | .ex, p => .pair (.lst .stp p.1) (.pair (vi p.2.1) (.pair (vi p.2.2.1) (vi p.2.2.2)))
  | .bs, l => .lst .bool l
  | .qx, x => .pair (.pair (vb x.n) (.lst .u32 x.nw)) (.pair (vb x.d) (.lst .u32 x.dw))
  | .qxs, l => .lst .qx l
theorem RK.enc {F : Fz} : ∀ {k : K} {x : k.T} {cs : List Value}, RK F k x cs → RC F (k.enc x) cs := by
  intro k x cs h
  cases k
  case stp => cases h; exact ⟨[_], [_], rfl, ⟨rfl, rfl⟩, ⟨rfl, rfl⟩⟩
  case q => exact h
  case bool => cases h; exact ⟨rfl, rfl⟩
  case u32 => obtain ⟨rfl, _⟩ := h; exact ⟨rfl, rfl⟩
  case i64 => cases h; exact ⟨rfl, rfl⟩
  case way => obtain ⟨c1, v, rfl, h2, h3⟩ := h; exact ⟨c1, [v], rfl, h2, v, rfl, h3⟩
  case qs => obtain ⟨v, rfl, h⟩ := h; exact ⟨v, rfl, h⟩
  case ex => obtain ⟨v, rfl, h⟩ := h; exact ⟨[v], [_, _, _], rfl, ⟨v, rfl, h⟩, [_], [_, _], rfl, ⟨rfl, rfl⟩, [_], [_], rfl, ⟨rfl, rfl⟩, ⟨rfl, rfl⟩⟩
  case bs => obtain ⟨v, rfl, h⟩ := h; exact ⟨v, rfl, h⟩
  case qx => obtain ⟨v1, v2, rfl, h1, h2⟩ := h; exact ⟨[_, v1], [_, v2], rfl, ⟨[_], [v1], rfl, ⟨rfl, rfl⟩, v1, rfl, h1⟩, ⟨[_], [v2], rfl, ⟨rfl, rfl⟩, v2, rfl, h2⟩⟩
  case qxs => obtain ⟨v, rfl, h⟩ := h; exact ⟨v, rfl, h⟩
/-- An abstract value, as an element: what is owed, and the element. -/
def K.dec : (k : K) → AV → Option (Prop × k.T)
  | .stp, .pair (.v (.int .i64 a)) (.v (.int .i64 b)) => some (True, (a, b))
  | .q, .q x c s => some (True, ⟨x, c, s⟩)
  | .bool, .v (.bool b) => some (True, b)
  | .u32, .v (.int .u32 n) => some (0 ≤ n ∧ n < 4294967296, n)
  | .i64, .v (.int .i64 n) => some (True, n)
  | .way, .pair (.q x c s) (.lst .bool l) => some (True, (⟨x, c, s⟩, l))
  | .qs, .lst .q l => some (True, l)
  | .ex, .pair (.lst .stp l) (.pair (.v (.int .i64 a)) (.pair (.v (.int .i64 b)) (.v (.int .i64 c)))) => some (True, (l, a, b, c))
  | .bs, .lst .bool l => some (True, l)
  | .qx, .pair (.pair (.v (.bool n)) (.lst .u32 nw)) (.pair (.v (.bool d)) (.lst .u32 dw)) => some (True, ⟨n, nw, d, dw⟩)
  | .qxs, .lst .qx l => some (True, l)
  | .ex, .pair (.v (.slice none 0 0)) (.pair (.v (.int .i64 a)) (.pair (.v (.int .i64 b)) (.v (.int .i64 c)))) => some (True, ([], a, b, c))
  | _, _ => none
theorem K.dec_ok {F : Fz} {k : K} {a : AV} {p : Prop} {x : k.T} (h : k.dec a = some (p, x)) (hp : p) {cs : List Value} (hc : RC F a cs) : RK F k x cs := by
  unfold K.dec at h
  split at h <;> simp only [Option.some.injEq, Prod.mk.injEq, reduceCtorEq] at h
  · obtain ⟨rfl, rfl⟩ := h; obtain ⟨c1, c2, rfl, ⟨_, rfl⟩, ⟨_, rfl⟩⟩ := hc; rfl
  · obtain ⟨rfl, rfl⟩ := h; exact hc
  · obtain ⟨rfl, rfl⟩ := h; obtain ⟨_, rfl⟩ := hc; rfl
  · obtain ⟨rfl, rfl⟩ := h; obtain ⟨_, rfl⟩ := hc; exact ⟨rfl, hp⟩
  · obtain ⟨rfl, rfl⟩ := h; obtain ⟨_, rfl⟩ := hc; rfl
  · obtain ⟨rfl, rfl⟩ := h; obtain ⟨c1, c2, rfl, h1, v, rfl, h2⟩ := hc; exact ⟨c1, v, rfl, h1, h2⟩
  · obtain ⟨rfl, rfl⟩ := h; obtain ⟨v, rfl, h1⟩ := hc; exact ⟨v, rfl, h1⟩
  · obtain ⟨rfl, rfl⟩ := h; obtain ⟨c1, c2, rfl, ⟨v, rfl, h1⟩, c3, c4, rfl, ⟨_, rfl⟩, c5, c6, rfl, ⟨_, rfl⟩, ⟨_, rfl⟩⟩ := hc; exact ⟨v, rfl, h1⟩
  · obtain ⟨rfl, rfl⟩ := h; obtain ⟨v, rfl, h1⟩ := hc; exact ⟨v, rfl, h1⟩
  · obtain ⟨rfl, rfl⟩ := h; obtain ⟨c1, c2, rfl, ⟨c3, c4, rfl, ⟨_, rfl⟩, v1, rfl, h1⟩, ⟨c5, c6, rfl, ⟨_, rfl⟩, v2, rfl, h2⟩⟩ := hc; exact ⟨v1, v2, rfl, h1, h2⟩
  · obtain ⟨rfl, rfl⟩ := h; obtain ⟨v, rfl, h1⟩ := hc; exact ⟨v, rfl, h1⟩
  · obtain ⟨rfl, rfl⟩ := h; obtain ⟨c1, c2, rfl, ⟨_, rfl⟩, c3, c4, rfl, ⟨_, rfl⟩, c5, c6, rfl, ⟨_, rfl⟩, ⟨_, rfl⟩⟩ := hc; exact ⟨_, rfl, none, 0, rfl, Nat.le_refl _, fun h => absurd rfl h⟩

def cden (x : Rat) : Int := if x.den = 1 then 0 else x.den
theorem canon_num {n d : Int} {x : Rat} (hx : x = qval n d) (h : canonQ n d) : n = x.num ∧ d = cden x := by
  rcases h with h | ⟨h1, h2⟩
  · subst h
    simp only [qval, ↓reduceIte] at hx
    subst hx
    exact ⟨rfl, rfl⟩
  · have hq : ∃ q : Rat, q.num = n ∧ q.den = d.toNat := ⟨⟨n, d.toNat, by omega, by
      show Nat.gcd n.natAbs d.toNat = 1
      rw [← h2, Int.gcd, show d.toNat = d.natAbs by omega]⟩, rfl, rfl⟩
    obtain ⟨q, q1, q2⟩ := hq
    have h3 : (q.num : Rat) / ((q.den : Nat) : Rat) = q := by rw [← Rat.mkRat_eq_div, Rat.mkRat_self]
    have h4 : ((q.den : Nat) : Rat) = ((d : Int) : Rat) := by
      rw [q2, ← Rat.intCast_natCast, show ((d.toNat : Nat) : Int) = d by omega]
    rw [q1, h4] at h3
    have h5 : x = q := by rw [hx, qval, if_neg (by omega), h3]
    subst h5
    refine ⟨q1.symm, ?_⟩
    unfold cden
    rw [if_neg (by omega)]
    omega
/-- A part of a struct: from cell off on, so many cells. -/
def AV.part : AV → Nat → Nat → Option AV
  | .pair x y, off, n => if off = 0 ∧ n = x.cells + y.cells then some (.pair x y) else if off < x.cells then x.part off n else y.part (off - x.cells) n
  | .one x, off, n => if off = 0 ∧ n = 1 then some (.v x) else none
  | .q x c s, off, n => if off = 0 ∧ n = 4 then some (.q x c s) else if c = true ∧ off = 0 ∧ n = 2 then some (.z x.num true s) else if c = true ∧ off = 2 ∧ n = 2 then some (.z (cden x) true s) else none
  | a, off, n => if off = 0 ∧ n = a.cells then some a else none
def AV.setPart : AV → Nat → Nat → AV → Option AV
  | .pair x y, off, n, b => if off = 0 ∧ n = x.cells + y.cells then some b else if off < x.cells then (x.setPart off n b).map (.pair · y) else (y.setPart (off - x.cells) n b).map (.pair x ·)
  | a, off, n, b => if off = 0 ∧ n = a.cells then some b else none

theorem AV.part_ok {F : Fz} : ∀ {a : AV} {off n : Nat} {b : AV} {cs : List Value}, a.part off n = some b → RC F a cs → ∃ pre post mid, cs = pre ++ mid ++ post ∧ pre.length = off ∧ mid.length = n ∧ RC F b mid := by
  intro a
  induction a with
  | pair x y ihx ihy =>
    intro off n b cs h hc
    simp only [AV.part] at h
    split at h
    · rename_i h0
      cases h
      exact ⟨[], [], cs, by simp, by simp [h0.1], by rw [h0.2]; exact RC.length hc, hc⟩
    · obtain ⟨c1, c2, rfl, h1, h2⟩ := hc
      have hl := RC.length h1
      split at h
      · obtain ⟨pre, post, mid, e1, e2, e3, e4⟩ := ihx h h1
        exact ⟨pre, post ++ c2, mid, by rw [e1]; simp, e2, e3, e4⟩
      · rename_i hge
        obtain ⟨pre, post, mid, e1, e2, e3, e4⟩ := ihy h h2
        exact ⟨c1 ++ pre, post, mid, by rw [e1]; simp, by simp [e2, hl]; omega, e3, e4⟩
  | q x c s =>
    intro off n b cs h hc
    simp only [AV.part] at h
    split at h
    · rename_i h0
      cases h
      exact ⟨[], [], cs, by simp, by simp [h0.1], by rw [h0.2]; exact RC.length hc, hc⟩
    · obtain ⟨n1, d1, c1, c2, cn, cd, rfl, h1, h2, h3, h4⟩ := (show RQ F x c s cs from hc)
      split at h
      · rename_i h0
        cases h
        obtain ⟨rfl, rfl, h6⟩ := h4 h0.1
        obtain ⟨rfl, rfl⟩ := canon_num h3 h6
        exact ⟨[], c2, c1, by simp, by simp [h0.2.1], by rw [h0.2.2]; exact RZ.length h1, h1⟩
      · split at h
        · rename_i h0
          cases h
          obtain ⟨rfl, rfl, h6⟩ := h4 h0.1
          obtain ⟨rfl, rfl⟩ := canon_num h3 h6
          exact ⟨c1, [], c2, by simp, by rw [RZ.length h1, h0.2.1], by rw [h0.2.2]; exact RZ.length h2, h2⟩
        · cases h
  | one x =>
    intro off n b cs h hc
    simp only [AV.part] at h
    split at h
    · rename_i h0
      cases h
      obtain ⟨h1, rfl⟩ := hc
      exact ⟨[], [], [x], by simp, by simp [h0.1], by simp [h0.2], h1, rfl⟩
    · cases h
  | _ =>
    intro off n b cs h hc
    simp only [AV.part] at h
    split at h
    · rename_i h0
      cases h
      exact ⟨[], [], cs, by simp, by simp [h0.1], by rw [h0.2]; exact RC.length hc, hc⟩
    · cases h
theorem AV.setPart_ok {F : Fz} : ∀ {a : AV} {off n : Nat} {b a' : AV} {cs cb : List Value}, a.setPart off n b = some a' → RC F a cs → RC F b cb → cb.length = n →
    ∃ pre post mid, cs = pre ++ mid ++ post ∧ pre.length = off ∧ mid.length = n ∧ RC F a' (pre ++ cb ++ post) := by
  intro a
  induction a with
  | pair x y ihx ihy =>
    intro off n b a' cs cb h hc hb hn
    simp only [AV.setPart] at h
    split at h
    · rename_i h0
      cases h
      exact ⟨[], [], cs, by simp, by simp [h0.1], by rw [h0.2]; exact RC.length hc, by simpa using hb⟩
    · obtain ⟨c1, c2, rfl, h1, h2⟩ := hc
      have hl := RC.length h1
      split at h
      · simp only [Option.map_eq_some_iff] at h
        obtain ⟨x', hx, rfl⟩ := h
        obtain ⟨pre, post, mid, e1, e2, e3, e4⟩ := ihx hx h1 hb hn
        exact ⟨pre, post ++ c2, mid, by rw [e1]; simp, e2, e3, _, c2, by simp, e4, h2⟩
      · simp only [Option.map_eq_some_iff] at h
        obtain ⟨y', hy, rfl⟩ := h
        obtain ⟨pre, post, mid, e1, e2, e3, e4⟩ := ihy hy h2 hb hn
        exact ⟨c1 ++ pre, post, mid, by rw [e1]; simp, by simp [e2, hl]; omega, e3, c1, _, by simp, h1, e4⟩
  | _ =>
    intro off n b a' cs cb h hc hb hn
    simp only [AV.setPart] at h
    split at h
    · rename_i h0
      cases h
      exact ⟨[], [], cs, by simp, by simp [h0.1], by rw [h0.2]; exact RC.length hc, by simpa using hb⟩
    · cases h
end Go.AE

/- The call's own blocks: what they hold, abstractly; how the memory stands to that; steps that keep it. -/
namespace Go.AE
open Go.RowKit
set_option linter.unusedVariables false

inductive Ent where
  | box (T : TypeId) (a : AV)
  | row (T : TypeId) (k : K) (l : List k.T) (fz : Bool)

abbrev MM := Nat → Option Ent
def MM.set (m : MM) (id : Nat) (e : Option Ent) : MM := fun i => if i = id then e else m i
def MM.upd (m : MM) : List (Nat × Option Ent) → MM
  | [] => m
  | p :: r => MM.upd (m.set p.1 p.2) r

/-- The elements of a row stand in its block. -/
def RowIn (F : Fz) (k : K) (l : List k.T) (C : Array Value) : Prop :=
  ∀ i (h : i < l.length), ∃ cs, cs.length = k.es ∧ RK F k l[i] cs ∧ ∀ j, j < k.es → C[i * k.es + j]? = cs[j]?

def OwnOk (n0 : Nat) (F : Fz) (G : Gm) (w : World) (id : Nat) : Ent → Prop
  | .box T a => ∃ g cs, G id = some (some (g, 0, 0)) ∧ n0 ≤ g ∧ F g = none ∧ w.heap[g]? = some (.cells (List.toArray cs) T (0, 0)) ∧ RC F a cs
  | .row T k l fz => (G id = some none ∧ l = []) ∨ ∃ g c C, G id = some (some (g, c)) ∧ n0 ≤ g ∧ F g = (if fz = true then some (.cells C T (0, 0)) else none) ∧ w.heap[g]? = some (.cells C T (0, 0)) ∧
      c.2 = l.length ∧ l.length ≤ c.1 ∧ C.size = c.1 * k.es ∧ c.1 ≤ maxLen ∧ RowIn F k l C

/-- What stays from the start on: what may be read; what else lies as it did. -/
structure Bs where
  f : Fz
  k : Fz

/-- How the memory stands: F stays and lies there; the own entries stand at G. -/
structure Mem (w0 : World) (F0 : Bs) (U : Nat → Prop) (m : MM) (F : Fz) (G : Gm) (w : World) : Prop where
  le0 : F0.f.le F
  old : ∀ b, b < w0.heap.size → F b = F0.f b
  fit : ∀ b o, F b = some o → w.heap[b]? = some o
  below : Below w0.heap.size w0 w
  own : ∀ id e, m id = some e → OwnOk w0.heap.size F G w id e
  inj : ∀ id id' e e' g c c', m id = some e → m id' = some e' → G id = some (some (g, c)) → G id' = some (some (g, c')) → id = id'
  fresh : ∀ id, ¬ U id → G id = none
  kfit : ∀ b o, F0.k b = some o → w.heap[b]? = some o
  kF : ∀ b o, F0.k b = some o → F b = F0.f b
  kown : ∀ id e g c, m id = some e → G id = some (some (g, c)) → F0.k g = none

theorem Mem.wider {w0 : World} {F0 : Bs} {U U' : Nat → Prop} {m : MM} {F : Fz} {G : Gm} {w : World} (h : Mem w0 F0 U m F G w) (hU : ∀ i, U i → U' i) : Mem w0 F0 U' m F G w :=
  { h with fresh := fun id hid => h.fresh id (fun hu => hid (hU id hu)) }
theorem Mem.drew {w0 : World} {F0 : Bs} {U : Nat → Prop} {m : MM} {F : Fz} {G : Gm} {w : World} (h : Mem w0 F0 U m F G w) : Mem w0 F0 U m F G { w with drawn := w.drawn + 1 } :=
  ⟨h.le0, h.old, h.fit, h.below.drew, fun id e he => by
    have := h.own id e he
    cases e <;> exact this, h.inj, h.fresh, h.kfit, h.kF, h.kown⟩

theorem Mem.klt {w0 : World} {F0 : Bs} {U : Nat → Prop} {m : MM} {F : Fz} {G : Gm} {w : World} (h : Mem w0 F0 U m F G w) {b : Nat} {o : Obj} (hb : F0.k b = some o) : b < w.heap.size :=
  (Array.getElem?_eq_some_iff.1 (h.kfit b o hb)).1
theorem Mem.knew {w0 : World} {F0 : Bs} {U : Nat → Prop} {m : MM} {F : Fz} {G : Gm} {w : World} (h : Mem w0 F0 U m F G w) {b : Nat} (hb : w.heap.size ≤ b) : F0.k b = none := by
  cases hk : F0.k b with
  | none => rfl
  | some o => have := h.klt hk; omega
/-- Nothing has happened. -/
theorem Mem.lt {w0 : World} {F0 : Bs} {U : Nat → Prop} {m : MM} {F : Fz} {G : Gm} {w : World} (h : Mem w0 F0 U m F G w) {b : Nat} {o : Obj} (hb : F b = some o) : b < w.heap.size :=
  (Array.getElem?_eq_some_iff.1 (h.fit b o hb)).1

theorem RowIn.mono {F F' : Fz} (hF : F.le F') {k : K} {l : List k.T} {C : Array Value} (h : RowIn F k l C) : RowIn F' k l C := fun i hi => by
  obtain ⟨cs, h1, h2, h3⟩ := h i hi
  exact ⟨cs, h1, h2.mono hF, h3⟩

/-- An entry under more that stays, in a world that has its block as it was. -/
theorem OwnOk.kept {n0 : Nat} {F F' : Fz} {G G' : Gm} {w w' : World} {id : Nat} {e : Ent} (h : OwnOk n0 F G w id e) (hF : F.le F') (hG : G.le G')
    (hw : ∀ g c, G id = some (some (g, c)) → w'.heap[g]? = w.heap[g]? ∧ F' g = F g) : OwnOk n0 F' G' w' id e := by
  cases e with
  | box T a =>
    obtain ⟨g, cs, h1, h2, h3, h4, h5⟩ := h
    obtain ⟨h6, h7⟩ := hw g (0, 0) h1
    exact ⟨g, cs, hG _ _ h1, h2, by rw [h7]; exact h3, by rw [h6]; exact h4, h5.mono hF⟩
  | row T k l fz =>
    rcases h with ⟨h1, h2⟩ | ⟨g, c, C, h1, h2, h3, h4, hq, h5, h6, h7, h9⟩
    · exact .inl ⟨hG _ _ h1, h2⟩
    · obtain ⟨h10, h11⟩ := hw g c h1
      exact .inr ⟨g, c, C, hG _ _ h1, h2, by rw [h11]; exact h3, by rw [h10]; exact h4, hq, h5, h6, h7, h9.mono hF⟩
theorem OwnOk.lt {n0 : Nat} {F : Fz} {G : Gm} {w : World} {id : Nat} {e : Ent} (h : OwnOk n0 F G w id e) {g : Nat} {c : Nat × Nat} (hg : G id = some (some (g, c))) : n0 ≤ g ∧ g < w.heap.size := by
  cases e with
  | box T a =>
    obtain ⟨g', cs, h1, h2, h3, h4, h5⟩ := h
    rw [hg] at h1; cases h1
    exact ⟨h2, (Array.getElem?_eq_some_iff.1 h4).1⟩
  | row T k l fz =>
    rcases h with ⟨h1, h2⟩ | ⟨g', c', C, h1, h2, h3, h4, _⟩
    · rw [hg] at h1; cases h1
    · rw [hg] at h1; cases h1
      exact ⟨h2, (Array.getElem?_eq_some_iff.1 h4).1⟩

def Gm.set (G : Gm) (id : Nat) (p : Option (Nat × Nat × Nat)) : Gm := fun i => if i = id then some p else G i
theorem Gm.le_set {G : Gm} {id : Nat} {p : Option (Nat × Nat × Nat)} (h : G id = none) : G.le (G.set id p) := fun i q hq => by
  unfold Gm.set
  split
  · rename_i e; subst e; rw [h] at hq; cases hq
  · exact hq
theorem Gm.set_same (G : Gm) (id : Nat) (p : Option (Nat × Nat × Nat)) : G.set id p id = some p := by simp [Gm.set]

/-- A world that has grown: old blocks lie as they did. -/
theorem heap_alloc_old (w : World) (o : Obj) {g : Nat} (h : g < w.heap.size) : (w.alloc o).heap[g]? = w.heap[g]? := Below.heap_alloc w o g h
theorem heap_alloc_here (w : World) (o : Obj) : (w.alloc o).heap[w.heap.size]? = some o := by
  show (w.heap.push o)[w.heap.size]? = some o
  simp

/-- A new block, owned as entry id. -/
theorem Mem.new {w0 : World} {F0 : Bs} {U : Nat → Prop} {m : MM} {F : Fz} {G : Gm} {w : World} (h : Mem w0 F0 U m F G w) {id : Nat} (hid : ¬ U id) (c : Nat × Nat) (o : Obj) (e : Ent)
    (he : OwnOk w0.heap.size F (G.set id (some (w.heap.size, c))) (w.alloc o) id e) :
    Mem w0 F0 (fun i => U i ∨ i = id) (m.set id (some e)) F (G.set id (some (w.heap.size, c))) (w.alloc o) := by
  have hG := h.fresh id hid
  have hle : G.le (G.set id (some (w.heap.size, c))) := Gm.le_set hG
  refine ⟨h.le0, h.old, fun b o' hb => ?_, h.below.alloc h.below.size o, fun i e' hi => ?_, ?_, fun i hi => ?_, fun b o' hb => (heap_alloc_old _ _ (h.klt hb)).trans (h.kfit b o' hb), h.kF, fun i e' g c' hi hg => ?_⟩
  · rw [heap_alloc_old _ _ (h.lt hb)]; exact h.fit b o' hb
  · simp only [MM.set] at hi
    split at hi
    · rename_i e0; cases hi; subst e0; exact he
    · exact (h.own i e' hi).kept (Fz.le.refl F) hle (fun g c' hg => ⟨heap_alloc_old _ _ ((h.own i e' hi).lt hg).2, rfl⟩)
  · intro i i' e1 e2 g c1 c2 hi hi' hg hg'
    simp only [MM.set] at hi hi'
    simp only [Gm.set] at hg hg'
    split at hi <;> split at hi'
    · rename_i a b; rw [a, b]
    · rename_i a b
      rw [if_pos a] at hg; rw [if_neg b] at hg'
      simp only [Option.some.injEq, Prod.mk.injEq] at hg
      have := ((h.own i' e2 hi').lt hg').2
      omega
    · rename_i a b
      rw [if_neg a] at hg; rw [if_pos b] at hg'
      simp only [Option.some.injEq, Prod.mk.injEq] at hg'
      have := ((h.own i e1 hi).lt hg).2
      omega
    · rename_i a b
      rw [if_neg a] at hg; rw [if_neg b] at hg'
      exact h.inj i i' e1 e2 g c1 c2 hi hi' hg hg'
  · simp only [Gm.set]
    rw [if_neg (fun e0 => hi (.inr e0))]
    exact h.fresh i (fun hu => hi (.inl hu))
  · simp only [MM.set] at hi
    simp only [Gm.set] at hg
    split at hg
    · simp only [Option.some.injEq, Prod.mk.injEq] at hg
      obtain ⟨rfl, _⟩ := hg
      exact h.knew (Nat.le_refl _)
    · rename_i hne
      rw [if_neg hne] at hi
      exact h.kown i e' g c' hi hg

/-- An entry's block is written, or taken for another use: the entry is told anew. -/
theorem Mem.turn {w0 : World} {F0 : Bs} {U : Nat → Prop} {m : MM} {F : Fz} {G : Gm} {w w' : World} (h : Mem w0 F0 U m F G w) {id : Nat} {e0 e : Ent} (h0 : m id = some e0) {g : Nat} {c : Nat × Nat} (hg : G id = some (some (g, c)))
    (hF : F g = none) (hw : Below g w w') (hr : ∀ b, b ≠ g → b < w.heap.size → w'.heap[b]? = w.heap[b]?) (he : OwnOk w0.heap.size F G w' id e) :
    Mem w0 F0 U (m.set id (some e)) F G w' := by
  have hlt := (h.own id e0 h0).lt hg
  have hkg := h.kown id e0 g c h0 hg
  refine ⟨h.le0, h.old, fun b o hb => ?_, h.below.trans (hw.mono hlt.1), fun i e' hi => ?_, ?_, h.fresh, fun b o hb => (hr b (fun e1 => by subst e1; rw [hkg] at hb; cases hb) (h.klt hb)).trans (h.kfit b o hb), h.kF, fun i e' g' c' hi hg' => ?_⟩
  · rw [hr b (fun e1 => by subst e1; rw [hF] at hb; cases hb) (h.lt hb)]; exact h.fit b o hb
  · simp only [MM.set] at hi
    split at hi
    · rename_i e1; cases hi; subst e1; exact he
    · rename_i hne
      refine (h.own i e' hi).kept (Fz.le.refl F) (Gm.le.refl G) (fun g' c' hg' => ⟨hr g' (fun e1 => ?_) ((h.own i e' hi).lt hg').2, rfl⟩)
      subst e1
      exact hne (h.inj i id e' e0 g' c' c hi h0 hg' hg)
  · intro i i' e1 e2 g1 c1 c2 hi hi' hg1 hg2
    simp only [MM.set] at hi hi'
    split at hi <;> split at hi'
    · rename_i a b; rw [a, b]
    · rename_i a b; subst a; exact h.inj i i' e0 e2 g1 c1 c2 h0 hi' hg1 hg2
    · rename_i a b; subst b; exact h.inj i i' e1 e0 g1 c1 c2 hi h0 hg1 hg2
    · exact h.inj i i' e1 e2 g1 c1 c2 hi hi' hg1 hg2
  · simp only [MM.set] at hi
    split at hi
    · rename_i e1; subst e1; exact h.kown i e0 g' c' h0 hg'
    · exact h.kown i e' g' c' hi hg'

/-- A row that from now on stays. -/
def Fz.set (F : Fz) (g : Nat) (o : Obj) : Fz := fun b => if b = g then some o else F b
theorem Mem.freeze {w0 : World} {F0 : Bs} {U : Nat → Prop} {m : MM} {F : Fz} {G : Gm} {w : World} (h : Mem w0 F0 U m F G w) {id : Nat} {T : TypeId} {k : K} {l : List k.T} {fz : Bool} (h0 : m id = some (.row T k l fz)) :
    ∃ F', F.le F' ∧ Mem w0 F0 U (m.set id (some (.row T k l true))) F' G w := by
  have hsame : ∀ e1, m.set id (some e1) id = some e1 := fun e1 => by simp [MM.set]
  have hko : ∀ i e g c, (m.set id (some (.row T k l true))) i = some e → G i = some (some (g, c)) → F0.k g = none := by
    intro i e g c hi hg
    simp only [MM.set] at hi
    split at hi
    · rename_i e1; subst e1; exact h.kown i _ g c h0 hg
    · exact h.kown i e g c hi hg
  rcases h.own id _ h0 with ⟨h1, h2⟩ | ⟨g, c, C, h1, h2, h3, h4, hq, h5, h6, h7, h9⟩
  · refine ⟨F, Fz.le.refl F, h.le0, h.old, h.fit, h.below, fun i e hi => ?_, ?_, h.fresh, h.kfit, h.kF, hko⟩
    · simp only [MM.set] at hi
      split at hi
      · rename_i e1; cases hi; subst e1; exact .inl ⟨h1, h2⟩
      · exact h.own i e hi
    · intro i i' e1 e2 g1 c1 c2 hi hi' hg1 hg2
      simp only [MM.set] at hi hi'
      split at hi <;> split at hi'
      · rename_i a b; rw [a, b]
      · rename_i a b; subst a; exact h.inj i i' _ e2 g1 c1 c2 h0 hi' hg1 hg2
      · rename_i a b; subst b; exact h.inj i i' e1 _ g1 c1 c2 hi h0 hg1 hg2
      · exact h.inj i i' e1 e2 g1 c1 c2 hi hi' hg1 hg2
  · have hle : F.le (F.set g (.cells C T (0, 0))) := fun b o hb => by
      unfold Fz.set
      split
      · rename_i e1; subst e1
        rw [h3] at hb
        split at hb
        · exact hb
        · cases hb
      · exact hb
    refine ⟨F.set g (.cells C T (0, 0)), hle, h.le0.trans hle, fun b hb => ?_, fun b o hb => ?_, h.below, fun i e hi => ?_, ?_, h.fresh, h.kfit, fun b o hb => ?_, hko⟩
    · unfold Fz.set
      rw [if_neg (by omega)]
      exact h.old b hb
    · unfold Fz.set at hb
      split at hb
      · rename_i e1; subst e1; cases hb; exact h4
      · exact h.fit b o hb
    · simp only [MM.set] at hi
      split at hi
      · rename_i e1; cases hi; subst e1
        exact .inr ⟨g, c, C, h1, h2, by simp [Fz.set], h4, hq, h5, h6, h7, h9.mono hle⟩
      · rename_i hne
        refine (h.own i e hi).kept hle (Gm.le.refl G) (fun g' c' hg' => ⟨rfl, ?_⟩)
        unfold Fz.set
        rw [if_neg]
        intro e1; subst e1
        exact hne (h.inj i id e _ g' c' c hi h0 hg' h1)
    · intro i i' e1 e2 g1 c1 c2 hi hi' hg1 hg2
      simp only [MM.set] at hi hi'
      split at hi <;> split at hi'
      · rename_i a b; rw [a, b]
      · rename_i a b; subst a; exact h.inj i i' _ e2 g1 c1 c2 h0 hi' hg1 hg2
      · rename_i a b; subst b; exact h.inj i i' e1 _ g1 c1 c2 hi h0 hg1 hg2
      · exact h.inj i i' e1 e2 g1 c1 c2 hi hi' hg1 hg2
    · unfold Fz.set
      rw [if_neg (fun e1 => by subst e1; rw [h.kown id _ b c h0 h1] at hb; cases hb)]
      exact h.kF b o hb
/-- A frozen row reads as its list. -/
theorem Mem.reads {w0 : World} {F0 : Bs} {U : Nat → Prop} {m : MM} {F : Fz} {G : Gm} {w : World} (h : Mem w0 F0 U m F G w) {id : Nat} {T : TypeId} {k : K} {l : List k.T} (h0 : m id = some (.row T k l true))
    {v : Value} (hv : RV F G (.row id) v) : RC F (.lst k l) [v] := by
  refine ⟨v, rfl, ?_⟩
  rcases h.own id _ h0 with ⟨h1, h2⟩ | ⟨g, c, C, h1, h2, h3, h4, hq, h5, h6, h7, h9⟩
  · subst h2
    rcases hv with ⟨_, rfl⟩ | ⟨g, c, e1, rfl⟩
    · exact ⟨none, 0, rfl, by simp, fun e => absurd rfl e⟩
    · rw [h1] at e1; cases e1
  · rcases hv with ⟨e1, _⟩ | ⟨g', c', e1, rfl⟩
    · rw [h1] at e1; cases e1
    · rw [h1] at e1; cases e1
      refine ⟨_, _, by rw [hq], h5, fun hl => ⟨g, 0, C, T, (0, 0), rfl, by simpa using h3, fun i hi => ?_⟩⟩
      obtain ⟨cs, a1, a2, a3⟩ := h9 i hi
      exact ⟨cs, a1, a2, fun j hj => by rw [Nat.zero_add]; exact a3 j hj⟩
/-- Behind a call that made memory, and turned nothing. -/
theorem Mem.called {w0 : World} {F0 : Bs} {U : Nat → Prop} {m : MM} {F F' : Fz} {G : Gm} {w w' : World} (h : Mem w0 F0 U m F G w) (hF : F.le F') (hn : ∀ b, b < w.heap.size → F' b = F b) (hfit : ∀ b o, F' b = some o → w'.heap[b]? = some o)
    (hb : Below w.heap.size w w') : Mem w0 F0 U m F' G w' := by
  have hs := h.below.size
  refine ⟨h.le0.trans hF, fun b hb' => (hn b (by omega)).trans (h.old b hb'), hfit, h.below.trans (hb.mono hs), fun i e hi => ?_, h.inj, h.fresh, fun b o hb' => (hb.block b (h.klt hb')).trans (h.kfit b o hb'), fun b o hb' => (hn b (h.klt hb')).trans (h.kF b o hb'), h.kown⟩
  exact (h.own i e hi).kept hF (Gm.le.refl G) (fun g c hg => ⟨hb.block g ((h.own i e hi).lt hg).2, hn g ((h.own i e hi).lt hg).2⟩)
/-- Behind a call that wrote two boxes of the call's own, and turned nothing else. -/
theorem Mem.calledX {w0 : World} {F0 : Bs} {U : Nat → Prop} {m : MM} {F F' : Fz} {G : Gm} {w w' : World} (h : Mem w0 F0 U m F G w) {i j : Nat} {ei ej ei' ej' : Ent} (hi0 : m i = some ei) (hj0 : m j = some ej) {g1 g2 : Nat} {c1 c2 : Nat × Nat} (hg1 : G i = some (some (g1, c1))) (hg2 : G j = some (some (g2, c2)))
    (hF : F.le F') (hn : ∀ b, b < w.heap.size → F' b = F b) (hfit : ∀ b o, F' b = some o → w'.heap[b]? = some o) (hb : ∀ n, n ≤ g1 → n ≤ g2 → Below n w w') (hr : ∀ b, b ≠ g1 → b ≠ g2 → b < w.heap.size → w'.heap[b]? = w.heap[b]?) (he1 : OwnOk w0.heap.size F' G w' i ei') (he2 : OwnOk w0.heap.size F' G w' j ej') :
    Mem w0 F0 U ((m.set i (some ei')).set j (some ej')) F' G w' := by
  have hl1 := (h.own i _ hi0).lt hg1
  have hl2 := (h.own j _ hj0).lt hg2
  have hs := h.below.size
  have was : ∀ q e, ((m.set i (some ei')).set j (some ej')) q = some e → ∃ e', m q = some e' := by
    intro q e hq
    simp only [MM.set] at hq
    split at hq
    · rename_i e1; subst e1; exact ⟨_, hj0⟩
    · split at hq
      · rename_i e1; subst e1; exact ⟨_, hi0⟩
      · exact ⟨_, hq⟩
  have hk1 := h.kown i _ _ _ hi0 hg1
  have hk2 := h.kown j _ _ _ hj0 hg2
  refine ⟨h.le0.trans hF, fun b hb' => (hn b (by omega)).trans (h.old b hb'), hfit, h.below.trans (hb _ hl1.1 hl2.1), fun q e hq => ?_, ?_, h.fresh, fun b o hb' => (hr b (fun e1 => by subst e1; rw [hk1] at hb'; cases hb') (fun e1 => by subst e1; rw [hk2] at hb'; cases hb') (h.klt hb')).trans (h.kfit b o hb'), fun b o hb' => (hn b (h.klt hb')).trans (h.kF b o hb'), fun q e g c hq hg => ?_⟩
  · simp only [MM.set] at hq
    split at hq
    · rename_i e1; cases hq; subst e1; exact he2
    · rename_i hne2
      split at hq
      · rename_i e1; cases hq; subst e1; exact he1
      · rename_i hne1
        refine (h.own q e hq).kept hF (Gm.le.refl G) (fun g' c' hg' => ⟨hr g' (fun e1 => ?_) (fun e1 => ?_) ((h.own q e hq).lt hg').2, hn g' ((h.own q e hq).lt hg').2⟩)
        · subst e1; exact hne1 (h.inj q i e _ g' c' c1 hq hi0 hg' hg1)
        · subst e1; exact hne2 (h.inj q j e _ g' c' c2 hq hj0 hg' hg2)
  · intro q q' e e' g a c hq hq' hg hg'
    obtain ⟨x, hx⟩ := was q e hq
    obtain ⟨y, hy⟩ := was q' e' hq'
    exact h.inj q q' x y g a c hx hy hg hg'
  · obtain ⟨x, hx⟩ := was q e hq
    exact h.kown q x g c hx hg
/-- An entry is let go. -/
theorem Mem.drop {w0 : World} {F0 : Bs} {U : Nat → Prop} {m : MM} {F : Fz} {G : Gm} {w : World} (h : Mem w0 F0 U m F G w) (id : Nat) : Mem w0 F0 U (m.set id none) F G w := by
  refine ⟨h.le0, h.old, h.fit, h.below, fun i e hi => ?_, ?_, h.fresh, h.kfit, h.kF, fun i e g c hi hg => ?_⟩
  · simp only [MM.set] at hi
    split at hi
    · cases hi
    · exact h.own i e hi
  · intro i i' e1 e2 g1 c1 c2 hi hi' hg1 hg2
    simp only [MM.set] at hi hi'
    split at hi
    · cases hi
    · split at hi'
      · cases hi'
      · exact h.inj i i' e1 e2 g1 c1 c2 hi hi' hg1 hg2
  · simp only [MM.set] at hi
    split at hi
    · cases hi
    · exact h.kown i e g c hi hg

/-- A block is taken up as entry id: what else is owned lies elsewhere. -/
theorem Mem.adopt {w0 : World} {F0 : Bs} {U : Nat → Prop} {m : MM} {F : Fz} {G : Gm} {w w' : World} (h : Mem w0 F0 U m F G w) {id : Nat} (hid : ¬ U id) {g : Nat} (c : Nat × Nat) (e : Ent) (hb : Below w0.heap.size w0 w') (hF : F g = none)
    (hold : ∀ b, b ≠ g → b < w.heap.size → ((∃ o, F b = some o) ∨ (∃ o, F0.k b = some o) ∨ ∃ i e c, m i = some e ∧ G i = some (some (b, c))) → w'.heap[b]? = w.heap[b]?) (hKg : F0.k g = none) (hfree : ∀ i e c, m i = some e → G i = some (some (g, c)) → False)
    (he : OwnOk w0.heap.size F (G.set id (some (g, c))) w' id e) : Mem w0 F0 (fun i => U i ∨ i = id) (m.set id (some e)) F (G.set id (some (g, c))) w' := by
  have hG := h.fresh id hid
  have hle : G.le (G.set id (some (g, c))) := Gm.le_set hG
  refine ⟨h.le0, h.old, fun b o' hb' => ?_, hb, fun i e' hi => ?_, ?_, fun i hi => ?_, fun b o hb' => (hold b (fun e1 => by subst e1; rw [hKg] at hb'; cases hb') (h.klt hb') (.inr (.inl ⟨_, hb'⟩))).trans (h.kfit b o hb'), h.kF, fun i e' g' c' hi hg => ?_⟩
  · rw [hold b (fun e1 => by subst e1; rw [hF] at hb'; cases hb') (h.lt hb') (.inl ⟨_, hb'⟩)]; exact h.fit b o' hb'
  · simp only [MM.set] at hi
    split at hi
    · rename_i e0; cases hi; subst e0; exact he
    · refine (h.own i e' hi).kept (Fz.le.refl F) hle (fun g' c' hg => ⟨hold g' (fun e1 => ?_) ((h.own i e' hi).lt hg).2 (.inr (.inr ⟨i, e', c', hi, hg⟩)), rfl⟩)
      subst e1
      exact hfree i e' c' hi hg
  · intro i i' e1 e2 g1 c1 c2 hi hi' hg hg'
    simp only [MM.set] at hi hi'
    simp only [Gm.set] at hg hg'
    split at hi <;> split at hi'
    · rename_i a b; rw [a, b]
    · rename_i a b
      rw [if_pos a] at hg; rw [if_neg b] at hg'
      simp only [Option.some.injEq, Prod.mk.injEq] at hg
      obtain ⟨rfl, _⟩ := hg
      exact (hfree i' e2 c2 hi' hg').elim
    · rename_i a b
      rw [if_neg a] at hg; rw [if_pos b] at hg'
      simp only [Option.some.injEq, Prod.mk.injEq] at hg'
      obtain ⟨rfl, _⟩ := hg'
      exact (hfree i e1 c1 hi hg).elim
    · rename_i a b
      rw [if_neg a] at hg; rw [if_neg b] at hg'
      exact h.inj i i' e1 e2 g1 c1 c2 hi hi' hg hg'
  · simp only [Gm.set]
    rw [if_neg (fun e0 => hi (.inr e0))]
    exact h.fresh i (fun hu => hi (.inl hu))
  · simp only [MM.set] at hi
    simp only [Gm.set] at hg
    split at hg
    · simp only [Option.some.injEq, Prod.mk.injEq] at hg
      obtain ⟨rfl, _⟩ := hg
      exact hKg
    · rename_i hne
      rw [if_neg hne] at hi
      exact h.kown i e' g' c' hi hg

/-- A nil slice as entry id. -/
theorem Mem.adoptNil {w0 : World} {F0 : Bs} {U : Nat → Prop} {m : MM} {F : Fz} {G : Gm} {w : World} (h : Mem w0 F0 U m F G w) {id : Nat} (hid : ¬ U id) (T : TypeId) (k : K) :
    Mem w0 F0 (fun i => U i ∨ i = id) (m.set id (some (.row T k [] false))) F (G.set id none) w := by
  have hG := h.fresh id hid
  have hle : G.le (G.set id none) := Gm.le_set hG
  refine ⟨h.le0, h.old, h.fit, h.below, fun i e' hi => ?_, ?_, fun i hi => ?_, h.kfit, h.kF, fun i e' g' c' hi hg => ?_⟩
  · simp only [MM.set] at hi
    split at hi
    · rename_i e0; cases hi; subst e0; exact .inl ⟨G.set_same _ _, rfl⟩
    · exact (h.own i e' hi).kept (Fz.le.refl F) hle (fun g' c' hg => ⟨rfl, rfl⟩)
  · intro i i' e1 e2 g1 c1 c2 hi hi' hg hg'
    simp only [MM.set] at hi hi'
    simp only [Gm.set] at hg hg'
    split at hi <;> split at hi'
    · rename_i a b; rw [a, b]
    · rename_i a b; rw [if_pos a] at hg; cases hg
    · rename_i a b; rw [if_pos b] at hg'; cases hg'
    · rename_i a b
      rw [if_neg a] at hg; rw [if_neg b] at hg'
      exact h.inj i i' e1 e2 g1 c1 c2 hi hi' hg hg'
  · simp only [Gm.set]
    rw [if_neg (fun e0 => hi (.inr e0))]
    exact h.fresh i (fun hu => hi (.inl hu))
  · simp only [MM.set] at hi
    simp only [Gm.set] at hg
    split at hg
    · cases hg
    · rename_i hne
      rw [if_neg hne] at hi
      exact h.kown i e' g' c' hi hg
end Go.AE

/- What each operation does to abstract values, as a function. -/
namespace Go.AE
open Go.RowKit
set_option linter.unusedVariables false

/-- Values, one by one. -/
def RVs (F : Fz) : List AV → List Value → Prop
  | [], vs => vs = []
  | a :: r, vs => ∃ v rs, vs = v :: rs ∧ RVp F a v ∧ RVs F r rs
theorem RVs.mono {F F' : Fz} (hF : F.le F') : ∀ {l : List AV} {vs : List Value}, RVs F l vs → RVs F' l vs
  | [], _, h => h
  | a :: r, vs, ⟨v, rs, h1, h2, h3⟩ => ⟨v, rs, h1, h2.mono hF, RVs.mono hF h3⟩

/-- What a function does that holds two boxes: arguments, the boxes' contents; what is owed, the result, the second box's contents behind it. -/
abbrev Cct := List AV → AV → AV → Option (Prop × AV × AV)
/-- Its last arguments mk tell where the boxes lie. -/
def SoundX (P : Program) (g : Nat) (mk : Nat → Nat → List Value) (T1 T2 : TypeId) (cc : Cct) : Prop :=
  (∃ fn c, P.funcs[g]? = some fn ∧ (fn.name == "runtime.NumGoroutine") = false ∧ fn.body = some c) ∧
  ∀ as b1 b2 p r c2, cc as b1 b2 = some (p, r, c2) → p → ∀ (w : World) (F : Fz) (args : List Value) (g1 g2 : Nat) (l1 l2 : List Value), (∀ b o, F b = some o → w.heap[b]? = some o) → RVs F as args → F g1 = none → F g2 = none → g1 ≠ g2 →
    w.heap[g1]? = some (.cells (List.toArray l1) T1 (0, 0)) → RC F b1 l1 → w.heap[g2]? = some (.cells (List.toArray l2) T2 (0, 0)) → RC F b2 l2 →
    Calls P g (List.toArray (args ++ mk g1 g2)) w (fun e w' => ∃ F' v l1' l2', F.le F' ∧ (∀ b, b < w.heap.size → F' b = F b) ∧ (∀ b o, F' b = some o → w'.heap[b]? = some o) ∧ (∀ n, n ≤ g1 → n ≤ g2 → Below n w w') ∧ (∀ b, b ≠ g1 → b ≠ g2 → b < w.heap.size → w'.heap[b]? = w.heap[b]?) ∧
      e = .returned v ∧ RV F' (fun _ => none) r v ∧ w'.heap[g1]? = some (.cells (List.toArray l1') T1 (0, 0)) ∧ RC F' b1 l1' ∧ w'.heap[g2]? = some (.cells (List.toArray l2') T2 (0, 0)) ∧ RC F' c2 l2')
def ptr2 (g1 g2 : Nat) : List Value := [Value.pointer (some ⟨g1, 0, none⟩), Value.pointer (some ⟨g2, 0, none⟩)]
def clo2 (g : Nat) (g1 g2 : Nat) : List Value := [Value.func (.func g) #[] #[.pointer (some ⟨g1, 0, none⟩), .pointer (some ⟨g2, 0, none⟩)]]

/-- What is known of the program's types. -/
structure TI where
  sz : TypeId → Option (Nat × Bool)
  zero : TypeId → Option AV
  zeroB : TypeId → Option AV
  fld : TypeId → Nat → Option (Nat × Nat)
  ek : TypeId → Option (TypeId × K)
  int : TypeId → Option IntKind
  isb : TypeId → Bool
  eq2 : TypeId → Bool
  f1 : TypeId → Nat → Option (Nat × Nat × Bool)
  ms : TypeId → Bool
  clo : Nat → Option (TypeId × TypeId × Cct)
  hof : Nat → Option (Nat × TypeId × TypeId × Cct)

def isAggD : TypeDesc → Bool
  | .struct _ => true
  | .array _ _ => true
  | _ => false

structure TIOk (P : Program) (ti : TI) : Prop where
  sz : ∀ t n b, ti.sz t = some (n, b) → (P.info? t).map (·.size) = some n ∧ (P.underlying t).map isAggD = some b
  zero : ∀ t a, ti.zero t = some a → ∃ z, (P.info? t).map (·.zero) = some (some z) ∧ ∀ F, RC F a z.cells.toList
  zeroB : ∀ t a, ti.zeroB t = some a → ∃ z fs places, (P.info? t).map (·.zero) = some (some z) ∧ (∀ F, RC F a z.cells.toList) ∧ a.agg = true ∧ P.underlying t = some (.struct fs) ∧
    fs.toList.mapM (fun f => (P.info? f.type).map fun i => (f.offset, i.size)) = some places ∧ ∀ j off n, ti.fld t j = some (off, n) → places[j]? = some (off, n)
  fld : ∀ t j off n, ti.fld t j = some (off, n) → ∃ fs f i, P.underlying t = some (.struct fs) ∧ fs[j]? = some f ∧ f.offset = off ∧ P.info? f.type = some i ∧ i.size = n ∧ n ≠ 0
  ek : ∀ t e k, ti.ek t = some (e, k) → P.underlying t = some (.slice e) ∧ ∃ i z, P.info? e = some i ∧ i.zero = some z ∧ i.size = k.es ∧ i.bytes = k.bytes ∧ z.cells.size = k.es ∧ ∀ F, RK F k k.zero z.cells.toList
  int : ∀ t k, ti.int t = some k → P.underlying t = some (.int k)
  isb : ∀ t, ti.isb t = true → P.underlying t = some .bool
  eq2 : ∀ t, ti.eq2 t = true → ∀ (x y : Operand) (a b c d : Int) (w : World),
    (do eqGuard .eql t x y (.agg #[.int .i64 a, .int .i64 b]) (.agg #[.int .i64 c, .int .i64 d]); binOp .eql t (.agg #[.int .i64 a, .int .i64 b]) (.agg #[.int .i64 c, .int .i64 d])).run P w = .ok (.bool (a == c && b == d)) w ∧
    (do eqGuard .neq t x y (.agg #[.int .i64 a, .int .i64 b]) (.agg #[.int .i64 c, .int .i64 d]); binOp .neq t (.agg #[.int .i64 a, .int .i64 b]) (.agg #[.int .i64 c, .int .i64 d])).run P w = .ok (.bool (!(a == c && b == d))) w
  f1 : ∀ t j off n b, ti.f1 t j = some (off, n, b) → ∃ fs f d, P.underlying t = some (.struct fs) ∧ fs[j]? = some f ∧ f.offset = off ∧ P.underlying f.type = some d ∧ isAggD d = b ∧ P.cellsOf f.type = n ∧ (P.info? f.type).isSome = true ∧ (b = false → n = 1)
  ms : ∀ t, ti.ms t = true → ∃ k e, P.underlying t = some (.map k e) ∧ P.underlying k = some .string
  clo : ∀ g T1 T2 cc, ti.clo g = some (T1, T2, cc) → SoundX P g ptr2 T1 T2 cc
  hof : ∀ g g' T1 T2 cc, ti.hof g = some (g', T1, T2, cc) → SoundX P g (clo2 g') T1 T2 cc

abbrev Ct := List AV → Option (Prop × AV)
abbrev Env := Nat → Option Ct
abbrev Ws := List (Nat × Option Ent)
abbrev Eff := Prop × AV × Ws

/-- A value that is handed on: a row of the call's own stays from now on. -/
def pub (m : MM) : AV → Option (AV × Ws)
  | .row id => match m id with
    | some (.row T k l _) => some (.lst k l, [(id, some (.row T k l true))])
    | _ => none
  | .v x => some (.v x, [])
  | .pair a b => some (.pair a b, [])
  | .z x c s => some (.z x c s, [])
  | .q x c s => some (.q x c s, [])
  | .lst k l => some (.lst k l, [])
  | .rp a => some (.rp a, [])
  | .one x => some (.one x, [])
  | _ => none
def nilAV (ti : TI) (t : TypeId) : AV → AV
  | .v (.slice none 0 0) => match ti.ek t with
    | some (_, k) => .lst k []
    | none => .v (.slice none 0 0)
  | a => a
def pubs (ti : TI) (m : MM) : List TypeId → List AV → Option (List AV × Ws)
  | _, [] => some ([], [])
  | ts, a :: r => match pub m a with
    | some (a', w1) => match pubs ti (m.upd w1) ts.tail r with
      | some (r', w2) => some (nilAV ti (ts.headD 0) a' :: r', w1 ++ w2)
      | none => none
    | none => none

def AV.nth : AV → Nat → Option AV
  | .tc a b, 0 => some a
  | .tc a b, i + 1 => b.nth i
  | _, _ => none

def binI (op : BinOp) (k : IntKind) (a b : Int) : Option (Prop × AV) :=
  match op with
  | .add => some (True, .v (.int k (k.wrap (a + b))))
  | .sub => some (True, .v (.int k (k.wrap (a - b))))
  | .mul => some (True, .v (.int k (k.wrap (a * b))))
  | .quo => some (b ≠ 0, .v (.int k (k.wrap (a.tdiv b))))
  | .rem => some (b ≠ 0, .v (.int k (a.tmod b)))
  | .eql => some (True, vb (a == b))
  | .neq => some (True, vb (a != b))
  | .lss => some (True, vb (decide (a < b)))
  | .leq => some (True, vb (decide (a ≤ b)))
  | .gtr => some (True, vb (decide (a > b)))
  | .geq => some (True, vb (decide (a ≥ b)))
  | _ => none
def binA (ti : TI) (op : BinOp) (t : TypeId) : AV → AV → Option (Prop × AV)
  | .v (.int k a), .v (.int k' b) => match op with
    | .shl => some (0 ≤ b, .v (.int k (k.wrap (a * 2 ^ min b.toNat k.bits))))
    | .shr => some (0 ≤ b, .v (.int k (a.fdiv (2 ^ min b.toNat k.bits))))
    | _ => if k = k' then binI op k a b else none
  | .v (.bool a), .v (.bool b) => if ti.isb t then (match op with
    | .eql => some (True, vb (a == b))
    | .neq => some (True, vb (!(a == b)))
    | _ => none) else none
  | .pair (.v (.int .i64 a)) (.v (.int .i64 b)), .pair (.v (.int .i64 c)) (.v (.int .i64 d)) => if ti.eq2 t then (match op with
    | .eql => some (True, vb (a == c && b == d))
    | .neq => some (True, vb (!(a == c && b == d)))
    | _ => none) else none
  | _, _ => none

def foldB (ti : TI) (t : TypeId) : AV → List (Nat × AV) → Option AV
  | z, [] => some z
  | z, (i, x) :: r => match ti.fld t i with
    | some (off, n) => if x.cells = n then (match z.setPart off n x with
      | some z' => foldB ti t z' r
      | none => none) else none
    | none => none
def foldS (k : K) : List k.T → List (Nat × AV) → Option (Prop × List k.T)
  | l, [] => some (True, l)
  | l, (i, x) :: r => match k.dec x with
    | some (p, y) => match foldS k (l.set i y) r with
      | some (q, l') => some (p ∧ i < l.length ∧ q, l')
      | none => none
    | none => none

def intOp : Option Operand → (Operand → AV) → Int → Option Int
  | none, _, d => some d
  | some x, ev, _ => match ev x with
    | .v (.int _ n) => some n
    | _ => none

def castL (k k' : K) (l : List k'.T) : Option (List k.T) := if h : k' = k then some (h ▸ l) else none
theorem castL_self (k : K) (l : List k.T) : castL k k l = some l := by simp [castL]

def appEff (ti : TI) (m : MM) (nid : Nat) (t : TypeId) (s x : AV) : Option Eff :=
  match ti.ek t with
  | none => none
  | some (e, k) => match pub m x with
    | none => none
    | some (x', ws) => match nilAV ti t x' with
      | .lst k' l2' => match castL k k' l2' with
        | none => none
        | some l2 => match s with
          | .v (.slice none 0 0) => some (l2.length * k.bytes ≤ 140737488355328, .row nid, ws ++ [(nid, some (.row e k l2 false))])
          | .row id => match m.upd ws id with
            | some (.row T k1 l1' false) => match castL k k1 l1' with
              | none => none
              | some l1 => if T = e then some ((l1.length + l2.length) * k.bytes ≤ 140737488355328, .row nid, ws ++ [(id, none), (nid, some (.row e k (l1 ++ l2) false))]) else none
            | _ => none
          | _ => none
      | _ => none

/-- A call's result: a row that is the caller's own from now on is taken up as entry nid. -/
def frE (nid : Nat) (ws : Ws) : AV → AV × Ws
  | .fr T k l => (.row nid, ws ++ [(nid, some (.row T k l false))])
  | .v x => (.v x, [])
  | r => (r, ws)
def cloEff (ti : TI) (m : MM) (T1 T2 : TypeId) (cc : Cct) (i j : Nat) (ts : List TypeId) (as : List AV) : Option Eff :=
  match pubs ti m ts as with
  | some (as, ws) => match m.upd ws i with
    | some (.box S1 b1) => match m.upd ws j with
      | some (.box S2 b2) => if S1 = T1 ∧ S2 = T2 ∧ i ≠ j then (match cc as b1 b2 with
        | some (p, r, c2) => some (p, r, ws ++ [(i, some (.box T1 b1)), (j, some (.box T2 c2))])
        | none => none) else none
      | _ => none
    | _ => none
  | none => none
def cloOf : AV → Option (Nat × Nat × Nat)
  | .clo g i j => some (g, i, j)
  | _ => none
theorem cloOf_eq {a : AV} {p : Nat × Nat × Nat} (h : cloOf a = some p) : a = .clo p.1 p.2.1 p.2.2 := by
  unfold cloOf at h; split at h <;> cases h; rfl
def funOf : AV → Option Nat
  | .v (.func (.func g) a b) => if a.toList = [] then (if b.toList = [] then some g else none) else none
  | _ => none
theorem funOf_eq {a : AV} {g : Nat} (h : funOf a = some g) : a = .v (.func (.func g) #[] #[]) := by
  unfold funOf at h
  split at h
  · split at h
    · split at h
      · rename_i g' a b h1 h2
        cases h
        have e1 : a = #[] := by apply Array.ext'; simpa using h1
        have e2 : b = #[] := by apply Array.ext'; simpa using h2
        rw [e1, e2]
      · cases h
    · cases h
  · cases h
theorem funOf_v (g : Nat) : funOf (.v (.func (.func g) #[] #[])) = some g := rfl
theorem cloOf_v (x : Value) : cloOf (.v x) = none := rfl
def callEff (ti : TI) (env : Env) (ev : Operand → AV) (m : MM) (nid : Nat) (c : Call) : Option Eff :=
  match c.callee with
  | .builtin .len => match c.args.toList, c.argTypes.toList with
    | [x], [t] => if (ti.ek t).isSome then (match ev x with
      | .lst k l => some (True, vi l.length, [])
      | .row id => match m id with
        | some (.row _ k l _) => some (True, vi l.length, [])
        | _ => none
      | .v (.slice none 0 0) => some (True, vi 0, [])
      | _ => none) else none
    | _, _ => none
  | .builtin .max => match c.args.toList with
    | [x, y] => match ev x, ev y with
      | .v (.int k a), .v (.int k' b) => some (True, .v (.int k (if b > a then b else a)), [])
      | _, _ => none
    | _ => none
  | .builtin .min => match c.args.toList with
    | [x, y] => match ev x, ev y with
      | .v (.int k a), .v (.int k' b) => some (True, .v (.int k (if b < a then b else a)), [])
      | _, _ => none
    | _ => none
  | .builtin .append => match c.args.toList, c.argTypes.toList with
    | [s, x], [t, t'] => if t' = t then appEff ti m nid t (ev s) (ev x) else none
    | _, _ => none
  | .value f => match cloOf (ev f) with
    | some (g, i, j) => (match ti.clo g with
      | some (T1, T2, cc) => cloEff ti m T1 T2 cc i j c.argTypes.toList (c.args.toList.map ev)
      | none => none)
    | none => match funOf (ev f) with
      | some g => match env g with
        | some ct => match pubs ti m c.argTypes.toList (c.args.toList.map ev) with
          | some (as, ws) => match ct as with
            | some (p, r) => some (p, frE nid ws r)
            | none => none
          | none => none
        | none => match ti.hof g with
          | some (g', T1, T2, cc) => match c.args.toList.getLast? with
            | some x => match ev x with
              | .clo g2 i j => if g2 = g' then cloEff ti m T1 T2 cc i j c.argTypes.toList (c.args.toList.dropLast.map ev) else none
              | _ => none
            | none => none
          | none => none
      | none => none
  | _ => none

def findS (s : ByteArray) : List MapEntry → Option Value
  | [] => none
  | e :: r => match e.key with
    | .string k => if (s == k) = true then some e.val else findS s r
    | _ => none

def ptrOf : AV → Option Nat
  | .ptr i off => if off = 0 then some i else none
  | _ => none
theorem ptrOf_eq {a : AV} {i : Nat} (h : ptrOf a = some i) : a = .ptr i 0 := by
  unfold ptrOf at h
  split at h
  · split at h
    · rename_i h0; cases h; rw [h0]
    · cases h
  · cases h
def mkfEff (ev : Operand → AV) (fn : Fn) (l l' : List Operand) : Option Eff := match fn with
  | .func g => match l with
    | [] => match l' with
      | [x, y] => match ptrOf (ev x) with
        | some i => match ptrOf (ev y) with
          | some j => some (True, .clo g i j, [])
          | none => none
        | none => none
      | _ => none
    | _ => none
  | _ => none
def opEff (ti : TI) (env : Env) (ev : Operand → AV) (m : MM) (nid : Nat) : Op → Option Eff
  | .move x => some (True, ev x, [])
  | .assign x => some (True, ev x, [])
  | .pick c a b => match ev c with
    | .v (.bool true) => some (True, ev a, [])
    | .v (.bool false) => some (True, ev b, [])
    | _ => none
  | .alloc t => match ti.zero t with
    | some z => some (True, .ptr nid 0, [(nid, some (.box t z))])
    | none => none
  | .box t x => match pub m (ev x), ti.sz t with
    | some (a, ws), some (n, _) => if a.cells = n then some (True, .ptr nid 0, ws ++ [(nid, some (.box t a))]) else none
    | _, _ => none
  | .load t p => match ti.sz t with
    | some (n, b) => (match ev p with
      | .ptr id off => (match m id with
        | some (.box _ a) => (match a.part off n with
          | some x => if x.agg = b then some (True, x, []) else none
          | none => none)
        | _ => none)
      | .ep id es i off => (match m id with
        | some (.row _ k l _) => if es = k.es then (match (k.enc (l.getD i k.zero)).part off n with
          | some x => if x.agg = b then some (i < l.length, x, []) else none
          | none => none) else none
        | _ => none)
      | .rp a => (match a.part 0 n with
        | some x => if x.agg = b then some (True, x, []) else none
        | none => none)
      | _ => none)
    | none => none
  | .store t p x => match ti.sz t, pub m (ev x) with
    | some (n, _), some (x', ws) => if x'.cells = n then (match ev p with
      | .ptr id off => (match m.upd ws id with
        | some (.box T a) => (match a.setPart off n x' with
          | some a' => some (True, .un, ws ++ [(id, some (.box T a'))])
          | none => none)
        | _ => none)
      | .ep id es i 0 => (match m.upd ws id with
        | some (.row T k l false) => if es = k.es ∧ n = k.es then (match k.dec x' with
          | some (p, y) => some (p ∧ i < l.length, .un, ws ++ [(id, some (.row T k (l.set i y) false))])
          | none => none) else none
        | _ => none)
      | _ => none) else none
    | _, _ => none
  | .extract x i => match ev x with
    | .tup t => (match t.nth i with
      | some a => some (True, a, [])
      | none => none)
    | _ => none
  | .fieldAddr s x j => match ti.fld s j with
    | some (off, n) => (match ev x with
      | .ptr id o => some (True, .ptr id (o + off), [])
      | .ep id es i o => some (True, .ep id es i (o + off), [])
      | .rp a => (match a.part off n with
        | some b => some (True, .rp b, [])
        | none => none)
      | _ => none)
    | none => none
  | .indexAddr t x i => match ev i, ti.ek t with
    | .v (.int _ n), some (_, k') => (match ev x with
      | .lst k l => if k' = k then some (0 ≤ n ∧ n < l.length, .rp (k.enc (l.getD n.toNat k.zero)), []) else none
      | .row id => (match m id with
        | some (.row _ k l _) => if k' = k then some (0 ≤ n ∧ n < l.length, .ep id k.es n.toNat 0, []) else none
        | _ => none)
      | _ => none)
    | _, _ => none
  | .makeSlice t a b => match ev a, ev b, ti.ek t with
    | .v (.int _ n), .v (.int _ c), some (e, k) => some (0 ≤ n ∧ n ≤ c ∧ c * k.bytes ≤ 140737488355328, .row nid, [(nid, some (.row e k (List.replicate n.toNat k.zero) false))])
    | _, _, _ => none
  | .slice t x lo hi none => match pub m (ev x), ti.ek t with
    | some (.lst k l, ws), some (_, k') => if k' = k then (match intOp lo ev 0, intOp hi ev l.length with
      | some a, some b => some (0 ≤ a ∧ a ≤ b ∧ b ≤ l.length, .lst k ((l.take b.toNat).drop a.toNat), ws)
      | _, _ => none) else none
    | _, _ => none
  | .build t parts => match ti.zeroB t, pubs ti m [] (parts.toList.map fun p => ev p.2) with
    | some z, some (as, ws) => (match foldB ti t z ((parts.toList.map (·.1)).zip as) with
      | some z' => if z'.agg = true then some (True, z', ws) else none
      | none => none)
    | _, _ => none
  | .buildSlice t n parts => match ti.ek t, pubs ti m [] (parts.toList.map fun p => ev p.2) with
    | some (e, k), some (as, ws) => if n * k.es ≤ 16777216 then (match foldS k (List.replicate n k.zero) ((parts.toList.map (·.1)).zip as) with
      | some (p, l) => some (p, .row nid, ws ++ [(nid, some (.row e k l false))])
      | none => none) else none
    | _, _ => none
  | .binOp op t x y _ => match binA ti op t (ev x) (ev y) with
    | some (p, r) => some (p, r, [])
    | none => none
  | .unOp op _ x => match op, ev x with
    | .neg, .v (.int k n) => some (True, .v (.int k (k.wrap (-n))), [])
    | .not, .v (.bool b) => some (True, vb (!b), [])
    | _, _ => none
  | .convert s d x => match ev x, ti.int s, ti.int d with
    | .v (.int _ n), some _, some k => some (True, .v (.int k (k.wrap n)), [])
    | _, _, _ => none
  | .call c => callEff ti env ev m nid c
  | .makeFunc fn first cap => mkfEff ev fn first.toList cap.toList
  | .field t x j => match ti.f1 t j with
    | some (off, n, b) => (match (ev x).part off n with
      | some y => if (ev x).agg = true ∧ y.agg = b then some (True, y, []) else none
      | none => none)
    | none => none
  | .lookup t x k false => match ev x, ev k with
    | .mp (.map es _), .v (.string s) => if ti.ms t then (match findS s es.toList with
      | some (.agg ⟨[y]⟩) => if plainV y = true then some (True, .one y, []) else none
      | _ => none) else none
    | _, _ => none
  | _ => none
end Go.AE

/- That function tells what the machine does: operation by operation. -/
namespace Go.AE
open Go.RowKit
set_option linter.unusedVariables false

section
variable {P : Program} {ti : TI} {w0 : World} {F0 : Bs} {U : Nat → Prop} {m : MM} {F : Fz} {G : Gm} {w : World}

theorem pub_ok {a a' : AV} {ws : Ws} (hp : pub m a = some (a', ws)) (hm : Mem w0 F0 U m F G w) {v : Value} (hv : RV F G a v) :
    ∃ F', F.le F' ∧ Mem w0 F0 U (m.upd ws) F' G w ∧ RVp F' a' v := by
  unfold pub at hp
  split at hp
  · rename_i id
    split at hp
    · rename_i T k l fz h0
      cases hp
      obtain ⟨F', h1, h2⟩ := hm.freeze h0
      refine ⟨F', h1, h2, ?_⟩
      have := h2.reads (id := id) (T := T) (k := k) (l := l) (by simp [MM.set]) (hv.mono h1 (Gm.le.refl G))
      exact this
    · cases hp
  all_goals first
    | (cases hp; exact ⟨F, Fz.le.refl F, hm, hv⟩)
    | cases hp

theorem nilAV_ok {t : TypeId} {a : AV} {v : Value} (hv : RVp F a v) : RVp F (nilAV ti t a) v := by
  unfold nilAV
  split
  · split
    · rename_i k h
      have hv' : RC F (.v (.slice none 0 0)) [v] := hv
      obtain ⟨_, h1⟩ := hv'
      cases h1
      exact ⟨_, rfl, none, 0, rfl, by simp, fun e => absurd rfl e⟩
    · exact hv
  · exact hv

theorem pubs_ok : ∀ {l : List AV} {ts : List TypeId} {m : MM} {F : Fz} {l' : List AV} {ws : Ws} {vs : List Value}, pubs ti m ts l = some (l', ws) → Mem w0 F0 U m F G w →
    (∃ hl : l.length = vs.length, ∀ i (h : i < l.length), RV F G l[i] (vs[i]'(hl ▸ h))) →
    ∃ F', F.le F' ∧ Mem w0 F0 U (m.upd ws) F' G w ∧ RVs F' l' vs := by
  intro l
  induction l with
  | nil =>
    intro ts m F l' ws vs hp hm ⟨hl, hv⟩
    simp only [pubs, Option.some.injEq, Prod.mk.injEq] at hp
    obtain ⟨rfl, rfl⟩ := hp
    have : vs = [] := List.eq_nil_of_length_eq_zero hl.symm
    exact ⟨F, Fz.le.refl F, hm, this⟩
  | cons a r ih =>
    intro ts m F l' ws vs hp hm ⟨hl, hv⟩
    cases vs with
    | nil => simp at hl
    | cons v vs =>
      simp only [pubs] at hp
      split at hp
      · rename_i a' w1 h1
        split at hp
        · rename_i r' w2 h2
          simp only [Option.some.injEq, Prod.mk.injEq] at hp
          obtain ⟨rfl, rfl⟩ := hp
          obtain ⟨F1, hF1, hm1, hv1⟩ := pub_ok h1 hm (hv 0 (by simp))
          obtain ⟨F2, hF2, hm2, hv2⟩ := ih (vs := vs) h2 hm1 ⟨by simpa using hl, fun i hi => (hv (i + 1) (by simpa using hi)).mono hF1 (Gm.le.refl G)⟩
          refine ⟨F2, hF1.trans hF2, ?_, v, vs, rfl, nilAV_ok (hv1.mono hF2), hv2⟩
          have e : ∀ (a b : Ws) (m : MM), (m.upd a).upd b = m.upd (a ++ b) := by
            intro a
            induction a with
            | nil => intro b m; rfl
            | cons x a ih => intro b m; exact ih b _
          rw [← e]
          exact hm2
        · cases hp
      · cases hp

/-- What an operation comes to. -/
def OpGoal (P : Program) (o : Oper) (a : Act) (w : World) (Ψ : Value → World → Prop) : Prop :=
  ∀ (next : Act → World → Prop) (Q : Exit → Act → World → Prop), (∀ v w', Ψ v w' → next (a.put o.dst v) w') → o.wp P a w next Q
theorem OpGoal.of_run {o : Oper} {a : Act} {w w' : World} {v : Value} {Ψ : Value → World → Prop} (h : (execOp a.eval o).run P w = .ok (.value v) w') (hΨ : Ψ v w') : OpGoal P o a w Ψ := fun next Q hn => by
  unfold Oper.wp; rw [h]; exact hn v w' hΨ
theorem OpGoal.of_skip {o : Oper} {a : Act} {w w' : World} {Ψ : Value → World → Prop} (h : (execOp a.eval o).run P w = .ok .skip w') (hΨ : Ψ undef w') : OpGoal P o a w Ψ := fun next Q hn => by
  unfold Oper.wp; rw [h]; exact hn _ w' hΨ

/-- What stands behind an operation. -/
def After (w0 : World) (F0 : Bs) (U : Nat → Prop) (m : MM) (F : Fz) (G : Gm) (nid : Nat) (r : AV) (ws : Ws) (v : Value) (w' : World) : Prop :=
  ∃ F' G', F.le F' ∧ G.le G' ∧ RV F' G' r v ∧ Mem w0 F0 (fun i => U i ∨ i = nid) (m.upd ws) F' G' w'
theorem After.same (hm : Mem w0 F0 U m F G w) {nid : Nat} {r : AV} {v : Value} (hv : RV F G r v) : After w0 F0 U m F G nid r [] v w :=
  ⟨F, G, Fz.le.refl F, Gm.le.refl G, hv, hm.wider fun _ h => .inl h⟩

theorem RVp.cells {a : AV} {v : Value} (h : RVp F a v) : RC F a v.cells.toList ∧ (a.agg = true → v = .agg v.cells) ∧ (a.agg = false → plainV v = true ∧ v.cells = #[v]) := by
  unfold RVp at h
  split at h
  · rename_i ha
    obtain ⟨cs, h1, rfl⟩ := h
    exact ⟨by simpa [Value.cells] using h1, fun _ => rfl, fun e => by rw [ha] at e; cases e⟩
  · rename_i ha
    have hp := RC.plain h v (by simp)
    have hc : v.cells = #[v] := by cases v <;> first | rfl | cases hp
    exact ⟨by rw [hc]; exact h, fun e => absurd e ha, fun _ => ⟨hp, hc⟩⟩
theorem RVp.mk {a : AV} {cs : List Value} (h : RC F a cs) {v : Value} (h1 : a.agg = true → v = .agg cs.toArray) (h2 : a.agg = false → cs = [v]) : RVp F a v := by
  unfold RVp
  split
  · rename_i ha; exact ⟨cs, h, h1 ha⟩
  · rename_i ha; rw [← h2 (by simpa using ha)]; exact h
theorem RV_of_RVp {a : AV} {v : Value} (h : RVp F a v) (hr : ∀ t, a ≠ .tup t) : RV F G a v := by
  cases a <;> first
    | exact h
    | exact absurd rfl (hr _)
    | (unfold RVp at h; simp only [AV.agg, Bool.false_eq_true, if_false] at h; exact h.elim)
/-- What has cells is a value that stays. -/
theorem RVp_of_RV {a : AV} {v : Value} (h : RV F G a v) (hp : pub m a = some (a, [])) : RVp F a v := by
  cases a <;> first
    | exact h
    | (simp only [pub] at hp; split at hp <;> cases hp)
    | cases hp

theorem load_run {t : TypeId} {n : Nat} {b : Bool} (ok : TIOk P ti) (hs : ti.sz t = some (n, b)) {x : AV} (hb : x.agg = b) {g off : Nat} {C : Array Value} {T : TypeId} {fr : Nat × Nat} (hg : w.heap[g]? = some (.cells C T fr))
    {cs : List Value} (hn : cs.length = n) (hc : ∀ k, k < cs.length → C[off + k]? = cs[k]?) (hx : RC F x cs) : ∃ v, (loadVar t ⟨g, off, none⟩).run P w = .ok v w ∧ RVp F x v := by
  obtain ⟨h1, h2⟩ := ok.sz t n b hs
  obtain ⟨i, hi, rfl⟩ := Option.map_eq_some_iff.1 h1
  obtain ⟨d, hd, rfl⟩ := Option.map_eq_some_iff.1 h2
  have hcell : ∀ j v, cs[j]? = some v → w.cell? ((⟨g, off, none⟩ : Addr).add j) = some v := by
    intro j v hj
    have hlt : j < cs.length := (List.getElem?_eq_some_iff.1 hj).1
    have hadd : (⟨g, off, none⟩ : Addr).add j = ⟨g, off + j, none⟩ := by unfold Addr.add; split <;> simp_all
    rw [hadd]
    simp [World.cell?, hg, hc j hlt, hj]
  have hl := run_loadCells_list (P := P) w ⟨g, off, none⟩ cs hcell
  cases hagg : isAggD d with
  | true =>
    refine ⟨.agg cs.toArray, ?_, RVp.mk hx (fun _ => rfl) (fun e => by rw [hb, hagg] at e; cases e)⟩
    have ha : (isAgg t).run P w = .ok true w := by cases d <;> simp [isAggD] at hagg <;> simp [isAgg, run_underlying hd]
    simp [loadVar, ha, sizeOf, typeInfo, hi, ← hn, hl]
  | false =>
    rw [hagg] at hb
    have hlen : cs.length = 1 := by
      rw [RC.length hx]
      cases x <;> first | rfl | exact False.elim hx | cases hb
    obtain ⟨v, rfl⟩ := List.length_eq_one_iff.1 hlen
    refine ⟨v, ?_, RVp.mk hx (fun e => by rw [hb] at e; cases e) (fun _ => rfl)⟩
    have ha : (isAgg t).run P w = .ok false w := by cases d <;> simp [isAggD] at hagg <;> simp [isAgg, run_underlying hd]
    have h0 := hcell 0 v rfl
    have hadd : (⟨g, off, none⟩ : Addr).add 0 = ⟨g, off, none⟩ := by simp [Addr.add]
    rw [hadd] at h0
    simp [loadVar, ha, run_load, h0]

theorem getElem?_mid {α : Type} (pre mid post : List α) (k : Nat) (h : k < mid.length) : (pre ++ mid ++ post)[pre.length + k]? = mid[k]? := by
  rw [List.append_assoc, List.getElem?_append_right (by omega), List.getElem?_append_left (by omega)]
  congr 1
  omega

theorem box_load {t : TypeId} {n : Nat} {b : Bool} (ok : TIOk P ti) (hs : ti.sz t = some (n, b)) (hm : Mem w0 F0 U m F G w) {id off : Nat} {T : TypeId} {a x : AV} (h0 : m id = some (.box T a)) (hx : a.part off n = some x) (hb : x.agg = b)
    {v : Value} (hv : RV F G (.ptr id off) v) : ∃ y, (Instr.loadAt t v).run P w = .ok y w ∧ RVp F x y := by
  obtain ⟨g, cs, h1, h2, h3, h4, h5⟩ := hm.own id _ h0
  obtain ⟨g', c', e1, rfl⟩ := hv
  rw [h1] at e1; cases e1
  obtain ⟨pre, post, mid, rfl, e2, e3, e4⟩ := AV.part_ok hx h5
  obtain ⟨y, hy, hr⟩ := load_run (w := w) ok hs hb h4 (off := off) (cs := mid) e3 (fun k hk => by rw [List.getElem?_toArray, ← e2]; exact getElem?_mid pre mid post k hk) e4
  exact ⟨y, by simpa [Instr.loadAt, Instr.sureAddr] using hy, hr⟩
end
end Go.AE

/- Operation by operation: memory. -/
namespace Go.AE
open Go.RowKit
set_option linter.unusedVariables false

section
variable {P : Program} {ti : TI} {w0 : World} {F0 : Bs} {U : Nat → Prop} {m : MM} {F : Fz} {G : Gm} {w : World}

theorem RV_v {x v : Value} (h : RV F G (.v x) v) : v = x ∧ plainV x = true := by
  obtain ⟨h1, h2⟩ := (show RC F (.v x) [v] from h)
  cases h2
  exact ⟨rfl, h1⟩

theorem below_setRow (w : World) (g : Nat) (cs : Array Value) : Below g w (w.setRow g cs) :=
  ⟨rfl, rfl, rfl, by simp, fun k hk => setRow_other w g k cs (by omega)⟩

theorem plain_one {v : Value} (h : plainV v = true) : v.oneCell' = true := by cases v <;> first | rfl | cases h

theorem storeAt_run (t : TypeId) (a : Addr) (y : Value) : (Instr.storeAt t (.pointer (some a)) y).run P w = (storeVar t a y).run P w := by simp [Instr.storeAt, Instr.sureAddr]

/-- A store into a block, at a place. -/
theorem store_run {t : TypeId} {n : Nat} {b : Bool} (ok : TIOk P ti) (hs : ti.sz t = some (n, b)) {g off : Nat} {C : Array Value} {T : TypeId} (hg : w.heap[g]? = some (.cells C T (0, 0))) {x : Value} (hx : x.cells.size = n) (hpl : ∀ y ∈ x.cells.toList, plainV y = true)
    (hin : off + n ≤ C.size) : (storeVar t ⟨g, off, none⟩ x).run P w = .ok () (w.setRow g (C.toList.take off ++ x.cells.toList ++ C.toList.drop (off + n)).toArray) := by
  obtain ⟨h1, _⟩ := ok.sz t n b hs
  obtain ⟨i, hi, rfl⟩ := Option.map_eq_some_iff.1 h1
  have hl := run_storeCells_at (P := P) g off T x.cells.toList 0 C w hg (by simp [hx]; omega) (fun v hv => plain_one (hpl v hv))
  have e : x.cells.toList.length = i.size := by simp [hx]
  rw [e] at hl
  simp only [Nat.add_zero] at hl
  simp [storeVar, sizeOf, typeInfo, hi, hx, hl]

theorem box_store {t : TypeId} {n : Nat} {b : Bool} (ok : TIOk P ti) (hs : ti.sz t = some (n, b)) (hm : Mem w0 F0 U m F G w) {id off : Nat} {T : TypeId} {a a' x : AV} (h0 : m id = some (.box T a)) (hn : x.cells = n) (hx : a.setPart off n x = some a')
    {v y : Value} (hv : RV F G (.ptr id off) v) (hy : RVp F x y) : ∃ w', (Instr.storeAt t v y).run P w = .ok () w' ∧ Mem w0 F0 U (m.set id (some (.box T a'))) F G w' := by
  obtain ⟨g, cs, h1, h2, h3, h4, h5⟩ := hm.own id _ h0
  obtain ⟨g', c', e1, rfl⟩ := hv
  rw [h1] at e1; cases e1
  obtain ⟨hyc, _, _⟩ := hy.cells
  have hyl : y.cells.toList.length = n := by rw [RC.length hyc, hn]
  obtain ⟨pre, post, mid, rfl, e2, e3, e4⟩ := AV.setPart_ok hx h5 hyc hyl
  have hr := store_run (w := w) (off := off) (x := y) ok hs h4 (by simpa using hyl) (RC.plain hyc) (by simp [e2, e3])
  have hc : (List.take off (pre ++ mid ++ post) ++ y.cells.toList ++ List.drop (off + n) (pre ++ mid ++ post)) = pre ++ y.cells.toList ++ post := by
    rw [List.append_assoc pre, List.take_append_of_le_length (by omega), List.take_of_length_le (by omega)]
    congr 1
    rw [← List.append_assoc, List.drop_append, List.drop_of_length_le (by simp; omega)]
    have : off + n - (pre ++ mid).length = 0 := by simp; omega
    rw [this]; rfl
  simp only [] at hr
  rw [hc] at hr
  refine ⟨_, (storeAt_run ..).trans hr, ?_⟩
  refine hm.turn h0 h1 h3 (below_setRow w g _) (fun b hb _ => setRow_other w g b _ hb) ?_
  exact ⟨g, _, h1, h2, h3, setRow_heap w g _ _ T (0, 0) h4, e4⟩

/-- A row's element, read. -/
theorem row_at {k : K} {l : List k.T} {C : Array Value} (h : RowIn F k l C) {i : Nat} (hi : i < l.length) : ∃ cs, cs.length = k.es ∧ RC F (k.enc (l.getD i k.zero)) cs ∧ ∀ j, j < k.es → C[i * k.es + j]? = cs[j]? := by
  obtain ⟨cs, h1, h2, h3⟩ := h i hi
  refine ⟨cs, h1, ?_, h3⟩
  have : l.getD i k.zero = l[i] := by simp [List.getD_eq_getElem?_getD, List.getElem?_eq_getElem hi]
  rw [this]
  exact h2.enc
theorem ep_load {t : TypeId} {n : Nat} {b : Bool} (ok : TIOk P ti) (hs : ti.sz t = some (n, b)) (hm : Mem w0 F0 U m F G w) {id i off : Nat} {T : TypeId} {k : K} {l : List k.T} {fz : Bool} {x : AV} (h0 : m id = some (.row T k l fz)) (hi : i < l.length)
    (hx : (k.enc (l.getD i k.zero)).part off n = some x) (hb : x.agg = b) {v : Value} (hv : RV F G (.ep id k.es i off) v) : ∃ y, (Instr.loadAt t v).run P w = .ok y w ∧ RVp F x y := by
  obtain ⟨g', c', e1, rfl⟩ := hv
  rcases hm.own id _ h0 with ⟨h1, h2⟩ | ⟨g, c, C, h1, h2, h3, h4, hq, h5, h6, h7, h9⟩
  · rw [e1] at h1; cases h1
  · rw [h1] at e1; cases e1
    obtain ⟨cs, a1, a2, a3⟩ := row_at h9 hi
    obtain ⟨pre, post, mid, rfl, e2, e3, e4⟩ := AV.part_ok hx a2
    obtain ⟨y, hy, hr⟩ := load_run (w := w) ok hs hb h4 (off := i * k.es + off) (cs := mid) e3 (fun j hj => by
      rw [Nat.add_assoc, a3 (off + j) (by simp at a1; omega), ← e2]; exact getElem?_mid pre mid post j hj) e4
    exact ⟨y, by simpa [Instr.loadAt, Instr.sureAddr] using hy, hr⟩
theorem rp_load {t : TypeId} {n : Nat} {b : Bool} (ok : TIOk P ti) (hs : ti.sz t = some (n, b)) (hm : Mem w0 F0 U m F G w) {a x : AV} (hx : a.part 0 n = some x) (hb : x.agg = b) {v : Value} (hv : RV F G (.rp a) v) :
    ∃ y, (Instr.loadAt t v).run P w = .ok y w ∧ RVp F x y := by
  obtain ⟨g, off, C, T, fr, cs', h1, h2, h3, h4⟩ := (show RC F (.rp a) [v] from hv)
  cases h1
  obtain ⟨pre, post, mid, rfl, e2, e3, e4⟩ := AV.part_ok hx h3
  obtain rfl : pre = [] := List.eq_nil_of_length_eq_zero e2
  obtain ⟨y, hy, hr⟩ := load_run (w := w) ok hs hb (hm.fit _ _ h2) (off := off) (cs := mid) e3 (fun j hj => by
    rw [h4 j (by simp; omega)]; simpa using getElem?_mid [] mid post j hj) e4
  exact ⟨y, by simpa [Instr.loadAt, Instr.sureAddr] using hy, hr⟩

theorem RowIn.set {k : K} {l : List k.T} {C : Array Value} (h : RowIn F k l C) (hC : l.length * k.es ≤ C.size) {i : Nat} (hi : i < l.length) {y : k.T} {cs : List Value} (hy : RK F k y cs) :
    RowIn F k (l.set i y) (C.toList.take (i * k.es) ++ cs ++ C.toList.drop (i * k.es + k.es)).toArray := by
  have hcl := RK.length hy
  have hend : i * k.es + k.es ≤ C.size := by
    have : (i + 1) * k.es ≤ l.length * k.es := Nat.mul_le_mul_right _ hi
    rw [Nat.add_mul] at this; omega
  have htl : (C.toList.take (i * k.es)).length = i * k.es := by simp; omega
  intro j hj
  have hj' : j < l.length := by simpa using hj
  by_cases hij : j = i
  · subst hij
    refine ⟨cs, hcl, by simpa using hy, fun p hp => ?_⟩
    rw [List.getElem?_toArray]
    have := getElem?_mid (C.toList.take (j * k.es)) cs (C.toList.drop (j * k.es + k.es)) p (by omega)
    rw [htl] at this
    exact this
  · obtain ⟨ds, h1, h2, h3⟩ := h j hj'
    refine ⟨ds, h1, by simpa [List.getElem_set, Ne.symm hij] using h2, fun p hp => ?_⟩
    rw [List.getElem?_toArray, ← h3 p hp]
    rcases Nat.lt_or_gt_of_ne hij with hlt | hgt
    · have : j * k.es + p < i * k.es := by
        have : (j + 1) * k.es ≤ i * k.es := Nat.mul_le_mul_right _ hlt
        rw [Nat.add_mul] at this; omega
      rw [List.append_assoc, List.getElem?_append_left (by omega), List.getElem?_take_of_lt this]
      simp
    · have h4 : i * k.es + k.es ≤ j * k.es + p := by
        have : (i + 1) * k.es ≤ j * k.es := Nat.mul_le_mul_right _ hgt
        rw [Nat.add_mul] at this; omega
      rw [List.getElem?_append_right (by simp [hcl, htl]; omega), List.getElem?_drop]
      simp only [List.length_append, htl, hcl]
      rw [show i * k.es + k.es + (j * k.es + p - (i * k.es + k.es)) = j * k.es + p by omega]
      simp

theorem ep_store {t : TypeId} {b : Bool} {k : K} (ok : TIOk P ti) (hs : ti.sz t = some (k.es, b)) (hm : Mem w0 F0 U m F G w) {id i : Nat} {T : TypeId} {l : List k.T} {x : AV} {p : Prop} {y : k.T} (h0 : m id = some (.row T k l false)) (hi : i < l.length)
    (hx : k.dec x = some (p, y)) (hp : p) {v u : Value} (hv : RV F G (.ep id k.es i 0) v) (hu : RVp F x u) : ∃ w', (Instr.storeAt t v u).run P w = .ok () w' ∧ Mem w0 F0 U (m.set id (some (.row T k (l.set i y) false))) F G w' := by
  obtain ⟨g', c', e1, rfl⟩ := hv
  rcases hm.own id _ h0 with ⟨h1, h2⟩ | ⟨g, c, C, h1, h2, h3, h4, hq, h5, h6, h7, h9⟩
  · rw [e1] at h1; cases h1
  · have e2 := h1.symm.trans e1
    simp only [Option.some.injEq, Prod.mk.injEq] at e2
    obtain ⟨rfl, rfl⟩ := e2
    obtain ⟨hyc, _, _⟩ := hu.cells
    have hk := K.dec_ok hx hp hyc
    have hyl := RK.length hk
    have hC : l.length * k.es ≤ C.size := by rw [h6]; exact Nat.mul_le_mul_right _ h5
    have hend : i * k.es + k.es ≤ C.size := by
      have : (i + 1) * k.es ≤ l.length * k.es := Nat.mul_le_mul_right _ hi
      rw [Nat.add_mul] at this; omega
    have hr := store_run (w := w) (off := i * k.es) (x := u) ok hs h4 (by simpa using hyl) (RC.plain hyc) hend
    refine ⟨_, (storeAt_run ..).trans hr, ?_⟩
    refine hm.turn h0 h1 (by simpa using h3) (below_setRow w g _) (fun b hb _ => setRow_other w g b _ hb) ?_
    refine .inr ⟨g, c, _, h1, h2, by simpa using h3, setRow_heap w g _ _ T (0, 0) h4, by simpa using hq, by simpa using h5, ?_, h7, h9.set hC hi hk⟩
    simp only [List.size_toArray, List.length_append, List.length_take, List.length_drop, Array.length_toList]
    have : u.cells.size = k.es := by simpa using hyl
    omega

theorem alloc_new (hm : Mem w0 F0 U m F G w) {nid : Nat} (hn : ¬ U nid) {t : TypeId} {x : AV} {C : Array Value} (hx : RC F x C.toList) :
    After w0 F0 U m F G nid (.ptr nid 0) [(nid, some (.box t x))] (.pointer (some ⟨w.heap.size, 0, none⟩)) (w.alloc (.cells C t)) := by
  refine ⟨F, G.set nid (some (w.heap.size, 0, 0)), Fz.le.refl F, Gm.le_set (hm.fresh _ hn), ⟨w.heap.size, (0, 0), G.set_same nid _, rfl⟩, ?_⟩
  refine hm.new hn (0, 0) _ _ ?_
  refine ⟨w.heap.size, C.toList, G.set_same nid _, hm.below.size, ?_, ?_, hx⟩
  · cases hF : F w.heap.size with
    | none => rfl
    | some o => exact absurd (hm.lt hF) (by omega)
  · rw [heap_alloc_here]

/-- A new row. -/
theorem row_new (hm : Mem w0 F0 U m F G w) {nid : Nat} (hn : ¬ U nid) {T : TypeId} {k : K} {l : List k.T} {C : Array Value} {c : Nat} (h1 : l.length ≤ c) (h2 : C.size = c * k.es) (h3 : c ≤ maxLen) (h5 : RowIn F k l C) :
    After w0 F0 U m F G nid (.row nid) [(nid, some (.row T k l false))] (.slice (some ⟨w.heap.size, 0, none⟩) l.length c) (w.alloc (.cells C T)) := by
  refine ⟨F, G.set nid (some (w.heap.size, c, l.length)), Fz.le.refl F, Gm.le_set (hm.fresh _ hn), .inr ⟨w.heap.size, (c, l.length), G.set_same nid _, rfl⟩, ?_⟩
  refine hm.new hn (c, l.length) _ _ (.inr ⟨w.heap.size, (c, l.length), C, G.set_same nid _, hm.below.size, ?_, ?_, rfl, h1, h2, h3, h5⟩)
  · cases hF : F w.heap.size with
    | none => rfl
    | some o => exact absurd (hm.lt hF) (by omega)
  · rw [heap_alloc_here]

theorem made_get (z : Array Value) (n i j : Nat) (hj : j < z.size) (h : i * z.size + j < n) : (madeCells z n)[i * z.size + j]? = z[j]? := by
  have h1 : (i * z.size + j) % z.size = j := by rw [Nat.add_comm, Nat.add_mul_mod_self_right, Nat.mod_eq_of_lt hj]
  rw [Array.getElem?_eq_getElem (by simpa [madeCells] using h), Array.getElem?_eq_getElem hj]
  simp [madeCells, h1, getElem!_pos, hj]
end
end Go.AE

/- Operation by operation: addresses, slices, structs, numbers. -/
namespace Go.AE
open Go.RowKit
set_option linter.unusedVariables false

section
variable {P : Program} {ti : TI} {w0 : World} {F0 : Bs} {U : Nat → Prop} {m : MM} {F : Fz} {G : Gm} {w : World}

theorem K.bytes_pos (k : K) : 0 < k.bytes := by cases k <;> decide
theorem K.es_pos (k : K) : 0 < k.es := by cases k <;> decide

theorem Addr_add (b off n : Nat) : (⟨b, off, none⟩ : Addr).add n = ⟨b, off + n, none⟩ := by unfold Addr.add; split <;> simp_all

theorem field_run (ok : TIOk P ti) {s j off n : Nat} (hf : ti.fld s j = some (off, n)) (b o : Nat) : (Instr.fieldAt s (.pointer (some ⟨b, o, none⟩)) j).run P w = .ok (.pointer (some ⟨b, o + off, none⟩)) w := by
  obtain ⟨fs, f, i, h1, h2, h3, h4, h5, h6⟩ := ok.fld s j off n hf
  subst h3 h5
  simp [Instr.fieldAt, run_underlying h1, h2, Instr.sureAddr, fieldPlace, sizeOf, typeInfo, h4, h6, Addr_add]

theorem index_run (ok : TIOk P ti) {t e : TypeId} {k : K} (hk : ti.ek t = some (e, k)) {ik : IntKind} {n : Int} {b off len cap : Nat} (h0 : 0 ≤ n) (h1 : n < len) :
    (Instr.indexAt t (.slice (some ⟨b, off, none⟩) len cap) (.int ik n)).run P w = .ok (.pointer (some ⟨b, off + n.toNat * k.es, none⟩)) w := by
  obtain ⟨hu, i, z, hi, hz, hs, _⟩ := ok.ek t e k hk
  simp [Instr.indexAt, asIntOf, run_underlying hu, h0, h1, sizeOf, typeInfo, hi, hs, Addr_add]

theorem lst_index (ok : TIOk P ti) {t e : TypeId} {k : K} (hk : ti.ek t = some (e, k)) {ik : IntKind} {n : Int} {l : List k.T} (h0 : 0 ≤ n) (h1 : n < l.length) {v : Value} (hv : RC F (.lst k l) [v]) :
    ∃ p, (Instr.indexAt t v (.int ik n)).run P w = .ok p w ∧ RC F (.rp (k.enc (l.getD n.toNat k.zero))) [p] := by
  obtain ⟨v', h2, A, c, h3, h4, h5⟩ := hv
  cases h2
  obtain ⟨b, off, C, T, fr, rfl, h6, h7⟩ := h5 (by intro e; subst e; simp at h1; omega)
  subst h3
  refine ⟨_, index_run ok hk h0 h1, ?_⟩
  have hn : n.toNat < l.length := by omega
  obtain ⟨cs, a1, a2, a3⟩ := h7 n.toNat hn
  have : l.getD n.toNat k.zero = l[n.toNat] := by simp [List.getD_eq_getElem?_getD, List.getElem?_eq_getElem hn]
  rw [this]
  exact ⟨b, off + n.toNat * k.es, C, T, fr, cs, rfl, h6, a2.enc, fun j hj => by rw [a1] at hj; exact a3 j hj⟩
theorem row_index (ok : TIOk P ti) (hm : Mem w0 F0 U m F G w) {t e : TypeId} {k : K} (hk : ti.ek t = some (e, k)) {ik : IntKind} {n : Int} {id : Nat} {T : TypeId} {l : List k.T} {fz : Bool} (h0 : m id = some (.row T k l fz)) (hn : 0 ≤ n) (h1 : n < l.length)
    {v : Value} (hv : RV F G (.row id) v) : ∃ p, (Instr.indexAt t v (.int ik n)).run P w = .ok p w ∧ RV F G (.ep id k.es n.toNat 0) p := by
  rcases hm.own id _ h0 with ⟨a1, a2⟩ | ⟨g, c, C, a1, a2, a3, a4, hq, a5, a6, a7, a9⟩
  · subst a2; simp at h1; omega
  · rcases hv with ⟨e1, _⟩ | ⟨g', c', e1, rfl⟩
    · rw [a1] at e1; cases e1
    · have e2 := a1.symm.trans e1
      simp only [Option.some.injEq, Prod.mk.injEq] at e2
      obtain ⟨rfl, rfl⟩ := e2
      refine ⟨_, index_run ok hk hn (by rw [hq]; exact h1), g, c, a1, ?_⟩
      simp

theorem make_run (ok : TIOk P ti) (hm : Mem w0 F0 U m F G w) {nid : Nat} (hnid : ¬ U nid) {t e : TypeId} {k : K} (hk : ti.ek t = some (e, k)) {k1 k2 : IntKind} {n c : Int} (h0 : 0 ≤ n) (h1 : n ≤ c) (h2 : c * k.bytes ≤ 140737488355328) :
    ∃ v w', (Instr.makeSlice t (.int k1 n) (.int k2 c)).run P w = .ok v w' ∧ After w0 F0 U m F G nid (.row nid) [(nid, some (.row e k (List.replicate n.toNat k.zero) false))] v w' := by
  obtain ⟨hu, i, z, hi, hz, hs, hb, hzs, hzk⟩ := ok.ek t e k hk
  have hp := k.bytes_pos
  have hc : c ≤ 140737488355328 := by
    have : c * 1 ≤ c * (k.bytes : Int) := Int.mul_le_mul_of_nonneg_left (by omega) (by omega)
    omega
  have hr := run_make (P := P) w t e i z hu hi hz k1 k2 n c h0 h1 (by rw [hb, Int.mul_comm]; omega) (by omega)
  refine ⟨_, _, hr, ?_⟩
  rw [hs]
  have hl : (List.replicate n.toNat k.zero).length = n.toNat := by simp
  have := row_new (T := e) (k := k) (l := List.replicate n.toNat k.zero) (C := madeCells z.cells (c.toNat * k.es)) (c := c.toNat) hm hnid (by rw [hl]; omega) (by simp [madeCells]) (by simp only [maxLen]; omega) (fun j hj => ?_)
  · rw [hl] at this; exact this
  · rw [hl] at hj
    refine ⟨z.cells.toList, by simpa using hzs, by simpa using hzk F, fun p hp => ?_⟩
    have h5 : j * k.es + p < c.toNat * k.es := by
      have : (j + 1) * k.es ≤ c.toNat * k.es := Nat.mul_le_mul_right _ (by omega)
      rw [Nat.add_mul] at this; omega
    have := made_get z.cells (c.toNat * k.es) j p (by rw [hzs]; exact hp) (by rw [hzs]; exact h5)
    rw [hzs] at this
    rw [this]; simp

theorem RL.cut {α : Type} {es : Nat} {R : α → List Value → Prop} {l : List α} (a b : Nat) (hab : a ≤ b) (hb : b ≤ l.length) {A : Option Addr} {c : Nat} (hv : RL F es R l (.slice A l.length c)) (A' : Option Addr)
    (hA : b - a ≠ 0 → A' = A.map (·.add (a * es))) : RL F es R ((l.take b).drop a) (.slice A' (b - a) (c - a)) := by
  obtain ⟨A0, c0, h1, h2, h3⟩ := hv
  cases h1
  have hl : ((l.take b).drop a).length = b - a := by simp; omega
  refine ⟨A', c - a, by rw [hl], by omega, fun hne => ?_⟩
  have hpos : b - a ≠ 0 := by
    intro e
    apply hne
    apply List.eq_nil_of_length_eq_zero
    omega
  obtain ⟨g, off, C, T, fr, rfl, h5, h6⟩ := h3 (by intro e; subst e; simp at hb; omega)
  refine ⟨g, off + a * es, C, T, fr, by rw [hA hpos]; simp [Addr_add], h5, fun i hi => ?_⟩
  rw [hl] at hi
  obtain ⟨cs, a1, a2, a3⟩ := h6 (a + i) (by omega)
  refine ⟨cs, a1, by simpa [List.getElem_drop, List.getElem_take] using a2, fun k hk => ?_⟩
  rw [← a3 k hk, Nat.add_mul]
  congr 1
  omega

theorem slice_run (ok : TIOk P ti) {t e : TypeId} {k : K} (hk : ti.ek t = some (e, k)) {l : List k.T} {v : Value} (hv : RC F (.lst k l) [v]) {lo hi : Option Value} {a b : Int}
    (hlo : (lo = none ∧ a = 0) ∨ ∃ q, lo = some (.int q a)) (hhi : (hi = none ∧ b = l.length) ∨ ∃ q, hi = some (.int q b)) (h0 : 0 ≤ a) (h1 : a ≤ b) (h2 : b ≤ l.length) :
    ∃ r, (Instr.sliceAt t v lo hi none).run P w = .ok r w ∧ RC F (.lst k ((l.take b.toNat).drop a.toNat)) [r] := by
  obtain ⟨hu, i, z, hi', hz, hs, _⟩ := ok.ek t e k hk
  obtain ⟨v', e1, hrl⟩ := hv
  cases e1
  obtain ⟨A, c, rfl, h4, h5⟩ := id hrl
  have hb : b ≤ c := by omega
  have hb0 : 0 ≤ b := by omega
  have hmx : a ≤ max b 0 := by omega
  refine ⟨.slice (if c = a.toNat then A else A.map (·.add (a.toNat * k.es))) (b.toNat - a.toNat) (c - a.toNat), ?_, _, rfl, hrl.cut a.toNat b.toNat (by omega) (by omega) _ (fun hne => ?_)⟩
  · rcases hlo with ⟨rfl, rfl⟩ | ⟨q, rfl⟩ <;> rcases hhi with ⟨rfl, rfl⟩ | ⟨q', rfl⟩ <;>
      simp [Instr.sliceAt, run_underlying hu, Instr.slice, Instr.sliceBounds, Instr.sliceBound, asIntOf, sizeOf, typeInfo, hi', hs, h0, h1, hb, hb0, hmx]
  · rw [if_neg (by omega)]

/-- The cells of a part, laid into others. -/
theorem fill_fold : ∀ (vs : List Value) (off s : Nat) (C : Array Value), off + s + vs.length ≤ C.size →
    ((vs.zipIdx s).foldl (fun (cs : Array Value) (p : Value × Nat) => cs.setIfInBounds (off + p.2) p.1) C) = (C.toList.take (off + s) ++ vs ++ C.toList.drop (off + s + vs.length)).toArray := by
  intro vs
  induction vs with
  | nil => intro off s C h; simp
  | cons v vs ih =>
    intro off s C h
    simp only [List.length_cons] at h
    simp only [List.zipIdx_cons, List.foldl_cons]
    rw [ih off (s + 1) (C.setIfInBounds (off + s) v) (by simp; omega)]
    have hlt : off + s < C.toList.length := by simp; omega
    have hD : (C.toList.set (off + s) v).drop (off + (s + 1) + vs.length) = C.toList.drop (off + s + (vs.length + 1)) := by
      rw [List.drop_set_of_lt (by omega)]
      congr 1
      omega
    have hT : (C.toList.set (off + s) v).take (off + (s + 1)) = C.toList.take (off + s) ++ [v] := by
      rw [show off + (s + 1) = (off + s) + 1 by omega, List.take_succ_eq_append_getElem (by simpa using hlt), List.take_set_of_le (Nat.le_refl _)]
      simp
    apply Array.ext'
    simp only [Array.toList_setIfInBounds, List.length_cons, hD, hT]
    simp

theorem fill_one (place : Nat → Option (Nat × Nat)) (C : Array Value) (i : Nat) (v : Value) (rest : List (Nat × Value)) {off n : Nat} (hp : place i = some (off, n)) (hn : v.cells.size = n) (hin : off + n ≤ C.size) :
    Instr.fill place C ((i, v) :: rest) = Instr.fill place (C.toList.take off ++ v.cells.toList ++ C.toList.drop (off + n)).toArray rest := by
  simp only [Instr.fill, hp, hn]
  rw [if_neg (by simp; omega)]
  congr 1
  have := fill_fold v.cells.toList off 0 C (by simp; omega)
  simp only [Nat.add_zero, Array.length_toList, hn] at this
  rw [← this, ← Array.foldl_toList, Array.toList_zipIdx]

theorem take_drop_mid {pre mid post cs : List Value} {off n : Nat} (e2 : pre.length = off) (e3 : mid.length = n) : (List.take off (pre ++ mid ++ post) ++ cs ++ List.drop (off + n) (pre ++ mid ++ post)) = pre ++ cs ++ post := by
  rw [List.append_assoc pre, List.take_append_of_le_length (by omega), List.take_of_length_le (by omega)]
  congr 1
  rw [← List.append_assoc, List.drop_append, List.drop_of_length_le (by simp; omega)]
  have : off + n - (pre ++ mid).length = 0 := by simp; omega
  rw [this]; rfl

theorem foldB_ok {t : TypeId} {place : Nat → Option (Nat × Nat)} (hpl : ∀ j off n, ti.fld t j = some (off, n) → place j = some (off, n)) : ∀ {is : List Nat} {as : List AV} {vs : List Value} {z z' : AV} {C : Array Value},
    foldB ti t z (is.zip as) = some z' → RC F z C.toList → RVs F as vs → is.length = as.length → ∃ C', Instr.fill place C (is.zip vs) = some C' ∧ RC F z' C'.toList := by
  intro is
  induction is with
  | nil =>
    intro as vs z z' C h hz hv hl
    simp only [List.zip_nil_left, foldB, Option.some.injEq] at h
    subst h
    exact ⟨C, by simp [Instr.fill], hz⟩
  | cons i is ih =>
    intro as vs z z' C h hz hv hl
    cases as with
    | nil => simp at hl
    | cons a as =>
      obtain ⟨v, rs, rfl, hv1, hv2⟩ := hv
      simp only [List.zip_cons_cons, foldB] at h
      split at h
      · rename_i off n hf
        split at h
        · rename_i hn
          split at h
          · rename_i z1 hs
            obtain ⟨hc, _, _⟩ := hv1.cells
            have hcl : v.cells.toList.length = n := by rw [RC.length hc, hn]
            obtain ⟨pre, post, mid, e1, e2, e3, e4⟩ := AV.setPart_ok hs hz hc hcl
            have hsz : C.size = pre.length + mid.length + post.length := by rw [← Array.length_toList, e1]; simp [Nat.add_assoc]
            have hvs : v.cells.size = n := by simpa using hcl
            obtain ⟨C', h1, h2⟩ := ih (C := (C.toList.take off ++ v.cells.toList ++ C.toList.drop (off + n)).toArray) h (by rw [e1, take_drop_mid e2 e3]; exact e4) hv2 (by simpa using hl)
            refine ⟨C', ?_, h2⟩
            rw [List.zip_cons_cons, fill_one place C i v _ (hpl _ _ _ hf) hvs (by omega)]
            exact h1
          · cases h
        · cases h
      · cases h

theorem foldS_ok {k : K} : ∀ {is : List Nat} {as : List AV} {vs : List Value} {l l' : List k.T} {p : Prop} {C : Array Value},
    foldS k l (is.zip as) = some (p, l') → p → RowIn F k l C → C.size = l.length * k.es → RVs F as vs → is.length = as.length → ∃ C', Instr.fill (fun i => some (i * k.es, k.es)) C (is.zip vs) = some C' ∧ RowIn F k l' C' ∧ l'.length = l.length ∧ C'.size = C.size := by
  intro is
  induction is with
  | nil =>
    intro as vs l l' p C h hp hr hC hv hl
    simp only [List.zip_nil_left, foldS, Option.some.injEq, Prod.mk.injEq] at h
    obtain ⟨_, rfl⟩ := h
    exact ⟨C, by simp [Instr.fill], hr, rfl, rfl⟩
  | cons i is ih =>
    intro as vs l l' p C h hp hr hC hv hl
    cases as with
    | nil => simp at hl
    | cons a as =>
      obtain ⟨v, rs, rfl, hv1, hv2⟩ := hv
      simp only [List.zip_cons_cons, foldS] at h
      split at h
      · rename_i p1 y hd
        split at h
        · rename_i q l1 hf
          simp only [Option.some.injEq, Prod.mk.injEq] at h
          obtain ⟨rfl, rfl⟩ := h
          obtain ⟨hp1, hil, hq⟩ := hp
          obtain ⟨hc, _, _⟩ := hv1.cells
          have hk := K.dec_ok hd hp1 hc
          have hkl := RK.length hk
          have hend : i * k.es + k.es ≤ C.size := by
            have : (i + 1) * k.es ≤ l.length * k.es := Nat.mul_le_mul_right _ hil
            rw [Nat.add_mul] at this; omega
          have hsz : (C.toList.take (i * k.es) ++ v.cells.toList ++ C.toList.drop (i * k.es + k.es)).toArray.size = C.size := by
            simp only [List.size_toArray, List.length_append, List.length_take, List.length_drop, Array.length_toList]
            have : v.cells.size = k.es := by simpa using hkl
            omega
          obtain ⟨C', h1, h2, h3, h4⟩ := ih hf hq (hr.set (by omega) hil hk) (by rw [hsz, List.length_set]; exact hC) hv2 (by simpa using hl)
          refine ⟨C', ?_, h2, by simpa using h3, by rw [h4, hsz]⟩
          rw [List.zip_cons_cons, fill_one _ C i v _ rfl (by simpa using hkl) hend]
          exact h1
        · cases h
      · cases h
end
end Go.AE

/- Operation by operation: numbers, append, calls; then all of them. -/
namespace Go.AE
open Go.RowKit
set_option linter.unusedVariables false

section
variable {P : Program} {ti : TI} {w0 : World} {F0 : Bs} {U : Nat → Prop} {m : MM} {F : Fz} {G : Gm} {w : World}

theorem binI_run {op : BinOp} {k : IntKind} {a b : Int} {p : Prop} {r : AV} (h : binI op k a b = some (p, r)) (hp : p) (t : TypeId) (x y : Operand) :
    ∃ v, (do eqGuard op t x y (.int k a) (.int k b); binOp op t (.int k a) (.int k b)).run P w = .ok v w ∧ RVp F r v := by
  cases op <;> simp only [binI, Option.some.injEq, Prod.mk.injEq, reduceCtorEq] at h <;> obtain ⟨rfl, rfl⟩ := h
  case quo => exact ⟨_, by simp [eqGuard, binOp, Op.intDiv, show ¬ b = 0 from hp], ⟨rfl, rfl⟩⟩
  case rem => exact ⟨_, by simp [eqGuard, binOp, Op.intDiv, show ¬ b = 0 from hp], ⟨rfl, rfl⟩⟩
  all_goals exact ⟨_, by simp [eqGuard, binOp, Op.intArith, Op.intCmp], ⟨rfl, rfl⟩⟩

theorem RC_pair_ints {a b : Int} {v : Value} (h : RVp F (.pair (.v (.int .i64 a)) (.v (.int .i64 b))) v) : v = .agg #[.int .i64 a, .int .i64 b] := by
  obtain ⟨cs, ⟨c1, c2, rfl, ⟨_, rfl⟩, ⟨_, rfl⟩⟩, rfl⟩ := (show ∃ cs, RC F _ cs ∧ v = .agg cs.toArray from h)
  rfl

theorem equal_bool {t : TypeId} (hT : P.underlying t = some .bool) (a b : Bool) : (Op.equal t (.bool a) (.bool b)).run P w = .ok (a == b) w := by
  unfold Op.equal
  rw [show Op.maxDepth = 9999 + 1 from rfl, Op.equalIn.eq_2]
  simp [run_underlying hT]

theorem binA_run (ok : TIOk P ti) {op : BinOp} {t : TypeId} {a b : AV} {p : Prop} {r : AV} (h : binA ti op t a b = some (p, r)) (hp : p) {u v : Value} (hu : RV F G a u) (hv : RV F G b v) (x y : Operand) :
    ∃ z, (do eqGuard op t x y u v; binOp op t u v).run P w = .ok z w ∧ RVp F r z := by
  unfold binA at h
  split at h
  · rename_i k a k' b
    obtain ⟨rfl, _⟩ := RV_v hu
    obtain ⟨rfl, _⟩ := RV_v hv
    split at h
    · simp only [Option.some.injEq, Prod.mk.injEq] at h
      obtain ⟨rfl, rfl⟩ := h
      exact ⟨_, by simp [eqGuard, binOp, Op.shift, show ¬ b < 0 by omega], ⟨rfl, rfl⟩⟩
    · simp only [Option.some.injEq, Prod.mk.injEq] at h
      obtain ⟨rfl, rfl⟩ := h
      exact ⟨_, by simp [eqGuard, binOp, Op.shift, show ¬ b < 0 by omega], ⟨rfl, rfl⟩⟩
    · split at h
      · rename_i e; subst e; exact binI_run h hp t x y
      · cases h
  · obtain ⟨rfl, _⟩ := RV_v hu
    obtain ⟨rfl, _⟩ := RV_v hv
    split at h
    · rename_i hb
      have hT := ok.isb t hb
      split at h <;> simp only [Option.some.injEq, Prod.mk.injEq, reduceCtorEq] at h <;> obtain ⟨rfl, rfl⟩ := h <;>
        exact ⟨_, by simp [eqGuard, binOp, equal_bool hT], ⟨rfl, rfl⟩⟩
    · cases h
  · obtain rfl := RC_pair_ints hu
    obtain rfl := RC_pair_ints hv
    split at h
    · rename_i h2
      split at h <;> simp only [Option.some.injEq, Prod.mk.injEq, reduceCtorEq] at h <;> obtain ⟨rfl, rfl⟩ := h
      · exact ⟨_, (ok.eq2 t h2 x y _ _ _ _ w).1, ⟨rfl, rfl⟩⟩
      · exact ⟨_, (ok.eq2 t h2 x y _ _ _ _ w).2, ⟨rfl, rfl⟩⟩
    · cases h
  · cases h

/-- A result: a row of its own, that nobody else holds; or a value that stays. -/
def RVr (n0 : Nat) (w : World) (F : Fz) : AV → Value → Prop
  | .fr T k l, v => (v = .slice none 0 0 ∧ l = []) ∨ ∃ g c C, v = .slice (some ⟨g, 0, none⟩) l.length c ∧ n0 ≤ g ∧ F g = none ∧ w.heap[g]? = some (.cells C T (0, 0)) ∧ l.length ≤ c ∧ C.size = c * k.es ∧ c ≤ maxLen ∧ RowIn F k l C
  | r, v => RV F (fun _ => none) r v
theorem RVr_of_RV {n0 : Nat} {w : World} {F : Fz} {r : AV} {v : Value} (h : RV F (fun _ => none) r v) : RVr n0 w F r v := by
  cases r <;> first | exact h | exact False.elim (by simp [RV, RVp, AV.agg, RC] at h)
/-- What is known of a function. -/
def Sound (P : Program) (g : Nat) (ct : Ct) : Prop :=
  (∃ fn c, P.funcs[g]? = some fn ∧ (fn.name == "runtime.NumGoroutine") = false ∧ fn.body = some c) ∧
  ∀ as p r, ct as = some (p, r) → p → ∀ (w : World) (F : Fz) (args : List Value), (∀ b o, F b = some o → w.heap[b]? = some o) → RVs F as args →
    Calls P g args.toArray w (fun e w' => ∃ F' v, F.le F' ∧ (∀ b, b < w.heap.size → F' b = F b) ∧ (∀ b o, F' b = some o → w'.heap[b]? = some o) ∧ Below w.heap.size w w' ∧ e = .returned v ∧ RVr w.heap.size w' F' r v)
def EnvOk (P : Program) (env : Env) : Prop := ∀ g ct, env g = some ct → Sound P g ct

theorem MM.upd_app (m : MM) : ∀ (a b : Ws), m.upd (a ++ b) = (m.upd a).upd b
  | [], b => rfl
  | x :: a, b => MM.upd_app _ a b
theorem call_run {env : Env} (henv : EnvOk P env) (hm : Mem w0 F0 U m F G w) {g : Nat} {ct : Ct} (hg : env g = some ct) {as as' : List AV} {ts : List TypeId} {ws : Ws} (hps : pubs ti m ts as = some (as', ws)) {p : Prop} {r : AV} (hct : ct as' = some (p, r)) (hp : p)
    {args : List Value} (hargs : ∃ hl : as.length = args.length, ∀ i (h : i < as.length), RV F G as[i] (args[i]'(hl ▸ h))) {nid : Nat} (hnid : ¬ U nid) {o : Oper} {a : Act} (hrun : (execOp a.eval o).run P w = .ok (.enter g args.toArray) w) :
    OpGoal P o a w (After w0 F0 U m F G nid (frE nid ws r).1 (frE nid ws r).2) := by
  intro next Q hn
  obtain ⟨F1, hF1, hm1, hvs⟩ := pubs_ok hps hm hargs
  obtain ⟨_, hs⟩ := henv g ct hg
  have hc := hs as' p r hct hp w F1 args hm1.fit hvs
  unfold Oper.wp
  rw [hrun]
  refine Calls.mono hc ?_
  rintro e w' ⟨F', v, h1, h2, h3, h4, rfl, h5⟩
  have hm2 := hm1.called h1 h2 h3 h4
  refine hn v w' ?_
  by_cases hv : ∃ x, r = .v x
  · -- a plain result: nothing of the call is kept, the arguments' rows are the caller's as before
    obtain ⟨x, rfl⟩ := hv
    obtain ⟨rfl, hp2⟩ := RV_v (show RV F' (fun _ => none) (.v x) v from h5)
    exact ⟨F, G, Fz.le.refl F, Gm.le.refl G, ⟨hp2, rfl⟩, (hm.called (Fz.le.refl F) (fun _ _ => rfl) (fun b o hb => h3 b o (h1 b o (hF1 b o hb))) h4).wider fun _ h => .inl h⟩
  by_cases hfr : ∃ T k l, r = .fr T k l
  rotate_left
  · have e : frE nid ws r = (r, ws) := by cases r <;> first | rfl | exact absurd ⟨_, _, _, rfl⟩ hfr | exact absurd ⟨_, rfl⟩ hv
    have h6 : RV F' (fun _ => none) r v := by cases r <;> first | exact h5 | exact absurd ⟨_, _, _, rfl⟩ hfr
    rw [e]
    exact ⟨F', G, hF1.trans h1, Gm.le.refl G, h6.mono (Fz.le.refl _) (fun _ _ e => by cases e), hm2.wider fun _ h => .inl h⟩
  obtain ⟨T, k, l, rfl⟩ := hfr
  have hfresh := hm2.fresh nid hnid
  simp only [frE]
  unfold After
  rw [MM.upd_app]
  rcases h5 with ⟨rfl, rfl⟩ | ⟨g', c, C, rfl, hg, hFg, hw, hl, hC, hmx, hrow⟩
  · refine ⟨F', G.set nid none, hF1.trans h1, Gm.le_set hfresh, .inl ⟨G.set_same _ _, rfl⟩, hm2.adoptNil hnid T k⟩
  · refine ⟨F', G.set nid (some (g', (c, l.length))), hF1.trans h1, Gm.le_set hfresh, .inr ⟨g', (c, l.length), G.set_same _ _, rfl⟩, ?_⟩
    refine hm2.adopt hnid (c, l.length) _ hm2.below hFg (fun _ _ _ _ => rfl) (by cases hk : F0.k g' with
      | none => rfl
      | some o => have := hm1.klt hk; omega) (fun i e c' hi hg' => ?_) ?_
    · have := ((hm1.own i e hi).lt hg').2
      omega
    · have hb := hm1.below.size
      exact .inr ⟨g', (c, l.length), C, G.set_same _ _, by omega, by rw [hFg]; rfl, hw, rfl, hl, hC, hmx, hrow⟩

theorem call_enter {env : Env} (henv : EnvOk P env) {g : Nat} {ct : Ct} (hg : env g = some ct) (args : Array Value) : (callFunc g args).run P w = .ok (.enter g args) w := by
  obtain ⟨⟨fn, c, h1, h2, h3⟩, _⟩ := henv g ct hg
  have h4 : fn.name ≠ "runtime.NumGoroutine" := by simpa using h2
  simp [callFunc, h1, h4, h3]
end
end Go.AE

/- Operation by operation: append; then all of them. -/
namespace Go.AE
open Go.RowKit
set_option linter.unusedVariables false

section
variable {P : Program} {ti : TI} {w0 : World} {F0 : Bs} {U : Nat → Prop} {m : MM} {F : Fz} {G : Gm} {w : World}

/-- A slice of the call's own, as it stands: nil, or a block's beginning. -/
def OwnSl (n0 : Nat) (F : Fz) (k : K) (e : TypeId) (l : List k.T) (v : Value) (w : World) : Prop :=
  (v = .slice none 0 0 ∧ l = []) ∨ ∃ g c C, v = .slice (some ⟨g, 0, none⟩) l.length c ∧ n0 ≤ g ∧ w.heap[g]? = some (.cells C e (0, 0)) ∧ l.length ≤ c ∧ C.size = c * k.es ∧ c ≤ maxLen ∧ RowIn F k l C

theorem append_core (ok : TIOk P ti) {t e : TypeId} {k : K} (hk : ti.ek t = some (e, k)) {n0 : Nat} (hn0 : n0 ≤ w.heap.size) (hfit : ∀ b o, F b = some o → w.heap[b]? = some o) {v : Value} {l1 l2 : List k.T} (hown : OwnSl n0 F k e l1 v w) {vx : Value} (hx : RC F (.lst k l2) [vx])
    (hlen : (l1.length + l2.length) * k.bytes ≤ 140737488355328) (ty : TypeId) : ∃ v' w', (Builtin.append_ #[t, t] ty #[v, vx]).run P w = .ok v' w' ∧ OwnSl n0 F k e (l1 ++ l2) v' w' ∧ w.grownBy w' v.ownBlock ∧ (v' = .slice none 0 0 → w' = w ∧ v = v') ∧ (v'.ownBlock = v.ownBlock ∨ v'.ownBlock = some w.heap.size) := by
  obtain ⟨hu, i, z, hi, hz, hs, hb, hzs, hzk⟩ := ok.ek t e k hk
  obtain ⟨v', e1, A, c2, h1, h2, h3⟩ := hx
  cases e1
  by_cases hl2 : l2 = []
  · subst hl2
    subst h1
    have h0 : ∀ a : Addr, (loadCells a 0).run P w = .ok #[] w := fun a => by simp [loadCells, loadCellsFrom]
    have hrun : (Builtin.append_ #[t, t] ty #[v, .slice A 0 c2]).run P w = .ok v w := by
      rcases hown with ⟨rfl, _⟩ | ⟨g, c, C, rfl, _, _, hc, _⟩
      · cases A <;> simp [Builtin.append_, run_underlying hu, sizeOf, typeInfo, hi, Builtin.lenOf, Builtin.firstCells, h0]
      · cases A <;> simp [Builtin.append_, run_underlying hu, sizeOf, typeInfo, hi, Builtin.lenOf, Builtin.firstCells, hc, storeCells, h0]
    exact ⟨v, w, hrun, by simpa using hown, World.grownBy.refl w _, fun _ => ⟨rfl, rfl⟩, .inl rfl⟩
  · obtain ⟨b, off, C2, T2, fr, rfl, h5, h6⟩ := h3 hl2
    subst h1
    have hes := k.es_pos
    have hby := k.bytes_pos
    have hsmall : l1.length + l2.length ≤ 140737488355328 := Nat.le_trans (Nat.le_mul_of_pos_right _ hby) hlen
    -- the old cells
    obtain ⟨xs, hxs, hxo⟩ : ∃ xs, w.ownsRow n0 e k.es v l1.length xs ∧ ∀ i (h : i < l1.length), ∃ cs, cs.length = k.es ∧ RK F k l1[i] cs ∧ ∀ j, j < k.es → xs[i * k.es + j]? = cs[j]? := by
      rcases hown with ⟨rfl, rfl⟩ | ⟨g, c, C, rfl, hg, hh, hc, hC, hm', hr⟩
      · exact ⟨[], ⟨by simp, .inl ⟨rfl, rfl⟩⟩, fun i h => by simp at h⟩
      · have hle : l1.length * k.es ≤ C.size := by rw [hC]; exact Nat.mul_le_mul_right _ hc
        refine ⟨C.toList.take (l1.length * k.es), ⟨by simp; omega, .inr ⟨g, c, C, rfl, hg, hh, hc, hm', hC, rfl⟩⟩, fun i h => ?_⟩
        obtain ⟨cs, a1, a2, a3⟩ := hr i h
        refine ⟨cs, a1, a2, fun j hj => ?_⟩
        have : i * k.es + j < l1.length * k.es := by
          have : (i + 1) * k.es ≤ l1.length * k.es := Nat.mul_le_mul_right _ h
          rw [Nat.add_mul] at this; omega
        rw [List.getElem?_take_of_lt this, ← a3 j hj]; simp
    -- the new cells
    have hgetN : ∀ p, p < l2.length * k.es → ∃ y, C2[off + p]? = some y ∧ plainV y = true := by
      intro p hp
      have hq : p / k.es < l2.length := (Nat.div_lt_iff_lt_mul hes).2 hp
      obtain ⟨cs, a1, a2, a3⟩ := h6 (p / k.es) hq
      have hmod := Nat.mod_lt p hes
      have := a3 (p % k.es) hmod
      rw [Nat.add_assoc, show p / k.es * k.es + p % k.es = p from by rw [Nat.mul_comm]; exact Nat.div_add_mod p k.es] at this
      rw [this, List.getElem?_eq_getElem (by omega)]
      exact ⟨_, rfl, RK.plain a2 _ (List.getElem_mem _)⟩
    have hC2 : off + l2.length * k.es ≤ C2.size := by
      have hpos : 0 < l2.length := List.length_pos_iff.2 hl2
      have hpos2 : 0 < l2.length * k.es := Nat.mul_pos hpos hes
      obtain ⟨y, hy, _⟩ := hgetN (l2.length * k.es - 1) (by omega)
      have := (Array.getElem?_eq_some_iff.1 hy).1
      omega
    have hnl : ((C2.toList.drop off).take (l2.length * k.es)).length = l2.length * k.es := by simp; omega
    have hng : ∀ p, p < l2.length * k.es → ((C2.toList.drop off).take (l2.length * k.es))[p]? = C2[off + p]? := fun p hp => by
      rw [List.getElem?_take_of_lt hp, List.getElem?_drop]; simp
    have hcell : ∀ j u, ((C2.toList.drop off).take (l2.length * k.es))[j]? = some u → w.cell? ((⟨b, off, none⟩ : Addr).add j) = some u := by
      intro j u hj
      have hlt : j < l2.length * k.es := by have := (List.getElem?_eq_some_iff.1 hj).1; omega
      rw [hng j hlt] at hj
      rw [Addr_add]
      simp [World.cell?, hfit _ _ h5, hj]
    have hone : ∀ u ∈ (C2.toList.drop off).take (l2.length * k.es), u.oneCell' = true := by
      intro u hu'
      obtain ⟨j, hj⟩ := List.mem_iff_getElem?.1 hu'
      have hlt : j < l2.length * k.es := by have := (List.getElem?_eq_some_iff.1 hj).1; omega
      rw [hng j hlt] at hj
      obtain ⟨y, hy, hpl⟩ := hgetN j hlt
      rw [hj] at hy; cases hy
      exact plain_one hpl
    obtain ⟨v', w', hr, h7, h8, h9, h10⟩ := run_append_own_at (P := P) (w := w) n0 t ty e i z k.es k.bytes hu hi hz hs hb hzs hes v l1.length xs hxs ⟨b, off, none⟩ l2.length c2 _ hnl hcell hone (by simp only [maxLen]; omega) hlen hn0
    refine ⟨v', w', hr, ?_, h8, fun hn => absurd (h9.1 hn).2 (by simp [hl2]), h10⟩
    rcases h7.2 with ⟨_, hz0⟩ | ⟨g, cap, cur, hv', hg, hh, hc, hm', hC, htk⟩
    · exact absurd hz0 (by have : 0 < l2.length := List.length_pos_iff.2 hl2; omega)
    · refine .inr ⟨g, cap, cur, by rw [hv']; simp, hg, hh, by simpa using hc, hC, hm', fun q hq => ?_⟩
      have hxl := hxs.1
      have hcur : ∀ p, p < (l1.length + l2.length) * k.es → cur[p]? = (xs ++ (C2.toList.drop off).take (l2.length * k.es))[p]? := fun p hp => by
        rw [← htk, List.getElem?_take_of_lt hp]; simp
      have hq' : q < l1.length + l2.length := by simpa using hq
      have hin : ∀ j, j < k.es → q * k.es + j < (l1.length + l2.length) * k.es := fun j hj => by
        have : (q + 1) * k.es ≤ (l1.length + l2.length) * k.es := Nat.mul_le_mul_right _ hq'
        rw [Nat.add_mul] at this; omega
      by_cases hq1 : q < l1.length
      · obtain ⟨cs, a1, a2, a3⟩ := hxo q hq1
        refine ⟨cs, a1, by simpa [List.getElem_append_left hq1] using a2, fun j hj => ?_⟩
        have hlt : q * k.es + j < xs.length := by
          have : (q + 1) * k.es ≤ l1.length * k.es := Nat.mul_le_mul_right _ hq1
          rw [Nat.add_mul] at this; omega
        rw [hcur _ (hin j hj), List.getElem?_append_left hlt]
        exact a3 j hj
      · obtain ⟨cs, a1, a2, a3⟩ := h6 (q - l1.length) (by omega)
        refine ⟨cs, a1, by rw [List.getElem_append_right (by omega)]; exact a2, fun j hj => ?_⟩
        have hge : xs.length ≤ q * k.es + j := by
          have : l1.length * k.es ≤ q * k.es := Nat.mul_le_mul_right _ (by omega)
          omega
        have hsub : q * k.es + j - xs.length = (q - l1.length) * k.es + j := by
          rw [Nat.sub_mul]
          have : l1.length * k.es ≤ q * k.es := Nat.mul_le_mul_right _ (by omega)
          omega
        have hlt2 : (q - l1.length) * k.es + j < l2.length * k.es := by
          have : (q - l1.length + 1) * k.es ≤ l2.length * k.es := Nat.mul_le_mul_right _ (by omega)
          rw [Nat.add_mul] at this; omega
        rw [hcur _ (hin j hj), List.getElem?_append_right hge, hsub, hng _ hlt2, ← a3 j hj, Nat.add_assoc]

theorem MM.upd_append (m : MM) : ∀ (a b : Ws), m.upd (a ++ b) = (m.upd a).upd b := by
  intro a
  induction a generalizing m with
  | nil => intro b; rfl
  | cons x a ih => intro b; exact ih _ b

/-- A slice that has been appended to is entry nid. -/
theorem adopt_sl (hm : Mem w0 F0 U m F G w) {nid : Nat} (hnid : ¬ U nid) {k : K} {e : TypeId} {l : List k.T} {v v' : Value} {w' : World} (h : OwnSl w0.heap.size F k e l v' w') (hg : w.grownBy w' v.ownBlock) (hn : v' = .slice none 0 0 → w' = w)
    (hat : v'.ownBlock = v.ownBlock ∨ v'.ownBlock = some w.heap.size) (hF : ∀ g, v.ownBlock = some g → F g = none ∧ w0.heap.size ≤ g ∧ g < w.heap.size ∧ F0.k g = none) (hfree : ∀ g i e c, v.ownBlock = some g → m i = some e → G i = some (some (g, c)) → False) :
    ∃ G', G.le G' ∧ RV F G' (.row nid) v' ∧ Mem w0 F0 (fun i => U i ∨ i = nid) (m.set nid (some (.row e k l false))) F G' w' := by
  rcases h with ⟨rfl, rfl⟩ | ⟨g, c, C, rfl, h1, h2, h3, h4, h5, h6⟩
  · obtain rfl := hn rfl
    exact ⟨_, Gm.le_set (hm.fresh _ hnid), .inl ⟨G.set_same _ _, rfl⟩, hm.adoptNil hnid e k⟩
  · have hb : Below w0.heap.size w0 w' := hm.below.grown hg hm.below.size (fun k hk => (hF k hk).2.1)
    have hgF : F g = none := by
      rcases hat with hat | hat
      · exact (hF g (by rw [← hat]; rfl)).1
      · have : g = w.heap.size := by simpa [Value.ownBlock] using hat
        cases hFg : F g with
        | none => rfl
        | some o => exact absurd (hm.lt hFg) (by omega)
    have hkg : F0.k g = none := by
      rcases hat with hat | hat
      · exact (hF g (by rw [← hat]; rfl)).2.2.2
      · have : g = w.heap.size := by simpa [Value.ownBlock] using hat
        exact hm.knew (by omega)
    have hfr : ∀ i e c, m i = some e → G i = some (some (g, c)) → False := fun i e c hi hG => by
      rcases hat with hat | hat
      · exact hfree g i e c (by rw [← hat]; rfl) hi hG
      · have : g = w.heap.size := by simpa [Value.ownBlock] using hat
        have := ((hm.own i e hi).lt hG).2
        omega
    have hold : ∀ b, b ≠ g → b < w.heap.size → ((∃ o, F b = some o) ∨ (∃ o, F0.k b = some o) ∨ ∃ i e c, m i = some e ∧ G i = some (some (b, c))) → w'.heap[b]? = w.heap[b]? := fun b hbg hlt hown => by
      refine hg.block b hlt ?_
      intro e1
      rcases hown with ⟨o, ho⟩ | ⟨o, ho⟩ | ⟨i, e, c, hi, hG⟩
      · rw [(hF b e1.symm).1] at ho; cases ho
      · rw [(hF b e1.symm).2.2.2] at ho; cases ho
      · exact hfree b i e c e1.symm hi hG
    exact ⟨_, Gm.le_set (hm.fresh _ hnid), .inr ⟨g, (c, l.length), G.set_same _ _, rfl⟩, hm.adopt hnid (c, l.length) _ hb hgF hold hkg hfr (.inr ⟨g, (c, l.length), C, G.set_same _ _, h1, by simpa using hgF, h2, rfl, h3, h4, h5, h6⟩)⟩
theorem append_run (ok : TIOk P ti) (hm : Mem w0 F0 U m F G w) {nid : Nat} (hnid : ¬ U nid) {t : TypeId} {s x : AV} {p : Prop} {r : AV} {ws : Ws} (h : appEff ti m nid t s x = some (p, r, ws)) (hp : p) {vs vx : Value} (hs : RV F G s vs) (hx : RV F G x vx) (ty : TypeId) :
    ∃ v w', (Builtin.append_ #[t, t] ty #[vs, vx]).run P w = .ok v w' ∧ After w0 F0 U m F G nid r ws v w' := by
  unfold appEff at h
  split at h
  · cases h
  · rename_i e k hk
    split at h
    · cases h
    · rename_i x' ws' hpub
      obtain ⟨F1, hF1, hm1, hx1⟩ := pub_ok hpub hm hx
      have hx2 := nilAV_ok (ti := ti) (t := t) hx1
      split at h
      · rename_i k' l2' hnil
        rw [hnil] at hx2
        split at h
        · cases h
        · rename_i l2 hcast
          unfold castL at hcast
          split at hcast
          · rename_i ek
            subst ek
            simp only [Option.some.injEq] at hcast
            subst hcast
            split at h
            · -- nil
              simp only [Option.some.injEq, Prod.mk.injEq] at h
              obtain ⟨rfl, rfl, rfl⟩ := h
              obtain ⟨rfl, _⟩ := RV_v hs
              obtain ⟨v', w', h1, h2, h3, h4, h5⟩ := append_core (l1 := []) ok hk hm1.below.size hm1.fit (.inl ⟨rfl, rfl⟩) hx2 (by simpa using hp) ty
              obtain ⟨G', h6, h7, h8⟩ := adopt_sl hm1 hnid h2 h3 (fun e => (h4 e).1) h5 (fun g hg => by cases hg) (fun g i e c hg => by cases hg)
              exact ⟨v', w', h1, F1, G', hF1, h6, h7, by rw [MM.upd_append]; exact h8⟩
            · rename_i id
              split at h
              · rename_i T k1 l1' h0
                split at h
                · cases h
                · rename_i l1 hcast1
                  unfold castL at hcast1
                  split at hcast1
                  · rename_i ek1
                    subst ek1
                    simp only [Option.some.injEq] at hcast1
                    subst hcast1
                    split at h
                    · rename_i eT
                      subst eT
                      simp only [Option.some.injEq, Prod.mk.injEq] at h
                      obtain ⟨rfl, rfl, rfl⟩ := h
                      have hs1 := hs.mono hF1 (Gm.le.refl G)
                      have hsl : OwnSl w0.heap.size F1 k1 T l1' vs w ∧ (∀ g, vs.ownBlock = some g → F1 g = none ∧ w0.heap.size ≤ g ∧ g < w.heap.size ∧ ∃ c, G id = some (some (g, c))) := by
                        rcases hm1.own id _ h0 with ⟨a1, a2⟩ | ⟨g, c, C, a1, a2, a3, a4, hq, a5, a6, a7, a9⟩
                        · rcases hs1 with ⟨_, rfl⟩ | ⟨g, c, e1, _⟩
                          · exact ⟨.inl ⟨rfl, a2⟩, fun g hg => by cases hg⟩
                          · rw [a1] at e1; cases e1
                        · rcases hs1 with ⟨e1, _⟩ | ⟨g', c', e1, rfl⟩
                          · rw [a1] at e1; cases e1
                          · have e2 := a1.symm.trans e1
                            simp only [Option.some.injEq, Prod.mk.injEq] at e2
                            obtain ⟨rfl, rfl⟩ := e2
                            refine ⟨.inr ⟨g, c.1, C, by rw [hq], a2, a4, a5, a6, a7, a9⟩, fun g2 hg2 => ?_⟩
                            have : g = g2 := by simpa [Value.ownBlock] using hg2
                            subst this
                            exact ⟨by simpa using a3, a2, (Array.getElem?_eq_some_iff.1 a4).1, c, a1⟩
                      obtain ⟨v', w', h1, h2, h3, h4, h5⟩ := append_core ok hk hm1.below.size hm1.fit hsl.1 hx2 hp ty
                      have hm2 := hm1.drop id
                      obtain ⟨G', h6, h7, h8⟩ := adopt_sl hm2 hnid h2 h3 (fun e => (h4 e).1) h5 (fun g hg => ⟨(hsl.2 g hg).1, (hsl.2 g hg).2.1, (hsl.2 g hg).2.2.1, (hsl.2 g hg).2.2.2.elim fun c hc => hm1.kown id _ g c h0 hc⟩) (fun g i e c hg hi hG => by
                        simp only [MM.set] at hi
                        split at hi
                        · cases hi
                        · rename_i hne
                          obtain ⟨_, _, _, c2, hG2⟩ := hsl.2 g hg
                          exact hne (hm1.inj i id _ _ g c c2 hi h0 hG hG2))
                      exact ⟨v', w', h1, F1, G', hF1, h6, h7, by rw [MM.upd_append]; exact h8⟩
                    · cases h
                  · cases hcast1
              · cases h
            · cases h
          · cases hcast
      · cases h
end
end Go.AE

/- All operations together. -/
namespace Go.AE
open Go.RowKit
set_option linter.unusedVariables false

section
variable {P : Program} {ti : TI} {w0 : World} {F0 : Bs} {U : Nat → Prop} {m : MM} {F : Fz} {G : Gm} {w : World}

theorem RT.nth {t : AV} : ∀ {i : Nat} {a : AV} {vs : List Value}, t.nth i = some a → RT F t vs → ∃ v, vs[i]? = some v ∧ RVp F a v := by
  induction t with
  | tc x y ihx ihy =>
    rintro i a vs h ⟨v, r, rfl, h1, h2⟩
    cases i with
    | zero => simp only [AV.nth, Option.some.injEq] at h; subst h; exact ⟨v, rfl, h1⟩
    | succ i => simp only [AV.nth] at h; obtain ⟨u, h3, h4⟩ := ihy h h2; exact ⟨u, by simpa using h3, h4⟩
  | _ => intro i a vs h; cases h

theorem intOp_ok {ev : Operand → AV} {eval : Operand → Value} (hev : ∀ x, RV F G (ev x) (eval x)) {o : Option Operand} {d n : Int} (h : intOp o ev d = some n) : (o.map eval = none ∧ n = d) ∨ ∃ q, o.map eval = some (.int q n) := by
  cases o with
  | none => simp only [intOp, Option.some.injEq] at h; exact .inl ⟨rfl, h.symm⟩
  | some x =>
    simp only [intOp] at h
    split at h
    · rename_i q n' hx
      simp only [Option.some.injEq] at h
      subst h
      have := hev x
      rw [hx] at this
      exact .inr ⟨q, by rw [← (RV_v this).1]; rfl⟩
    · cases h

theorem parts_ok {ev : Operand → AV} {eval : Operand → Value} (hev : ∀ x, RV F G (ev x) (eval x)) (parts : List (Nat × Operand)) :
    ∃ hl : (parts.map fun p => ev p.2).length = (parts.map fun p => eval p.2).length, ∀ i (h : i < (parts.map fun p => ev p.2).length), RV F G (parts.map fun p => ev p.2)[i] ((parts.map fun p => eval p.2)[i]'(hl ▸ h)) :=
  ⟨by simp, fun i h => by simpa using hev _⟩
theorem args_ok {ev : Operand → AV} {eval : Operand → Value} (hev : ∀ x, RV F G (ev x) (eval x)) (l : List Operand) :
    ∃ hl : (l.map ev).length = (l.map eval).length, ∀ i (h : i < (l.map ev).length), RV F G (l.map ev)[i] ((l.map eval)[i]'(hl ▸ h)) :=
  ⟨by simp, fun i h => by simpa using hev _⟩
theorem pubs_len {ti : TI} : ∀ {l : List AV} {ts : List TypeId} {m : MM} {l' : List AV} {ws : Ws}, pubs ti m ts l = some (l', ws) → l'.length = l.length := by
  intro l
  induction l with
  | nil => intro ts m l' ws h; simp only [pubs, Option.some.injEq, Prod.mk.injEq] at h; rw [← h.1]
  | cons a r ih =>
    intro ts m l' ws h
    simp only [pubs] at h
    split at h
    · split at h
      · rename_i h2
        simp only [Option.some.injEq, Prod.mk.injEq] at h
        rw [← h.1]; simp [ih h2]
      · cases h
    · cases h

/-- What is handed on, and the entry behind it. -/
theorem After.more {m' : MM} {F' : Fz} (hF : F.le F') {ws ws' : Ws} (hm' : m' = m.upd ws) {nid : Nat} {r : AV} {v : Value} {w' : World} (h : After w0 F0 U m' F' G nid r ws' v w') : After w0 F0 U m F G nid r (ws ++ ws') v w' := by
  obtain ⟨F2, G2, h1, h2, h3, h4⟩ := h
  subst hm'
  exact ⟨F2, G2, hF.trans h1, h2, h3, by rw [MM.upd_append]; exact h4⟩
theorem RV_of_RVp' {a : AV} {v : Value} (h : RVp F a v) : RV F G a v := by
  cases a <;> first
    | exact h
    | trivial
    | exact False.elim (by unfold RVp at h; simpa [AV.agg, RC] using h)

theorem callc_run (hm : Mem w0 F0 U m F G w) {g : Nat} {mk : Nat → Nat → List Value} {T1 T2 : TypeId} {cc : Cct} (hsx : SoundX P g mk T1 T2 cc) {as : List AV} {ts : List TypeId} {i j : Nat} {p : Prop} {r : AV} {ws : Ws} (h : cloEff ti m T1 T2 cc i j ts as = some (p, r, ws)) (hp : p)
    {args : List Value} (hargs : ∃ hl : as.length = args.length, ∀ i (h : i < as.length), RV F G as[i] (args[i]'(hl ▸ h)))
    {nid : Nat} {x y : Nat} {cx cy : Nat × Nat} (hGi : G i = some (some (x, cx))) (hGj : G j = some (some (y, cy))) {o : Oper} {a : Act} (hrun : (execOp a.eval o).run P w = .ok (.enter g (List.toArray (args ++ mk x y))) w) :
    OpGoal P o a w (After w0 F0 U m F G nid r ws) := by
  unfold cloEff at h
  split at h
  · rename_i as' ws' hps
    split at h
    · rename_i S1 b1 hi
      split at h
      · rename_i S2 b2 hj
        split at h
        · rename_i hS
          obtain ⟨rfl, rfl, hij⟩ := hS
          split at h
          · rename_i p' r' c2 hcc
            simp only [Option.some.injEq, Prod.mk.injEq] at h
            obtain ⟨rfl, rfl, rfl⟩ := h
            intro next Q hn
            obtain ⟨F1, hF1, hm1, hvs⟩ := pubs_ok hps hm hargs
            obtain ⟨_, hs⟩ := hsx
            obtain ⟨g1, l1, a1, a2, a3, a4, a5⟩ := hm1.own i _ hi
            rw [hGi] at a1; cases a1
            obtain ⟨g2, l2, d1, d2, d3, d4, d5⟩ := hm1.own j _ hj
            rw [hGj] at d1; cases d1
            have hne : x ≠ y := fun e => hij (hm1.inj i j _ _ x (0, 0) (0, 0) hi hj hGi (e ▸ hGj))
            have hc := hs as' b1 b2 p' r' c2 hcc hp w F1 args x y l1 l2 hm1.fit hvs a3 d3 hne a4 a5 d4 d5
            unfold Oper.wp
            rw [hrun]
            refine Calls.mono hc ?_
            rintro e w' ⟨F', v, l1', l2', h1, h2, h3, h4, h5, rfl, h6, h7, h8, h9, h10⟩
            have hlt1 := (hm1.own i _ hi).lt hGi
            have hlt2 := (hm1.own j _ hj).lt hGj
            refine hn v w' ⟨F', G, hF1.trans h1, Gm.le.refl G, h6.mono (Fz.le.refl _) (fun _ _ e => by cases e), ?_⟩
            rw [MM.upd_append]
            exact (hm1.calledX hi hj hGi hGj h1 h2 h3 h4 h5 (ei' := .box S1 b1) (ej' := .box S2 c2) ⟨x, l1', hGi, a2, (h2 x hlt1.2).trans a3, h7, h8⟩ ⟨y, l2', hGj, d2, (h2 y hlt2.2).trans d3, h9, h10⟩).wider fun _ h => .inl h
          · cases h
        · cases h
      · cases h
    · cases h
  · cases h
theorem call_ok {env : Env} (ok : TIOk P ti) (henv : EnvOk P env) (hm : Mem w0 F0 U m F G w) {ev : Operand → AV} {a : Act} (hev : ∀ x, RV F G (ev x) (a.eval x)) {nid : Nat} (hn : ¬ U nid) {o : Oper} {c : Call} (hop : o.op = .call c) {p : Prop} {r : AV} {ws : Ws}
    (h : callEff ti env ev m nid c = some (p, r, ws)) (hp : p) : OpGoal P o a w (After w0 F0 U m F G nid r ws) := by
  obtain ⟨callee, args, argTypes⟩ := c
  unfold callEff at h
  split at h
  · -- len
    rename_i hc
    dsimp only at hc; subst hc
    split at h
    · rename_i x t ha ht
      split at h
      · rename_i hek
        obtain ⟨⟨e, k⟩, hk⟩ := Option.isSome_iff_exists.1 hek
        obtain ⟨hu, _⟩ := ok.ek t e k hk
        have hrun : ∀ A n cc, a.eval x = .slice A n cc → (execOp a.eval o).run P w = .ok (.value (.int .i64 n)) w := by
          intro A n cc hx
          have e1 : args = #[x] := by apply Array.ext'; simpa using ha
          have e2 : argTypes = #[t] := by apply Array.ext'; simpa using ht
          subst e1 e2
          simp [execOp, hop, resolve, invoke, builtin, Builtin.len_, run_underlying hu, hx, goInt]
        have hx := hev x
        split at h
        · rename_i k' l hx'
          rw [hx'] at hx
          simp only [Option.some.injEq, Prod.mk.injEq] at h
          obtain ⟨rfl, rfl, rfl⟩ := h
          obtain ⟨v, e1, A, cc, e2, _⟩ := (show RC F (.lst k' l) [a.eval x] from hx)
          simp only [List.cons.injEq, and_true] at e1
          rw [e2] at e1
          exact OpGoal.of_run (hrun _ _ _ e1) (After.same hm ⟨rfl, rfl⟩)
        · rename_i id hx'
          rw [hx'] at hx
          split at h
          · rename_i T k' l fz h0
            simp only [Option.some.injEq, Prod.mk.injEq] at h
            obtain ⟨rfl, rfl, rfl⟩ := h
            rcases hm.own id _ h0 with ⟨a1, a2⟩ | ⟨g, c, C, a1, a2, a3, a4, hq, a5, a6, a7, a9⟩
            · rcases hx with ⟨_, e1⟩ | ⟨g, c, e1, _⟩
              · subst a2; exact OpGoal.of_run (hrun _ _ _ e1) (After.same hm ⟨rfl, rfl⟩)
              · rw [a1] at e1; cases e1
            · rcases hx with ⟨e1, _⟩ | ⟨g', c', e1, e3⟩
              · rw [a1] at e1; cases e1
              · have e2 := a1.symm.trans e1
                simp only [Option.some.injEq, Prod.mk.injEq] at e2
                obtain ⟨rfl, rfl⟩ := e2
                rw [hq] at e3
                exact OpGoal.of_run (hrun _ _ _ e3) (After.same hm ⟨rfl, rfl⟩)
          · cases h
        · rename_i hx'
          rw [hx'] at hx
          simp only [Option.some.injEq, Prod.mk.injEq] at h
          obtain ⟨rfl, rfl, rfl⟩ := h
          exact OpGoal.of_run (hrun _ _ _ (RV_v hx).1) (After.same hm ⟨rfl, rfl⟩)
        · cases h
      · cases h
    · cases h
  · -- max
    rename_i hc
    dsimp only at hc; subst hc
    split at h
    · rename_i x y ha
      split at h
      · rename_i k a' k' b' hx hy
        simp only [Option.some.injEq, Prod.mk.injEq] at h
        obtain ⟨rfl, rfl, rfl⟩ := h
        have h1 := hev x; rw [hx] at h1
        have h2 := hev y; rw [hy] at h2
        have e1 : args = #[x, y] := by apply Array.ext'; simpa using ha
        subst e1
        exact OpGoal.of_run (by simp [execOp, hop, resolve, invoke, builtin, Builtin.max_, Builtin.max2, (RV_v h1).1, (RV_v h2).1]) (After.same hm ⟨rfl, rfl⟩)
      · cases h
    · cases h
  · -- min
    rename_i hc
    dsimp only at hc; subst hc
    split at h
    · rename_i x y ha
      split at h
      · rename_i k a' k' b' hx hy
        simp only [Option.some.injEq, Prod.mk.injEq] at h
        obtain ⟨rfl, rfl, rfl⟩ := h
        have h1 := hev x; rw [hx] at h1
        have h2 := hev y; rw [hy] at h2
        have e1 : args = #[x, y] := by apply Array.ext'; simpa using ha
        subst e1
        exact OpGoal.of_run (by simp [execOp, hop, resolve, invoke, builtin, Builtin.min_, Builtin.min2, (RV_v h1).1, (RV_v h2).1]) (After.same hm ⟨rfl, rfl⟩)
      · cases h
    · cases h
  · -- append
    rename_i hc
    dsimp only at hc; subst hc
    split at h
    · rename_i s x t t' ha ht
      split at h
      · rename_i et
        subst et
        have e1 : args = #[s, x] := by apply Array.ext'; simpa using ha
        have e2 : argTypes = #[t', t'] := by apply Array.ext'; simpa using ht
        subst e1 e2
        obtain ⟨v, w', h1, h2⟩ := append_run ok hm hn h hp (hev s) (hev x) o.type
        exact OpGoal.of_run (by simp [execOp, hop, resolve, invoke, builtin, h1]) h2
      · cases h
    · cases h
  · -- a function
    rename_i f hc
    dsimp only at hc; subst hc
    split at h
    · rename_i q g i j hf
      have hf := cloOf_eq hf
      split at h
      · rename_i T1 T2 cc hclo
        have h1 := hev f; rw [hf] at h1
        obtain ⟨x, y, _, _, hv, hGi, hGj⟩ := h1
        have hsx := ok.clo g _ _ cc hclo
        refine callc_run (args := args.toList.map a.eval) hm hsx h hp (args_ok hev args.toList) (nid := nid) hGi hGj ?_
        obtain ⟨⟨fn, c0, e1, e2, e3⟩, _⟩ := hsx
        have e4 : fn.name ≠ "runtime.NumGoroutine" := by simpa using e2
        have h4 : List.toArray (List.map a.eval args.toList ++ ptr2 x y) = Array.map a.eval args ++ #[.pointer (some ⟨x, 0, none⟩), .pointer (some ⟨y, 0, none⟩)] := by apply Array.ext'; simp [ptr2]
        rw [h4]
        simp [execOp, hop, resolve, hv, Deferred.ofValue, invoke, callFunc, e1, e4, e3]
      · cases h
    · split at h
      · rename_i g hf
        replace hf := funOf_eq hf
        split at h
        · rename_i ct hg
          split at h
          · rename_i as ws' hps
            split at h
            · rename_i p' r' hct
              simp only [Option.some.injEq, Prod.mk.injEq] at h
              obtain ⟨rfl, h⟩ := h
              obtain ⟨rfl, rfl⟩ := (Prod.mk.injEq .. ▸ h : (frE nid ws' r').1 = r ∧ (frE nid ws' r').2 = ws)
              have h1 := hev f; rw [hf] at h1
              have h2 := (RV_v h1).1
              refine call_run henv hm hg hps hct hp (args := args.toList.map a.eval) (args_ok hev args.toList) (nid := nid) hn ?_
              have h3 := call_enter (w := w) henv hg (args.toList.map a.eval).toArray
              have h4 : (List.map a.eval args.toList).toArray = Array.map a.eval args := by apply Array.ext'; simp
              rw [h4] at h3 ⊢
              simp [execOp, hop, resolve, h2, Deferred.ofValue, invoke, h3]
            · cases h
          · cases h
        · rename_i hgn
          split at h
          · rename_i g' T1 T2 cc hhof
            split at h
            · rename_i x hx
              split at h
              · rename_i g2 i j hxe
                split at h
                · rename_i hg2
                  subst hg2
                  have h1 := hev f; rw [hf] at h1
                  have h2 := (RV_v h1).1
                  have h3 := hev x; rw [hxe] at h3
                  obtain ⟨b, c, _, _, hv, hGi, hGj⟩ := h3
                  have hsx := ok.hof g _ _ _ cc hhof
                  refine callc_run (args := args.toList.dropLast.map a.eval) hm hsx h hp (args_ok hev _) (nid := nid) hGi hGj ?_
                  obtain ⟨⟨fn, c0, e1, e2, e3⟩, _⟩ := hsx
                  have e4 : fn.name ≠ "runtime.NumGoroutine" := by simpa using e2
                  have h4 : List.toArray (args.toList.dropLast.map a.eval ++ clo2 g2 b c) = Array.map a.eval args := by
                    apply Array.ext'
                    have h5 : args.toList = args.toList.dropLast ++ [x] := by
                      obtain ⟨h6, h7⟩ := List.getLast?_eq_some_iff.1 hx
                      rw [h7]; simp
                    rw [Array.toList_map, h5]
                    simp [clo2, hv]
                  rw [h4]
                  simp [execOp, hop, resolve, h2, Deferred.ofValue, invoke, callFunc, e1, e4, e3]
                · cases h
              · cases h
            · cases h
          · cases h
      · cases h
  · cases h
theorem build_slice_run {t e : TypeId} {k : K} {i : TypeInfo} {z : Value} (hu : P.underlying t = some (.slice e)) (hi : P.info? e = some i) (hz : i.zero = some z) (hs : i.size = k.es) {n : Nat} (hsz : n * k.es ≤ 16777216) {parts : Array (Nat × Value)} {C' : Array Value}
    (h1 : Instr.fill (fun i => some (i * k.es, k.es)) (madeCells z.cells (n * k.es)) parts.toList = some C') : (Instr.buildSlice t n parts).run P w = .ok (.slice (some ⟨w.heap.size, 0, none⟩) n n) (w.alloc (.cells C' e)) := by
  have hsz' : ¬ 16777216 < n * k.es := by omega
  by_cases h0 : n * k.es = 0
  · have hm0 : madeCells z.cells (n * k.es) = #[] := by rw [h0]; simp [madeCells]
    rw [hm0] at h1
    have hm1 : ∀ d : Value, (Array.map (fun (_ : Nat) => d) (Array.range 0)) = #[] := fun d => by simp
    simp [Instr.buildSlice, run_underlying hu, sizeOf, typeInfo, hi, hs, newRow, h0, hm1, h1]
  · have hnz : (Array.map (fun x => z.cells[x % z.cells.size]!) (Array.range (n * k.es))) = madeCells z.cells (n * k.es) := rfl
    simp [Instr.buildSlice, run_underlying hu, sizeOf, typeInfo, hi, hs, newRow, hsz', zeroValue, hz, h0, hnz, h1]

theorem op_ok {env : Env} (ok : TIOk P ti) (henv : EnvOk P env) (hm : Mem w0 F0 U m F G w) {ev : Operand → AV} {a : Act} (hev : ∀ x, RV F G (ev x) (a.eval x)) {nid : Nat} (hn : ¬ U nid) {o : Oper} {p : Prop} {r : AV} {ws : Ws}
    (h : opEff ti env ev m nid o.op = some (p, r, ws)) (hp : p) : OpGoal P o a w (After w0 F0 U m F G nid r ws) := by
  cases hop : o.op with
  | move x =>
    rw [hop] at h
    simp only [opEff, Option.some.injEq, Prod.mk.injEq] at h
    obtain ⟨rfl, rfl, rfl⟩ := h
    exact OpGoal.of_run (by simp [execOp, hop]) (After.same hm (hev x))
  | assign x =>
    rw [hop] at h
    simp only [opEff, Option.some.injEq, Prod.mk.injEq] at h
    obtain ⟨rfl, rfl, rfl⟩ := h
    exact OpGoal.of_run (by simp [execOp, hop]) (After.same hm (hev x))
  | pick c x y =>
    rw [hop] at h
    simp only [opEff] at h
    have hc := hev c
    split at h
    · rename_i hx
      rw [hx] at hc
      simp only [Option.some.injEq, Prod.mk.injEq] at h
      obtain ⟨rfl, rfl, rfl⟩ := h
      exact OpGoal.of_run (by simp [execOp, hop, (RV_v hc).1, asBool]) (After.same hm (hev x))
    · rename_i hx
      rw [hx] at hc
      simp only [Option.some.injEq, Prod.mk.injEq] at h
      obtain ⟨rfl, rfl, rfl⟩ := h
      exact OpGoal.of_run (by simp [execOp, hop, (RV_v hc).1, asBool]) (After.same hm (hev y))
    · cases h
  | alloc t =>
    rw [hop] at h
    simp only [opEff] at h
    split at h
    · rename_i z hz
      simp only [Option.some.injEq, Prod.mk.injEq] at h
      obtain ⟨rfl, rfl, rfl⟩ := h
      obtain ⟨zv, h1, h2⟩ := ok.zero t z hz
      obtain ⟨i, hi, hiz⟩ := Option.map_eq_some_iff.1 h1
      exact OpGoal.of_run (by simp [execOp, hop, Instr.alloc, zeroValue, typeInfo, hi, hiz, newVar, newRow]) (alloc_new hm hn (h2 F))
    · cases h
  | box t x =>
    rw [hop] at h
    simp only [opEff] at h
    split at h
    · rename_i b ws' n bb hpub hsz
      split at h
      · simp only [Option.some.injEq, Prod.mk.injEq] at h
        obtain ⟨rfl, rfl, rfl⟩ := h
        obtain ⟨F1, hF1, hm1, hx1⟩ := pub_ok hpub hm (hev x)
        exact OpGoal.of_run (by simp [execOp, hop, Instr.box, newVar, newRow]) (After.more hF1 rfl (alloc_new (C := (a.eval x).cells) hm1 hn hx1.cells.1))
      · cases h
    · cases h
  | build t parts =>
    rw [hop] at h
    simp only [opEff] at h
    split at h
    · rename_i z as ws' hz hps
      split at h
      · rename_i z' hfold
        split at h
        rotate_left
        · cases h
        rename_i hagg
        simp only [Option.some.injEq, Prod.mk.injEq] at h
        obtain ⟨rfl, rfl, rfl⟩ := h
        obtain ⟨zv, fs, places, h1, h2, h3, h4, h5, h6⟩ := ok.zeroB t z hz
        obtain ⟨i, hi, hiz⟩ := Option.map_eq_some_iff.1 h1
        obtain ⟨F1, hF1, hm1, hvs⟩ := pubs_ok hps hm (parts_ok hev parts.toList)
        obtain ⟨C', h7, h8⟩ := foldB_ok (place := (places.toArray[·]?)) (C := zv.cells) (fun j off n hf => by simpa using h6 j off n hf) hfold (h2 F1) hvs (by rw [pubs_len hps]; simp)
        have hb : P.built t (Array.map (fun p => (p.1, a.eval p.2)) parts).toList = some C' := by
          unfold Program.built
          have hzip : (parts.toList.map (·.1)).zip (parts.toList.map fun p => a.eval p.2) = (Array.map (fun p => (p.1, a.eval p.2)) parts).toList := by
            rw [List.zip_map']; simp
          rw [hzip] at h7
          simp [hi, h4, hiz, h5]
          simpa using h7
        exact OpGoal.of_run (v := .agg C') (by simp [execOp, hop, run_build w t _ C' hb]) ⟨F1, G, hF1, Gm.le.refl G, RV_of_RVp' (RVp.mk h8 (fun _ => rfl) (fun e => by rw [hagg] at e; cases e)), hm1.wider fun _ h => .inl h⟩
      · cases h
    · cases h
  | call c => rw [hop] at h; exact call_ok ok henv hm hev hn hop h hp
  | makeFunc fn first cap =>
    rw [hop] at h
    simp only [opEff] at h
    unfold mkfEff at h
    split at h
    · rename_i g
      split at h
      · rename_i e1
        split at h
        · rename_i x y e2
          split at h
          · rename_i i hx
            split at h
            · rename_i j hy
              simp only [Option.some.injEq, Prod.mk.injEq] at h
              obtain ⟨rfl, rfl, rfl⟩ := h
              have h1 := hev x; rw [ptrOf_eq hx] at h1
              have h2 := hev y; rw [ptrOf_eq hy] at h2
              obtain ⟨b, c, hG1, e3⟩ := h1
              obtain ⟨b', c', hG2, e4⟩ := h2
              have e5 : first = #[] := by apply Array.ext'; simpa using e1
              have e6 : cap = #[x, y] := by apply Array.ext'; simpa using e2
              subst e5 e6
              exact OpGoal.of_run (v := .func (.func g) #[] #[a.eval x, a.eval y]) (by simp [execOp, hop, Instr.makeFunc]) (After.same hm ⟨b, b', c, c', by rw [e3, e4], hG1, hG2⟩)
            · cases h
          · cases h
        · cases h
      · cases h
    · cases h
  | load t x =>
    rw [hop] at h
    simp only [opEff] at h
    split at h
    · rename_i n b hsz
      have hx := hev x
      split at h
      · rename_i id off hx'
        rw [hx'] at hx
        split at h
        · rename_i T ax h0
          split at h
          · rename_i y hpart
            split at h
            · rename_i hb
              simp only [Option.some.injEq, Prod.mk.injEq] at h
              obtain ⟨rfl, rfl, rfl⟩ := h
              obtain ⟨v, h1, h2⟩ := box_load ok hsz hm h0 hpart hb hx
              exact OpGoal.of_run (by simp [execOp, hop, h1]) (After.same hm (RV_of_RVp' h2))
            · cases h
          · cases h
        · cases h
      · rename_i id es i off hx'
        rw [hx'] at hx
        split at h
        · rename_i T k l fz h0
          split at h
          · rename_i hes
            subst hes
            split at h
            · rename_i y hpart
              split at h
              · rename_i hb
                simp only [Option.some.injEq, Prod.mk.injEq] at h
                obtain ⟨rfl, rfl, rfl⟩ := h
                obtain ⟨v, h1, h2⟩ := ep_load ok hsz hm h0 hp hpart hb hx
                exact OpGoal.of_run (by simp [execOp, hop, h1]) (After.same hm (RV_of_RVp' h2))
              · cases h
            · cases h
          · cases h
        · cases h
      · rename_i b' hx'
        rw [hx'] at hx
        split at h
        · rename_i y hpart
          split at h
          · rename_i hb
            simp only [Option.some.injEq, Prod.mk.injEq] at h
            obtain ⟨rfl, rfl, rfl⟩ := h
            obtain ⟨v, h1, h2⟩ := rp_load ok hsz hm hpart hb hx
            exact OpGoal.of_run (by simp [execOp, hop, h1]) (After.same hm (RV_of_RVp' h2))
          · cases h
        · cases h
      · cases h
    · cases h
  | store t x y =>
    rw [hop] at h
    simp only [opEff] at h
    split at h
    · rename_i n b y' ws' hsz hpub
      split at h
      · rename_i hn'
        obtain ⟨F1, hF1, hm1, hy⟩ := pub_ok hpub hm (hev y)
        have hx := (hev x).mono hF1 (Gm.le.refl G)
        split at h
        · rename_i id off hx'
          rw [hx'] at hx
          split at h
          · rename_i T ax h0
            split at h
            · rename_i a' hset
              simp only [Option.some.injEq, Prod.mk.injEq] at h
              obtain ⟨rfl, rfl, rfl⟩ := h
              obtain ⟨w', h1, h2⟩ := box_store ok hsz hm1 h0 hn' hset hx hy
              exact OpGoal.of_skip (w' := w') (by simp [execOp, hop, h1]) ⟨F1, G, hF1, Gm.le.refl G, rfl, by rw [MM.upd_append]; exact h2.wider fun _ h => .inl h⟩
            · cases h
          · cases h
        · rename_i id es i hx'
          rw [hx'] at hx
          split at h
          · rename_i T k l h0
            split at h
            · rename_i hes
              obtain ⟨hes1, hes2⟩ := hes
              subst hes1 hes2
              split at h
              · rename_i p' y2 hdec
                simp only [Option.some.injEq, Prod.mk.injEq] at h
                obtain ⟨rfl, rfl, rfl⟩ := h
                obtain ⟨w', h1, h2⟩ := ep_store ok hsz hm1 h0 hp.2 hdec hp.1 hx hy
                exact OpGoal.of_skip (w' := w') (by simp [execOp, hop, h1]) ⟨F1, G, hF1, Gm.le.refl G, rfl, by rw [MM.upd_append]; exact h2.wider fun _ h => .inl h⟩
              · cases h
            · cases h
          · cases h
        · cases h
      · cases h
    · cases h
  | extract x i =>
    rw [hop] at h
    simp only [opEff] at h
    have hx := hev x
    split at h
    · rename_i t hx'
      rw [hx'] at hx
      split at h
      · rename_i b hnth
        simp only [Option.some.injEq, Prod.mk.injEq] at h
        obtain ⟨rfl, rfl, rfl⟩ := h
        obtain ⟨vs, e1, h1⟩ := (show ∃ vs, a.eval x = .tuple vs.toArray ∧ RT F t vs from hx)
        obtain ⟨v, h2, h3⟩ := RT.nth hnth h1
        exact OpGoal.of_run (by simp [execOp, hop, Instr.extract, e1, h2]) (After.same hm (RV_of_RVp' h3))
      · cases h
    · cases h
  | fieldAddr s x j =>
    rw [hop] at h
    simp only [opEff] at h
    have hx := hev x
    split at h
    · rename_i off n hf
      split at h
      · rename_i id o' hx'
        rw [hx'] at hx
        simp only [Option.some.injEq, Prod.mk.injEq] at h
        obtain ⟨rfl, rfl, rfl⟩ := h
        obtain ⟨g, c, h1, h2⟩ := hx
        exact OpGoal.of_run (by simp [execOp, hop, h2, field_run ok hf]) (After.same hm ⟨g, c, h1, rfl⟩)
      · rename_i id es i o' hx'
        rw [hx'] at hx
        simp only [Option.some.injEq, Prod.mk.injEq] at h
        obtain ⟨rfl, rfl, rfl⟩ := h
        obtain ⟨g, c, h1, h2⟩ := hx
        exact OpGoal.of_run (v := .pointer (some ⟨g, i * es + o' + off, none⟩)) (by simp [execOp, hop, h2, field_run ok hf]) (After.same hm ⟨g, c, h1, by rw [Nat.add_assoc]⟩)
      · rename_i b hx'
        rw [hx'] at hx
        split at h
        · rename_i y hpart
          simp only [Option.some.injEq, Prod.mk.injEq] at h
          obtain ⟨rfl, rfl, rfl⟩ := h
          obtain ⟨g, o', C, T, fr, cs', h1, h2, h3, h4⟩ := (show RC F (.rp b) [a.eval x] from hx)
          simp only [List.cons.injEq, and_true] at h1
          obtain ⟨pre, post, mid, rfl, e2, e3, e4⟩ := AV.part_ok hpart h3
          refine OpGoal.of_run (v := .pointer (some ⟨g, o' + off, none⟩)) (by simp [execOp, hop, h1, field_run ok hf]) (After.same hm ?_)
          exact (show RC F (.rp y) _ from ⟨g, o' + off, C, T, fr, mid, rfl, h2, e4, fun k hk => by
            rw [Nat.add_assoc, h4 (off + k) (by simp; omega), ← e2]; exact getElem?_mid pre mid post k hk⟩)
        · cases h
      · cases h
    · cases h
  | indexAddr t x i =>
    rw [hop] at h
    simp only [opEff] at h
    have hx := hev x
    have hi := hev i
    split at h
    · rename_i ik n e k' hi' hk
      rw [hi'] at hi
      have e1 := (RV_v hi).1
      split at h
      · rename_i k l hx'
        rw [hx'] at hx
        split at h
        · rename_i ek
          subst ek
          simp only [Option.some.injEq, Prod.mk.injEq] at h
          obtain ⟨rfl, rfl, rfl⟩ := h
          obtain ⟨v, h1, h2⟩ := lst_index (w := w) ok hk hp.1 hp.2 (ik := ik) hx
          exact OpGoal.of_run (by simp [execOp, hop, e1, h1]) (After.same hm h2)
        · cases h
      · rename_i id hx'
        rw [hx'] at hx
        split at h
        · rename_i T k l fz h0
          split at h
          · rename_i ek
            subst ek
            simp only [Option.some.injEq, Prod.mk.injEq] at h
            obtain ⟨rfl, rfl, rfl⟩ := h
            obtain ⟨v, h1, h2⟩ := row_index ok hm hk h0 hp.1 hp.2 (ik := ik) hx
            exact OpGoal.of_run (by simp [execOp, hop, e1, h1]) (After.same hm h2)
          · cases h
        · cases h
      · cases h
    · cases h
  | makeSlice t x y =>
    rw [hop] at h
    simp only [opEff] at h
    have hx := hev x
    have hy := hev y
    split at h
    · rename_i k1 n k2 c e k hx' hy' hk
      rw [hx'] at hx; rw [hy'] at hy
      simp only [Option.some.injEq, Prod.mk.injEq] at h
      obtain ⟨rfl, rfl, rfl⟩ := h
      obtain ⟨v, w', h1, h2⟩ := make_run ok hm hn hk hp.1 hp.2.1 hp.2.2 (k1 := k1) (k2 := k2)
      exact OpGoal.of_run (by simp [execOp, hop, (RV_v hx).1, (RV_v hy).1, h1]) h2
    · cases h
  | slice t x lo hi mx =>
    rw [hop] at h
    cases mx with
    | some _ => cases h
    | none =>
      simp only [opEff] at h
      split at h
      · rename_i k l ws' e k' hpub hk
        split at h
        · rename_i ek
          subst ek
          split at h
          · rename_i n1 n2 hlo hhi
            simp only [Option.some.injEq, Prod.mk.injEq] at h
            obtain ⟨rfl, rfl, rfl⟩ := h
            obtain ⟨F1, hF1, hm1, hx⟩ := pub_ok hpub hm (hev x)
            obtain ⟨v, h1, h2⟩ := slice_run (w := w) ok hk hx (intOp_ok hev hlo) (intOp_ok hev hhi) hp.1 hp.2.1 hp.2.2
            exact OpGoal.of_run (v := v) (by simp [execOp, hop, h1]) ⟨F1, G, hF1, Gm.le.refl G, h2, hm1.wider fun _ h => .inl h⟩
          · cases h
        · cases h
      · cases h
  | buildSlice t n parts =>
    rw [hop] at h
    simp only [opEff] at h
    split at h
    · rename_i e k as ws' hk hps
      split at h
      · rename_i hsz
        split at h
        · rename_i p' l hfold
          simp only [Option.some.injEq, Prod.mk.injEq] at h
          obtain ⟨rfl, rfl, rfl⟩ := h
          obtain ⟨F1, hF1, hm1, hvs⟩ := pubs_ok hps hm (parts_ok hev parts.toList)
          obtain ⟨hu, i, z, hi, hz, hs, hb, hzs, hzk⟩ := ok.ek t e k hk
          have hrow : RowIn F1 k (List.replicate n k.zero) (madeCells z.cells (n * k.es)) := fun j hj => by
            have hj' : j < n := by simpa using hj
            refine ⟨z.cells.toList, by simpa using hzs, by simpa using hzk F1, fun q hq => ?_⟩
            have h5 : j * k.es + q < n * k.es := by
              have : (j + 1) * k.es ≤ n * k.es := Nat.mul_le_mul_right _ hj'
              rw [Nat.add_mul] at this; omega
            have := made_get z.cells (n * k.es) j q (by rw [hzs]; exact hq) (by rw [hzs]; exact h5)
            rw [hzs] at this
            rw [this]; simp
          obtain ⟨C', h1, h2, h3, h4⟩ := foldS_ok (C := madeCells z.cells (n * k.es)) hfold hp hrow (by simp [madeCells]) hvs (by rw [pubs_len hps]; simp)
          have hl : l.length = n := by simpa using h3
          have hC : C'.size = n * k.es := by rw [h4]; simp [madeCells]
          have hzip : (parts.toList.map (·.1)).zip (parts.toList.map fun p => a.eval p.2) = (Array.map (fun p => (p.1, a.eval p.2)) parts).toList := by
            rw [List.zip_map']; simp
          rw [hzip] at h1
          have hn24 : n ≤ 16777216 := Nat.le_trans (Nat.le_mul_of_pos_right _ k.es_pos) hsz
          have hnew := row_new (T := e) (C := C') (c := n) hm1 hn (by omega) hC (by simp only [maxLen]; omega) h2
          rw [hl] at hnew
          refine OpGoal.of_run (v := .slice (some ⟨w.heap.size, 0, none⟩) n n) (w' := w.alloc (.cells C' e)) ?_ (After.more hF1 rfl hnew)
          have := build_slice_run (w := w) hu hi hz hs hsz h1
          simp [execOp, hop, this]
        · cases h
      · cases h
    · cases h
  | binOp op t x y t2 =>
    rw [hop] at h
    simp only [opEff] at h
    split at h
    · rename_i p' r' hbin
      simp only [Option.some.injEq, Prod.mk.injEq] at h
      obtain ⟨rfl, rfl, rfl⟩ := h
      obtain ⟨v, h1, h2⟩ := binA_run (w := w) ok hbin hp (hev x) (hev y) x y
      refine OpGoal.of_run (v := v) (w' := w) ?_ (After.same hm (RV_of_RVp' h2))
      simp only [execOp, hop, Sem.run_bind]
      simp only [Sem.run_bind] at h1
      rw [h1]
      rfl
    · cases h
  | unOp op t x =>
    rw [hop] at h
    simp only [opEff] at h
    have hx := hev x
    split at h
    · rename_i k n hx'
      rw [hx'] at hx
      simp only [Option.some.injEq, Prod.mk.injEq] at h
      obtain ⟨rfl, rfl, rfl⟩ := h
      exact OpGoal.of_run (by simp [execOp, hop, (RV_v hx).1, Op.unary, Op.intArith]) (After.same hm ⟨rfl, rfl⟩)
    · rename_i b hx'
      rw [hx'] at hx
      simp only [Option.some.injEq, Prod.mk.injEq] at h
      obtain ⟨rfl, rfl, rfl⟩ := h
      exact OpGoal.of_run (by simp [execOp, hop, (RV_v hx).1, Op.unary]) (After.same hm ⟨rfl, rfl⟩)
    · cases h
  | convert s d x =>
    rw [hop] at h
    simp only [opEff] at h
    have hx := hev x
    split at h
    · rename_i k1 n k2 k hx' hs hd
      rw [hx'] at hx
      simp only [Option.some.injEq, Prod.mk.injEq] at h
      obtain ⟨rfl, rfl, rfl⟩ := h
      exact OpGoal.of_run (by simp [execOp, hop, (RV_v hx).1, convert, run_underlying (ok.int s _ hs), run_underlying (ok.int d _ hd), Conv.intToInt]) (After.same hm ⟨rfl, rfl⟩)
    · cases h
  | field t x j =>
    rw [hop] at h
    simp only [opEff] at h
    have hx := hev x
    split at h
    · rename_i off n b hf
      split at h
      · rename_i y hpart
        split at h
        · rename_i hab
          simp only [Option.some.injEq, Prod.mk.injEq] at h
          obtain ⟨rfl, rfl, rfl⟩ := h
          obtain ⟨fs, f, d, h1, h2, h3, h4, h5, h6, h8, h7⟩ := ok.f1 t j off n b hf
          have hx2 : RVp F (ev x) (a.eval x) := by
            have ha := hab.1
            cases hv : ev x <;> rw [hv] at ha hx <;> first | exact hx | cases ha
          unfold RVp at hx2
          rw [if_pos hab.1] at hx2
          obtain ⟨cs, hc, hcs⟩ := hx2
          obtain ⟨pre, post, mid, e1, e2, e3, e4⟩ := AV.part_ok hpart hc
          have hagg : (isAgg f.type).run P w = .ok b w := by
            unfold isAgg
            simp only [Sem.run_bind, run_underlying h4, Result.andThen_ok]
            cases d <;> first | (rw [← h5]; rfl)
          have hsz : (sizeOf f.type).run P w = .ok n w := by
            obtain ⟨i, hi⟩ := Option.isSome_iff_exists.1 h8
            rw [← h6]; simp [sizeOf, typeInfo, hi, Program.cellsOf]
          cases hb : b with
          | true =>
            rw [hb] at hagg hab
            have hrun : (Instr.field t (a.eval x) j).run P w = .ok (.agg mid.toArray) w := by
              have : List.take n (List.drop off cs) = mid := by
                subst e1
                rw [← e2, ← e3, List.append_assoc, List.drop_left, List.take_left]
              simp [Instr.field, run_underlying h1, h2, hcs, asAgg, part, hagg, h3, hsz, this]
            exact OpGoal.of_run (by simp [execOp, hop, hrun]) (After.same hm (RV_of_RVp' (RVp.mk e4 (fun _ => rfl) (fun e => by rw [hab.2] at e; cases e))))
          | false =>
            rw [hb] at hagg hab
            have hn := h7 hb
            obtain ⟨u, hu⟩ : ∃ u, mid = [u] := List.length_eq_one_iff.1 (by omega)
            subst hu
            have hrun : (Instr.field t (a.eval x) j).run P w = .ok u w := by
              have : cs[off]? = some u := by
                subst e1
                rw [← e2]
                simp
              simp [Instr.field, run_underlying h1, h2, hcs, asAgg, part, hagg, h3, this]
            exact OpGoal.of_run (by simp [execOp, hop, hrun]) (After.same hm (RV_of_RVp' (RVp.mk e4 (fun e => by rw [hab.2] at e; cases e) (fun _ => rfl))))
        · cases h
      · cases h
    · cases h
  | lookup t x k c =>
    rw [hop] at h
    cases c with
    | true => cases h
    | false =>
      simp only [opEff] at h
      have hx := hev x
      have hk := hev k
      split at h
      · rename_i es ck s hx' hk'
        rw [hx'] at hx
        rw [hk'] at hk
        split at h
        · rename_i hms
          split at h
          · rename_i y hfind
            split at h
            · rename_i hpl
              simp only [Option.some.injEq, Prod.mk.injEq] at h
              obtain ⟨rfl, rfl, rfl⟩ := h
              obtain ⟨kt, e, h1, h2⟩ := ok.ms t hms
              obtain ⟨b, h3, h4⟩ := (show ∃ b, [a.eval x] = [.map (some b)] ∧ F b = some (.map es ck) from hx)
              have h3' : a.eval x = .map (some b) := by simpa using h3
              have hk2 := (RV_v hk).1
              have hck : ∀ em, (Instr.checkKey em 10000 kt (.string s)).run P w = .ok () w := by
                intro em
                rw [show (10000 : Nat) = 9999 + 1 from rfl, Instr.checkKey.eq_2]
                simp [run_underlying h2]
              have hfn : ∀ (l : List MapEntry) (i : Nat) (v : Value), findS s l = some v → ∃ j, Instr.findNow .string (.string s) l i = some (some (j, v)) := by
                intro l
                induction l with
                | nil => intro i v hv; cases hv
                | cons en r ih =>
                  intro i v hv
                  simp only [findS] at hv
                  split at hv
                  · rename_i ks hks
                    split at hv
                    · rename_i heq
                      cases hv
                      exact ⟨i, by simp only [Instr.findNow, hks, Instr.sameNow, heq]⟩
                    · rename_i hne
                      obtain ⟨j, hj⟩ := ih (i + 1) v hv
                      refine ⟨j, ?_⟩
                      have hne' : (s == ks) = false := by simpa using hne
                      simp only [Instr.findNow, hks, Instr.sameNow, hne']
                      exact hj
                  · cases hv
              obtain ⟨j, hj⟩ := hfn es.toList 0 _ hfind
              have hget : (getObj b).run P w = .ok (.map es ck) w := by
                have := hm.fit b _ h4
                unfold getObj; simp only [Sem.run, this]
              have hrun : (Instr.lookup t (a.eval x) (a.eval k) false).run P w = .ok (.agg #[y]) w := by
                rw [h3', hk2]
                simp [Instr.lookup, run_underlying h1, hget, hck, Instr.findKey, run_underlying h2, hj]
              exact OpGoal.of_run (by simp [execOp, hop, hrun]) (After.same hm (show ∃ cs, RC F (.one y) cs ∧ Value.agg #[y] = .agg cs.toArray from ⟨[y], ⟨hpl, rfl⟩, rfl⟩))
            · cases h
          · cases h
        · cases h
      · cases h
  | _ => rw [hop] at h; cases h
end
end Go.AE
