/- What stays in memory, and how abstract values read there: plain definitions, over any program. -/
import Derived.WalkKit
import Derived.Orders
import Derived.Below
namespace Go.AE
open Go.RowKit
set_option linter.unusedVariables false

/-- What is known to stay: some blocks, with what they hold. -/
abbrev Fz := Nat → Option Obj
def Fz.le (F F' : Fz) : Prop := ∀ b o, F b = some o → F' b = some o
theorem Fz.le.refl (F : Fz) : F.le F := fun _ _ h => h
theorem Fz.le.trans {A B C : Fz} (h : A.le B) (k : B.le C) : A.le C := fun b o e => k b o (h b o e)

structure QV where
  x : Rat
  c : Bool
  s : Nat

/-- A rational with its words as they stand. -/
structure QX where
  n : Bool
  nw : List Int
  d : Bool
  dw : List Int

/-- The kinds of elements of slices. -/
inductive K where
  | stp | q | bool | u32 | i64 | way | qs | ex | bs | qx | qxs
  deriving DecidableEq

@[reducible] def K.T : K → Type
  | .stp => Int × Int
  | .q => QV
  | .bool => Bool
  | .u32 => Int
  | .i64 => Int
  | .way => QV × List Bool
  | .qs => List QV
  | .ex => List (Int × Int) × Int × Int × Int
  | .bs => List Bool
  | .qx => QX
  | .qxs => List QX

def K.es : K → Nat
  | .stp => 2 | .q => 4 | .bool => 1 | .u32 => 1 | .i64 => 1 | .way => 5 | .qs => 1 | .ex => 4 | .bs => 1 | .qx => 4 | .qxs => 1
def K.bytes : K → Nat
  | .stp => 16 | .q => 64 | .bool => 1 | .u32 => 4 | .i64 => 8 | .way => 88 | .qs => 24 | .ex => 48 | .bs => 24 | .qx => 64 | .qxs => 24
def K.zero : (k : K) → k.T
  | .stp => (0, 0) | .q => ⟨0, true, 0⟩ | .bool => false | .u32 => (0 : Int) | .i64 => (0 : Int) | .way => (⟨0, true, 0⟩, []) | .qs => [] | .ex => ([], 0, 0, 0) | .bs => [] | .qx => ⟨false, [], false, []⟩ | .qxs => []

/-- Abstract values. -/
inductive AV where
  | v (x : Value)
  | pair (a b : AV)
  | z (x : Int) (c : Bool) (s : Nat)
  | q (x : Rat) (c : Bool) (s : Nat)
  | lst (k : K) (l : List k.T)
  | rp (a : AV)
  | ptr (id off : Nat)
  | ep (id es i off : Nat)
  | row (id : Nat)
  | tn
  | tc (a b : AV)
  | tup (a : AV)
  | un
  | junk
  | one (x : Value)
  | mp (o : Obj)

abbrev vi (n : Int) : AV := .v (.int .i64 n)
abbrev vb (b : Bool) : AV := .v (.bool b)

/-- The words' number, least significant first. -/
def wv : List Int → Int
  | [] => 0
  | w :: r => w + 4294967296 * wv r
def zval (neg : Bool) (ws : List Int) : Int := if neg then - wv ws else wv ws
def canonZ (neg : Bool) (ws : List Int) : Prop := ws.getLast? ≠ some 0 ∧ (neg = true → ws ≠ [])
def qval (n d : Int) : Rat := if d = 0 then (n : Rat) else (n : Rat) / (d : Rat)
def canonQ (n d : Int) : Prop := d = 0 ∨ (1 < d ∧ Int.gcd n d = 1)

/-- A slice value reads as a list. -/
def RL {α : Type} (F : Fz) (es : Nat) (R : α → List Value → Prop) (l : List α) (v : Value) : Prop :=
  ∃ A c, v = .slice A l.length c ∧ l.length ≤ c ∧
    (l ≠ [] → ∃ b off C T fr, A = some ⟨b, off, none⟩ ∧ F b = some (.cells C T fr) ∧
      ∀ i (h : i < l.length), ∃ cs, cs.length = es ∧ R l[i] cs ∧ ∀ k, k < es → C[off + i * es + k]? = cs[k]?)

def Ru32 (n : Int) (cs : List Value) : Prop := cs = [.int .u32 n] ∧ 0 ≤ n ∧ n < 4294967296
def RZ (F : Fz) (x : Int) (c : Bool) (s : Nat) (cs : List Value) : Prop :=
  ∃ neg sv ws, cs = [.bool neg, sv] ∧ RL F 1 Ru32 ws sv ∧ ws.length ≤ s ∧ x = zval neg ws ∧ (c = true → canonZ neg ws)
def RQ (F : Fz) (x : Rat) (c : Bool) (s : Nat) (cs : List Value) : Prop :=
  ∃ n d c1 c2 cn cd, cs = c1 ++ c2 ∧ RZ F n cn s c1 ∧ RZ F d cd s c2 ∧ x = qval n d ∧ (c = true → cn = true ∧ cd = true ∧ canonQ n d)
def Rstp (p : Int × Int) (cs : List Value) : Prop := cs = [.int .i64 p.1, .int .i64 p.2]
def Rbool (b : Bool) (cs : List Value) : Prop := cs = [.bool b]
def Rqx (F : Fz) (x : QX) (cs : List Value) : Prop := ∃ v1 v2, cs = [.bool x.n, v1, .bool x.d, v2] ∧ RL F 1 Ru32 x.nw v1 ∧ RL F 1 Ru32 x.dw v2
def RK (F : Fz) : (k : K) → k.T → List Value → Prop
  | .stp, p, cs => Rstp p cs
  | .q, x, cs => RQ F x.x x.c x.s cs
  | .bool, b, cs => Rbool b cs
  | .u32, n, cs => Ru32 n cs
  | .i64, n, cs => cs = [.int .i64 n]
  | .way, p, cs => ∃ c1 v, cs = c1 ++ [v] ∧ RQ F p.1.x p.1.c p.1.s c1 ∧ RL F 1 Rbool p.2 v
  | .qs, l, cs => ∃ v, cs = [v] ∧ RL F 4 (fun x cs => RQ F x.x x.c x.s cs) l v
  | .ex, p, cs => ∃ v, cs = [v, .int .i64 p.2.1, .int .i64 p.2.2.1, .int .i64 p.2.2.2] ∧ RL F 2 Rstp p.1 v
  | .bs, l, cs => ∃ v, cs = [v] ∧ RL F 1 Rbool l v
  | .qx, x, cs => Rqx F x cs
  | .qxs, l, cs => ∃ v, cs = [v] ∧ RL F 4 (Rqx F) l v

def plainV : Value → Bool
  | .agg _ => false
  | .tuple _ => false
  | _ => true

/-- The cells of a value that stays. -/
def RC (F : Fz) : AV → List Value → Prop
  | .v x, cs => plainV x = true ∧ cs = [x]
  | .pair a b, cs => ∃ c1 c2, cs = c1 ++ c2 ∧ RC F a c1 ∧ RC F b c2
  | .z x c s, cs => RZ F x c s cs
  | .q x c s, cs => RQ F x c s cs
  | .lst k l, cs => ∃ v, cs = [v] ∧ RL F k.es (RK F k) l v
  | .rp a, cs => ∃ b off C T fr cs', cs = [.pointer (some ⟨b, off, none⟩)] ∧ F b = some (.cells C T fr) ∧ RC F a cs' ∧ ∀ k, k < cs'.length → C[off + k]? = cs'[k]?
  | .one x, cs => plainV x = true ∧ cs = [x]
  | .mp o, cs => ∃ b, cs = [.map (some b)] ∧ F b = some o
  | _, _ => False

def AV.cells : AV → Nat
  | .v _ => 1
  | .pair a b => a.cells + b.cells
  | .z .. => 2
  | .q .. => 4
  | .lst .. => 1
  | .rp _ => 1
  | .one _ => 1
  | .mp _ => 1
  | _ => 0
def AV.agg : AV → Bool
  | .pair .. => true
  | .z .. => true
  | .q .. => true
  | .one _ => true
  | _ => false

/-- Where the own blocks lie: none yet; a nil slice; a block, a capacity and a length. -/
abbrev Gm := Nat → Option (Option (Nat × Nat × Nat))
def Gm.le (G G' : Gm) : Prop := ∀ i p, G i = some p → G' i = some p
theorem Gm.le.refl (G : Gm) : G.le G := fun _ _ h => h
theorem Gm.le.trans {A B C : Gm} (h : A.le B) (k : B.le C) : A.le C := fun b o e => k b o (h b o e)

def RVp (F : Fz) (a : AV) (v : Value) : Prop := if a.agg = true then ∃ cs, RC F a cs ∧ v = .agg cs.toArray else RC F a [v]
def RT (F : Fz) : AV → List Value → Prop
  | .tn, vs => vs = []
  | .tc a b, vs => ∃ x r, vs = x :: r ∧ RVp F a x ∧ RT F b r
  | _, _ => False
def RV (F : Fz) (G : Gm) : AV → Value → Prop
  | .junk, _ => True
  | .un, v => v = undef
  | .ptr id off, v => ∃ g c, G id = some (some (g, c)) ∧ v = .pointer (some ⟨g, off, none⟩)
  | .ep id es i off, v => ∃ g c, G id = some (some (g, c)) ∧ v = .pointer (some ⟨g, i * es + off, none⟩)
  | .row id, v => (G id = some none ∧ v = .slice none 0 0) ∨ ∃ g c, G id = some (some (g, c)) ∧ v = .slice (some ⟨g, 0, none⟩) c.2 c.1
  | .tup t, v => ∃ vs, v = .tuple vs.toArray ∧ RT F t vs
  | a, v => RVp F a v

theorem RL.mono {α : Type} {F F' : Fz} {es : Nat} {R R' : α → List Value → Prop} (hF : F.le F') (hR : ∀ x cs, R x cs → R' x cs) {l : List α} {v : Value} (h : RL F es R l v) : RL F' es R' l v := by
  obtain ⟨A, c, h1, h2, h3⟩ := h
  refine ⟨A, c, h1, h2, fun hl => ?_⟩
  obtain ⟨b, off, C, T, fr, h4, h5, h6⟩ := h3 hl
  refine ⟨b, off, C, T, fr, h4, hF _ _ h5, fun i hi => ?_⟩
  obtain ⟨cs, h7, h8, h9⟩ := h6 i hi
  exact ⟨cs, h7, hR _ _ h8, h9⟩
theorem RZ.mono {F F' : Fz} (hF : F.le F') {x : Int} {c : Bool} {s : Nat} {cs : List Value} (h : RZ F x c s cs) : RZ F' x c s cs := by
  obtain ⟨neg, sv, ws, h1, h2, h3⟩ := h
  exact ⟨neg, sv, ws, h1, h2.mono hF (fun _ _ h => h), h3⟩
theorem RQ.mono {F F' : Fz} (hF : F.le F') {x : Rat} {c : Bool} {s : Nat} {cs : List Value} (h : RQ F x c s cs) : RQ F' x c s cs := by
  obtain ⟨n, d, c1, c2, cn, cd, h1, h2, h3, h4⟩ := h
  exact ⟨n, d, c1, c2, cn, cd, h1, h2.mono hF, h3.mono hF, h4⟩
theorem Rqx.mono {F F' : Fz} (hF : F.le F') {x : QX} {cs : List Value} (h : Rqx F x cs) : Rqx F' x cs := by
  obtain ⟨v1, v2, h1, h2, h3⟩ := h
  exact ⟨v1, v2, h1, h2.mono hF (fun _ _ h => h), h3.mono hF (fun _ _ h => h)⟩
theorem RK.mono {F F' : Fz} (hF : F.le F') : ∀ {k : K} {x : k.T} {cs : List Value}, RK F k x cs → RK F' k x cs := by
  intro k x cs h
  cases k
  case stp => exact h
  case q => exact RQ.mono hF h
  case bool => exact h
  case u32 => exact h
  case i64 => exact h
  case way =>
    obtain ⟨c1, v, h1, h2, h3⟩ := h
    exact ⟨c1, v, h1, h2.mono hF, h3.mono hF (fun _ _ h => h)⟩
  case qs =>
    obtain ⟨v, h1, h2⟩ := h
    exact ⟨v, h1, h2.mono hF (fun _ _ h => h.mono hF)⟩
  case ex =>
    obtain ⟨v, h1, h2⟩ := h
    exact ⟨v, h1, h2.mono hF (fun _ _ h => h)⟩
  case bs =>
    obtain ⟨v, h1, h2⟩ := h
    exact ⟨v, h1, h2.mono hF (fun _ _ h => h)⟩
  case qx => exact Rqx.mono hF h
  case qxs =>
    obtain ⟨v, h1, h2⟩ := h
    exact ⟨v, h1, h2.mono hF (fun _ _ h => h.mono hF)⟩
theorem RC.mono {F F' : Fz} (hF : F.le F') : ∀ {a : AV} {cs : List Value}, RC F a cs → RC F' a cs := by
  intro a
  induction a with
  | v x => exact fun h => h
  | pair a b iha ihb => exact fun ⟨c1, c2, h1, h2, h3⟩ => ⟨c1, c2, h1, iha h2, ihb h3⟩
  | z => exact RZ.mono hF
  | q => exact RQ.mono hF
  | lst k l => exact fun ⟨v, h1, h2⟩ => ⟨v, h1, h2.mono hF (fun _ _ h => RK.mono hF h)⟩
  | rp a ih => exact fun ⟨b, off, C, T, fr, cs', h1, h2, h3, h4⟩ => ⟨b, off, C, T, fr, cs', h1, hF _ _ h2, ih h3, h4⟩
  | one x => exact fun h => h
  | mp o => exact fun ⟨b, h1, h2⟩ => ⟨b, h1, hF _ _ h2⟩
  | _ => exact fun h => h.elim
theorem RVp.mono {F F' : Fz} (hF : F.le F') {a : AV} {v : Value} (h : RVp F a v) : RVp F' a v := by
  unfold RVp at *
  split
  · rename_i ha
    rw [if_pos ha] at h
    obtain ⟨cs, h1, h2⟩ := h
    exact ⟨cs, h1.mono hF, h2⟩
  · rename_i ha
    rw [if_neg ha] at h
    exact h.mono hF
theorem RT.mono {F F' : Fz} (hF : F.le F') : ∀ {a : AV} {vs : List Value}, RT F a vs → RT F' a vs := by
  intro a
  induction a with
  | tn => exact fun h => h
  | tc a b iha ihb => exact fun ⟨x, r, h1, h2, h3⟩ => ⟨x, r, h1, h2.mono hF, ihb h3⟩
  | _ => exact fun h => h.elim
theorem RV.mono {F F' : Fz} {G G' : Gm} (hF : F.le F') (hG : G.le G') {a : AV} {v : Value} (h : RV F G a v) : RV F' G' a v := by
  cases a with
  | junk => trivial
  | un => exact h
  | ptr id off => obtain ⟨g, c, h1, h2⟩ := h; exact ⟨g, c, hG _ _ h1, h2⟩
  | ep id es i off => obtain ⟨g, c, h1, h2⟩ := h; exact ⟨g, c, hG _ _ h1, h2⟩
  | row id =>
    rcases h with ⟨h1, h2⟩ | ⟨g, c, h1, h2⟩
    · exact .inl ⟨hG _ _ h1, h2⟩
    · exact .inr ⟨g, c, hG _ _ h1, h2⟩
  | tup t => obtain ⟨vs, h1, h2⟩ := h; exact ⟨vs, h1, h2.mono hF⟩
  | v x => exact RVp.mono hF h
  | pair a b => exact RVp.mono hF h
  | z x c s => exact RVp.mono hF h
  | q x c s => exact RVp.mono hF h
  | lst k l => exact RVp.mono hF h
  | rp a => exact RVp.mono hF h
  | one x => exact RVp.mono hF h
  | mp o => exact RVp.mono hF h
  | tn => exact RVp.mono hF h
  | tc a b => exact RVp.mono hF h

theorem RL.plain {α : Type} {F : Fz} {es : Nat} {R : α → List Value → Prop} {l : List α} {v : Value} (h : RL F es R l v) : plainV v = true := by
  obtain ⟨A, c, rfl, _⟩ := h; rfl
theorem RZ.length {F : Fz} {x : Int} {c : Bool} {s : Nat} {cs : List Value} (h : RZ F x c s cs) : cs.length = 2 := by
  obtain ⟨neg, sv, ws, rfl, _⟩ := h; rfl
theorem RQ.length {F : Fz} {x : Rat} {c : Bool} {s : Nat} {cs : List Value} (h : RQ F x c s cs) : cs.length = 4 := by
  obtain ⟨n, d, c1, c2, cn, cd, rfl, h2, h3, _⟩ := h; simp [h2.length, h3.length]
theorem RC.length {F : Fz} : ∀ {a : AV} {cs : List Value}, RC F a cs → cs.length = a.cells := by
  intro a
  induction a with
  | v x => rintro cs ⟨_, rfl⟩; rfl
  | pair a b iha ihb => rintro cs ⟨c1, c2, rfl, h2, h3⟩; simp [AV.cells, iha h2, ihb h3]
  | z => exact RZ.length
  | q => exact RQ.length
  | lst k l => rintro cs ⟨v, rfl, _⟩; rfl
  | rp a ih => rintro cs ⟨b, off, C, T, fr, cs', rfl, _⟩; rfl
  | one x => rintro cs ⟨_, rfl⟩; rfl
  | mp o => rintro cs ⟨b, rfl, _⟩; rfl
  | _ => intro cs h; exact h.elim
theorem RK.length {F : Fz} : ∀ {k : K} {x : k.T} {cs : List Value}, RK F k x cs → cs.length = k.es := by
  intro k x cs h
  cases k
  case stp => cases h; rfl
  case q => exact RQ.length h
  case bool => cases h; rfl
  case u32 => obtain ⟨rfl, _⟩ := h; rfl
  case i64 => cases h; rfl
  case way => obtain ⟨c1, v, rfl, h2, h3⟩ := h; simp [h2.length, K.es]
  case qs => obtain ⟨v, rfl, _⟩ := h; rfl
  case ex => obtain ⟨v, rfl, _⟩ := h; rfl
  case bs => obtain ⟨v, rfl, _⟩ := h; rfl
  case qx => obtain ⟨v1, v2, rfl, _⟩ := h; rfl
  case qxs => obtain ⟨v, rfl, _⟩ := h; rfl
/-- Each cell of a value that stays is one cell's value. -/
theorem RZ.plain {F : Fz} {x : Int} {c : Bool} {s : Nat} {cs : List Value} (h : RZ F x c s cs) : ∀ y ∈ cs, plainV y = true := by
  obtain ⟨neg, sv, ws, rfl, h, _⟩ := h
  intro y hy
  simp at hy
  rcases hy with rfl | rfl
  · rfl
  · exact h.plain
theorem RQ.plain {F : Fz} {x : Rat} {c : Bool} {s : Nat} {cs : List Value} (h : RQ F x c s cs) : ∀ y ∈ cs, plainV y = true := by
  obtain ⟨n, d, c1, c2, cn, cd, rfl, h2, h3, _⟩ := h
  intro y hy
  rcases List.mem_append.1 hy with hy | hy
  · exact h2.plain y hy
  · exact h3.plain y hy
theorem RC.plain {F : Fz} : ∀ {a : AV} {cs : List Value}, RC F a cs → ∀ y ∈ cs, plainV y = true := by
  intro a
  induction a with
  | v x => rintro cs ⟨h, rfl⟩ y hy; simp at hy; subst hy; exact h
  | pair a b iha ihb =>
    rintro cs ⟨c1, c2, rfl, h2, h3⟩ y hy
    rcases List.mem_append.1 hy with hy | hy
    · exact iha h2 y hy
    · exact ihb h3 y hy
  | z => exact RZ.plain
  | q => exact RQ.plain
  | lst k l => rintro cs ⟨v, rfl, h⟩ y hy; simp at hy; subst hy; exact h.plain
  | rp a ih => rintro cs ⟨b, off, C, T, fr, cs', rfl, _⟩ y hy; simp at hy; subst hy; rfl
  | one x => rintro cs ⟨h, rfl⟩ y hy; simp at hy; subst hy; exact h
  | mp o => rintro cs ⟨b, rfl, _⟩ y hy; simp at hy; subst hy; rfl
  | _ => intro cs h; exact h.elim
theorem RK.plain {F : Fz} : ∀ {k : K} {x : k.T} {cs : List Value}, RK F k x cs → ∀ y ∈ cs, plainV y = true := by
  intro k x cs h y hy
  cases k
  case stp => cases h; simp at hy; rcases hy with rfl | rfl <;> rfl
  case q => exact RQ.plain h y hy
  case bool => cases h; simp at hy; subst hy; rfl
  case u32 => obtain ⟨rfl, _⟩ := h; simp at hy; subst hy; rfl
  case i64 => cases h; simp at hy; subst hy; rfl
  case way =>
    obtain ⟨c1, v, rfl, h2, h3⟩ := h
    rcases List.mem_append.1 hy with hy | hy
    · exact h2.plain y hy
    · simp at hy; subst hy; exact h3.plain
  case qs => obtain ⟨v, rfl, h⟩ := h; simp at hy; subst hy; exact h.plain
  case ex => obtain ⟨v, rfl, h⟩ := h; simp at hy; rcases hy with rfl | rfl | rfl | rfl <;> first | rfl | exact h.plain
  case bs => obtain ⟨v, rfl, h⟩ := h; simp at hy; subst hy; exact h.plain
  case qx => obtain ⟨v1, v2, rfl, h1, h2⟩ := h; simp at hy; rcases hy with rfl | rfl | rfl | rfl <;> first | rfl | exact h1.plain | exact h2.plain
  case qxs => obtain ⟨v, rfl, h⟩ := h; simp at hy; subst hy; exact h.plain

/-- An element, as an abstract value. -/
def K.enc : (k : K) → k.T → AV
  | .stp, p => .pair (vi p.1) (vi p.2)
  | .q, x => .q x.x x.c x.s
  | .bool, b => vb b
  | .u32, n => .v (.int .u32 n)
  | .i64, n => vi n
  | .way, p => .pair (.q p.1.x p.1.c p.1.s) (.lst .bool p.2)
  | .qs, l => .lst .q l
  | .ex, p => .pair (.lst .stp p.1) (.pair (vi p.2.1) (.pair (vi p.2.2.1) (vi p.2.2.2)))
  | .bs, l => .lst .bool l
  | .qx, x => .pair (.pair (vb x.n) (.lst .u32 x.nw)) (.pair (vb x.d) (.lst .u32 x.dw))
  | .qxs, l => .lst .qx l
theorem RK.enc {F : Fz} : ∀ {k : K} {x : k.T} {cs : List Value}, RK F k x cs → RC F (k.enc x) cs := by
  intro k x cs h
  cases k
  case stp => cases h; exact ⟨[_], [_], rfl, ⟨rfl, rfl⟩, ⟨rfl, rfl⟩⟩
  case q => exact h
  case bool => cases h; exact ⟨rfl, rfl⟩
  case u32 => obtain ⟨rfl, _⟩ := h; exact ⟨rfl, rfl⟩
  case i64 => cases h; exact ⟨rfl, rfl⟩
  case way => obtain ⟨c1, v, rfl, h2, h3⟩ := h; exact ⟨c1, [v], rfl, h2, v, rfl, h3⟩
  case qs => obtain ⟨v, rfl, h⟩ := h; exact ⟨v, rfl, h⟩
  case ex => obtain ⟨v, rfl, h⟩ := h; exact ⟨[v], [_, _, _], rfl, ⟨v, rfl, h⟩, [_], [_, _], rfl, ⟨rfl, rfl⟩, [_], [_], rfl, ⟨rfl, rfl⟩, ⟨rfl, rfl⟩⟩
  case bs => obtain ⟨v, rfl, h⟩ := h; exact ⟨v, rfl, h⟩
  case qx => obtain ⟨v1, v2, rfl, h1, h2⟩ := h; exact ⟨[_, v1], [_, v2], rfl, ⟨[_], [v1], rfl, ⟨rfl, rfl⟩, v1, rfl, h1⟩, ⟨[_], [v2], rfl, ⟨rfl, rfl⟩, v2, rfl, h2⟩⟩
  case qxs => obtain ⟨v, rfl, h⟩ := h; exact ⟨v, rfl, h⟩
/-- An abstract value, as an element: what is owed, and the element. -/
def K.dec : (k : K) → AV → Option (Prop × k.T)
  | .stp, .pair (.v (.int .i64 a)) (.v (.int .i64 b)) => some (True, (a, b))
  | .q, .q x c s => some (True, ⟨x, c, s⟩)
  | .bool, .v (.bool b) => some (True, b)
  | .u32, .v (.int .u32 n) => some (0 ≤ n ∧ n < 4294967296, n)
  | .i64, .v (.int .i64 n) => some (True, n)
  | .way, .pair (.q x c s) (.lst .bool l) => some (True, (⟨x, c, s⟩, l))
  | .qs, .lst .q l => some (True, l)
  | .ex, .pair (.lst .stp l) (.pair (.v (.int .i64 a)) (.pair (.v (.int .i64 b)) (.v (.int .i64 c)))) => some (True, (l, a, b, c))
  | .bs, .lst .bool l => some (True, l)
  | .qx, .pair (.pair (.v (.bool n)) (.lst .u32 nw)) (.pair (.v (.bool d)) (.lst .u32 dw)) => some (True, ⟨n, nw, d, dw⟩)
  | .qxs, .lst .qx l => some (True, l)
  | _, _ => none
theorem K.dec_ok {F : Fz} {k : K} {a : AV} {p : Prop} {x : k.T} (h : k.dec a = some (p, x)) (hp : p) {cs : List Value} (hc : RC F a cs) : RK F k x cs := by
  unfold K.dec at h
  split at h <;> simp only [Option.some.injEq, Prod.mk.injEq, reduceCtorEq] at h
  · obtain ⟨rfl, rfl⟩ := h; obtain ⟨c1, c2, rfl, ⟨_, rfl⟩, ⟨_, rfl⟩⟩ := hc; rfl
  · obtain ⟨rfl, rfl⟩ := h; exact hc
  · obtain ⟨rfl, rfl⟩ := h; obtain ⟨_, rfl⟩ := hc; rfl
  · obtain ⟨rfl, rfl⟩ := h; obtain ⟨_, rfl⟩ := hc; exact ⟨rfl, hp⟩
  · obtain ⟨rfl, rfl⟩ := h; obtain ⟨_, rfl⟩ := hc; rfl
  · obtain ⟨rfl, rfl⟩ := h; obtain ⟨c1, c2, rfl, h1, v, rfl, h2⟩ := hc; exact ⟨c1, v, rfl, h1, h2⟩
  · obtain ⟨rfl, rfl⟩ := h; obtain ⟨v, rfl, h1⟩ := hc; exact ⟨v, rfl, h1⟩
  · obtain ⟨rfl, rfl⟩ := h; obtain ⟨c1, c2, rfl, ⟨v, rfl, h1⟩, c3, c4, rfl, ⟨_, rfl⟩, c5, c6, rfl, ⟨_, rfl⟩, ⟨_, rfl⟩⟩ := hc; exact ⟨v, rfl, h1⟩
  · obtain ⟨rfl, rfl⟩ := h; obtain ⟨v, rfl, h1⟩ := hc; exact ⟨v, rfl, h1⟩
  · obtain ⟨rfl, rfl⟩ := h; obtain ⟨c1, c2, rfl, ⟨c3, c4, rfl, ⟨_, rfl⟩, v1, rfl, h1⟩, ⟨c5, c6, rfl, ⟨_, rfl⟩, v2, rfl, h2⟩⟩ := hc; exact ⟨v1, v2, rfl, h1, h2⟩
  · obtain ⟨rfl, rfl⟩ := h; obtain ⟨v, rfl, h1⟩ := hc; exact ⟨v, rfl, h1⟩

def cden (x : Rat) : Int := if x.den = 1 then 0 else x.den
theorem canon_num {n d : Int} {x : Rat} (hx : x = qval n d) (h : canonQ n d) : n = x.num ∧ d = cden x := by
  rcases h with h | ⟨h1, h2⟩
  · subst h
    simp only [qval, ↓reduceIte] at hx
    subst hx
    exact ⟨rfl, rfl⟩
  · have hq : ∃ q : Rat, q.num = n ∧ q.den = d.toNat := ⟨⟨n, d.toNat, by omega, by
      show Nat.gcd n.natAbs d.toNat = 1
      rw [← h2, Int.gcd, show d.toNat = d.natAbs by omega]⟩, rfl, rfl⟩
    obtain ⟨q, q1, q2⟩ := hq
    have h3 : (q.num : Rat) / ((q.den : Nat) : Rat) = q := by rw [← Rat.mkRat_eq_div, Rat.mkRat_self]
    have h4 : ((q.den : Nat) : Rat) = ((d : Int) : Rat) := by
      rw [q2, ← Rat.intCast_natCast, show ((d.toNat : Nat) : Int) = d by omega]
    rw [q1, h4] at h3
    have h5 : x = q := by rw [hx, qval, if_neg (by omega), h3]
    subst h5
    refine ⟨q1.symm, ?_⟩
    unfold cden
    rw [if_neg (by omega)]
    omega
/-- A part of a struct: from cell off on, so many cells. -/
def AV.part : AV → Nat → Nat → Option AV
  | .pair x y, off, n => if off = 0 ∧ n = x.cells + y.cells then some (.pair x y) else if off < x.cells then x.part off n else y.part (off - x.cells) n
  | .one x, off, n => if off = 0 ∧ n = 1 then some (.v x) else none
  | .q x c s, off, n => if off = 0 ∧ n = 4 then some (.q x c s) else if c = true ∧ off = 0 ∧ n = 2 then some (.z x.num true s) else if c = true ∧ off = 2 ∧ n = 2 then some (.z (cden x) true s) else none
  | a, off, n => if off = 0 ∧ n = a.cells then some a else none
def AV.setPart : AV → Nat → Nat → AV → Option AV
  | .pair x y, off, n, b => if off = 0 ∧ n = x.cells + y.cells then some b else if off < x.cells then (x.setPart off n b).map (.pair · y) else (y.setPart (off - x.cells) n b).map (.pair x ·)
  | a, off, n, b => if off = 0 ∧ n = a.cells then some b else none

theorem AV.part_ok {F : Fz} : ∀ {a : AV} {off n : Nat} {b : AV} {cs : List Value}, a.part off n = some b → RC F a cs → ∃ pre post mid, cs = pre ++ mid ++ post ∧ pre.length = off ∧ mid.length = n ∧ RC F b mid := by
  intro a
  induction a with
  | pair x y ihx ihy =>
    intro off n b cs h hc
    simp only [AV.part] at h
    split at h
    · rename_i h0
      cases h
      exact ⟨[], [], cs, by simp, by simp [h0.1], by rw [h0.2]; exact RC.length hc, hc⟩
    · obtain ⟨c1, c2, rfl, h1, h2⟩ := hc
      have hl := RC.length h1
      split at h
      · obtain ⟨pre, post, mid, e1, e2, e3, e4⟩ := ihx h h1
        exact ⟨pre, post ++ c2, mid, by rw [e1]; simp, e2, e3, e4⟩
      · rename_i hge
        obtain ⟨pre, post, mid, e1, e2, e3, e4⟩ := ihy h h2
        exact ⟨c1 ++ pre, post, mid, by rw [e1]; simp, by simp [e2, hl]; omega, e3, e4⟩
  | q x c s =>
    intro off n b cs h hc
    simp only [AV.part] at h
    split at h
    · rename_i h0
      cases h
      exact ⟨[], [], cs, by simp, by simp [h0.1], by rw [h0.2]; exact RC.length hc, hc⟩
    · obtain ⟨n1, d1, c1, c2, cn, cd, rfl, h1, h2, h3, h4⟩ := (show RQ F x c s cs from hc)
      split at h
      · rename_i h0
        cases h
        obtain ⟨rfl, rfl, h6⟩ := h4 h0.1
        obtain ⟨rfl, rfl⟩ := canon_num h3 h6
        exact ⟨[], c2, c1, by simp, by simp [h0.2.1], by rw [h0.2.2]; exact RZ.length h1, h1⟩
      · split at h
        · rename_i h0
          cases h
          obtain ⟨rfl, rfl, h6⟩ := h4 h0.1
          obtain ⟨rfl, rfl⟩ := canon_num h3 h6
          exact ⟨c1, [], c2, by simp, by rw [RZ.length h1, h0.2.1], by rw [h0.2.2]; exact RZ.length h2, h2⟩
        · cases h
  | one x =>
    intro off n b cs h hc
    simp only [AV.part] at h
    split at h
    · rename_i h0
      cases h
      obtain ⟨h1, rfl⟩ := hc
      exact ⟨[], [], [x], by simp, by simp [h0.1], by simp [h0.2], h1, rfl⟩
    · cases h
  | _ =>
    intro off n b cs h hc
    simp only [AV.part] at h
    split at h
    · rename_i h0
      cases h
      exact ⟨[], [], cs, by simp, by simp [h0.1], by rw [h0.2]; exact RC.length hc, hc⟩
    · cases h
theorem AV.setPart_ok {F : Fz} : ∀ {a : AV} {off n : Nat} {b a' : AV} {cs cb : List Value}, a.setPart off n b = some a' → RC F a cs → RC F b cb → cb.length = n →
    ∃ pre post mid, cs = pre ++ mid ++ post ∧ pre.length = off ∧ mid.length = n ∧ RC F a' (pre ++ cb ++ post) := by
  intro a
  induction a with
  | pair x y ihx ihy =>
    intro off n b a' cs cb h hc hb hn
    simp only [AV.setPart] at h
    split at h
    · rename_i h0
      cases h
      exact ⟨[], [], cs, by simp, by simp [h0.1], by rw [h0.2]; exact RC.length hc, by simpa using hb⟩
    · obtain ⟨c1, c2, rfl, h1, h2⟩ := hc
      have hl := RC.length h1
      split at h
      · simp only [Option.map_eq_some_iff] at h
        obtain ⟨x', hx, rfl⟩ := h
        obtain ⟨pre, post, mid, e1, e2, e3, e4⟩ := ihx hx h1 hb hn
        exact ⟨pre, post ++ c2, mid, by rw [e1]; simp, e2, e3, _, c2, by simp, e4, h2⟩
      · simp only [Option.map_eq_some_iff] at h
        obtain ⟨y', hy, rfl⟩ := h
        obtain ⟨pre, post, mid, e1, e2, e3, e4⟩ := ihy hy h2 hb hn
        exact ⟨c1 ++ pre, post, mid, by rw [e1]; simp, by simp [e2, hl]; omega, e3, c1, _, by simp, h1, e4⟩
  | _ =>
    intro off n b a' cs cb h hc hb hn
    simp only [AV.setPart] at h
    split at h
    · rename_i h0
      cases h
      exact ⟨[], [], cs, by simp, by simp [h0.1], by rw [h0.2]; exact RC.length hc, by simpa using hb⟩
    · cases h
end Go.AE
