/- What each operation does to abstract values, as a function. -/
import Derived.Test.YtaeicclhopehaaaAe2
namespace Go.AE
open Go.RowKit
set_option linter.unusedVariables false

/-- What is known of the program's types. -/
structure TI where
  sz : TypeId → Option (Nat × Bool)
  zero : TypeId → Option AV
  zeroB : TypeId → Option AV
  fld : TypeId → Nat → Option (Nat × Nat)
  ek : TypeId → Option (TypeId × K)
  int : TypeId → Option IntKind
  isb : TypeId → Bool
  eq2 : TypeId → Bool
  f1 : TypeId → Nat → Option (Nat × Nat × Bool)
  ms : TypeId → Bool

def isAggD : TypeDesc → Bool
  | .struct _ => true
  | .array _ _ => true
  | _ => false

structure TIOk (P : Program) (ti : TI) : Prop where
  sz : ∀ t n b, ti.sz t = some (n, b) → (P.info? t).map (·.size) = some n ∧ (P.underlying t).map isAggD = some b
  zero : ∀ t a, ti.zero t = some a → ∃ z, (P.info? t).map (·.zero) = some (some z) ∧ ∀ F, RC F a z.cells.toList
  zeroB : ∀ t a, ti.zeroB t = some a → ∃ z fs places, (P.info? t).map (·.zero) = some (some z) ∧ (∀ F, RC F a z.cells.toList) ∧ a.agg = true ∧ P.underlying t = some (.struct fs) ∧
    fs.toList.mapM (fun f => (P.info? f.type).map fun i => (f.offset, i.size)) = some places ∧ ∀ j off n, ti.fld t j = some (off, n) → places[j]? = some (off, n)
  fld : ∀ t j off n, ti.fld t j = some (off, n) → ∃ fs f i, P.underlying t = some (.struct fs) ∧ fs[j]? = some f ∧ f.offset = off ∧ P.info? f.type = some i ∧ i.size = n ∧ n ≠ 0
  ek : ∀ t e k, ti.ek t = some (e, k) → P.underlying t = some (.slice e) ∧ ∃ i z, P.info? e = some i ∧ i.zero = some z ∧ i.size = k.es ∧ i.bytes = k.bytes ∧ z.cells.size = k.es ∧ ∀ F, RK F k k.zero z.cells.toList
  int : ∀ t k, ti.int t = some k → P.underlying t = some (.int k)
  isb : ∀ t, ti.isb t = true → P.underlying t = some .bool
  eq2 : ∀ t, ti.eq2 t = true → ∀ (x y : Operand) (a b c d : Int) (w : World),
    (do eqGuard .eql t x y (.agg #[.int .i64 a, .int .i64 b]) (.agg #[.int .i64 c, .int .i64 d]); binOp .eql t (.agg #[.int .i64 a, .int .i64 b]) (.agg #[.int .i64 c, .int .i64 d])).run P w = .ok (.bool (a == c && b == d)) w ∧
    (do eqGuard .neq t x y (.agg #[.int .i64 a, .int .i64 b]) (.agg #[.int .i64 c, .int .i64 d]); binOp .neq t (.agg #[.int .i64 a, .int .i64 b]) (.agg #[.int .i64 c, .int .i64 d])).run P w = .ok (.bool (!(a == c && b == d))) w
  f1 : ∀ t j off n b, ti.f1 t j = some (off, n, b) → ∃ fs f d, P.underlying t = some (.struct fs) ∧ fs[j]? = some f ∧ f.offset = off ∧ P.underlying f.type = some d ∧ isAggD d = b ∧ P.cellsOf f.type = n ∧ (P.info? f.type).isSome = true ∧ (b = false → n = 1)
  ms : ∀ t, ti.ms t = true → ∃ k e, P.underlying t = some (.map k e) ∧ P.underlying k = some .string

abbrev Ct := List AV → Option (Prop × AV)
abbrev Env := Nat → Option Ct
abbrev Ws := List (Nat × Option Ent)
abbrev Eff := Prop × AV × Ws

/-- A value that is handed on: a row of the call's own stays from now on. -/
def pub (m : MM) : AV → Option (AV × Ws)
  | .row id => match m id with
    | some (.row T k l _) => some (.lst k l, [(id, some (.row T k l true))])
    | _ => none
  | .v x => some (.v x, [])
  | .pair a b => some (.pair a b, [])
  | .z x c s => some (.z x c s, [])
  | .q x c s => some (.q x c s, [])
  | .lst k l => some (.lst k l, [])
  | .rp a => some (.rp a, [])
  | .one x => some (.one x, [])
  | _ => none
def nilAV (ti : TI) (t : TypeId) : AV → AV
  | .v (.slice none 0 0) => match ti.ek t with
    | some (_, k) => .lst k []
    | none => .v (.slice none 0 0)
  | a => a
def pubs (ti : TI) (m : MM) : List TypeId → List AV → Option (List AV × Ws)
  | _, [] => some ([], [])
  | ts, a :: r => match pub m a with
    | some (a', w1) => match pubs ti (m.upd w1) ts.tail r with
      | some (r', w2) => some (nilAV ti (ts.headD 0) a' :: r', w1 ++ w2)
      | none => none
    | none => none

def AV.nth : AV → Nat → Option AV
  | .tc a b, 0 => some a
  | .tc a b, i + 1 => b.nth i
  | _, _ => none

def binI (op : BinOp) (k : IntKind) (a b : Int) : Option (Prop × AV) :=
  match op with
  | .add => some (True, .v (.int k (k.wrap (a + b))))
  | .sub => some (True, .v (.int k (k.wrap (a - b))))
  | .mul => some (True, .v (.int k (k.wrap (a * b))))
  | .quo => some (b ≠ 0, .v (.int k (k.wrap (a.tdiv b))))
  | .rem => some (b ≠ 0, .v (.int k (a.tmod b)))
  | .eql => some (True, vb (a == b))
  | .neq => some (True, vb (a != b))
  | .lss => some (True, vb (decide (a < b)))
  | .leq => some (True, vb (decide (a ≤ b)))
  | .gtr => some (True, vb (decide (a > b)))
  | .geq => some (True, vb (decide (a ≥ b)))
  | _ => none
def binA (ti : TI) (op : BinOp) (t : TypeId) : AV → AV → Option (Prop × AV)
  | .v (.int k a), .v (.int k' b) => match op with
    | .shl => some (0 ≤ b, .v (.int k (k.wrap (a * 2 ^ min b.toNat k.bits))))
    | .shr => some (0 ≤ b, .v (.int k (a.fdiv (2 ^ min b.toNat k.bits))))
    | _ => if k = k' then binI op k a b else none
  | .v (.bool a), .v (.bool b) => if ti.isb t then (match op with
    | .eql => some (True, vb (a == b))
    | .neq => some (True, vb (!(a == b)))
    | _ => none) else none
  | .pair (.v (.int .i64 a)) (.v (.int .i64 b)), .pair (.v (.int .i64 c)) (.v (.int .i64 d)) => if ti.eq2 t then (match op with
    | .eql => some (True, vb (a == c && b == d))
    | .neq => some (True, vb (!(a == c && b == d)))
    | _ => none) else none
  | _, _ => none

def foldB (ti : TI) (t : TypeId) : AV → List (Nat × AV) → Option AV
  | z, [] => some z
  | z, (i, x) :: r => match ti.fld t i with
    | some (off, n) => if x.cells = n then (match z.setPart off n x with
      | some z' => foldB ti t z' r
      | none => none) else none
    | none => none
def foldS (k : K) : List k.T → List (Nat × AV) → Option (Prop × List k.T)
  | l, [] => some (True, l)
  | l, (i, x) :: r => match k.dec x with
    | some (p, y) => match foldS k (l.set i y) r with
      | some (q, l') => some (p ∧ i < l.length ∧ q, l')
      | none => none
    | none => none

def intOp : Option Operand → (Operand → AV) → Int → Option Int
  | none, _, d => some d
  | some x, ev, _ => match ev x with
    | .v (.int _ n) => some n
    | _ => none

def castL (k k' : K) (l : List k'.T) : Option (List k.T) := if h : k' = k then some (h ▸ l) else none
theorem castL_self (k : K) (l : List k.T) : castL k k l = some l := by simp [castL]

def appEff (ti : TI) (m : MM) (nid : Nat) (t : TypeId) (s x : AV) : Option Eff :=
  match ti.ek t with
  | none => none
  | some (e, k) => match pub m x with
    | none => none
    | some (x', ws) => match nilAV ti t x' with
      | .lst k' l2' => match castL k k' l2' with
        | none => none
        | some l2 => match s with
          | .v (.slice none 0 0) => some (l2.length * k.bytes ≤ 140737488355328, .row nid, ws ++ [(nid, some (.row e k l2 false))])
          | .row id => match m.upd ws id with
            | some (.row T k1 l1' false) => match castL k k1 l1' with
              | none => none
              | some l1 => if T = e then some ((l1.length + l2.length) * k.bytes ≤ 140737488355328, .row nid, ws ++ [(id, none), (nid, some (.row e k (l1 ++ l2) false))]) else none
            | _ => none
          | _ => none
      | _ => none

def callEff (ti : TI) (env : Env) (ev : Operand → AV) (m : MM) (nid : Nat) (c : Call) : Option Eff :=
  match c.callee with
  | .builtin .len => match c.args.toList, c.argTypes.toList with
    | [x], [t] => if (ti.ek t).isSome then (match ev x with
      | .lst k l => some (True, vi l.length, [])
      | .row id => match m id with
        | some (.row _ k l _) => some (True, vi l.length, [])
        | _ => none
      | .v (.slice none 0 0) => some (True, vi 0, [])
      | _ => none) else none
    | _, _ => none
  | .builtin .max => match c.args.toList with
    | [x, y] => match ev x, ev y with
      | .v (.int k a), .v (.int k' b) => some (True, .v (.int k (if b > a then b else a)), [])
      | _, _ => none
    | _ => none
  | .builtin .min => match c.args.toList with
    | [x, y] => match ev x, ev y with
      | .v (.int k a), .v (.int k' b) => some (True, .v (.int k (if b < a then b else a)), [])
      | _, _ => none
    | _ => none
  | .builtin .append => match c.args.toList, c.argTypes.toList with
    | [s, x], [t, t'] => if t' = t then appEff ti m nid t (ev s) (ev x) else none
    | _, _ => none
  | .value f => match ev f with
    | .v (.func (.func g) ⟨[]⟩ ⟨[]⟩) => match env g with
      | some ct => match pubs ti m c.argTypes.toList (c.args.toList.map ev) with
        | some (as, ws) => match ct as with
          | some (p, r) => some (p, r, ws)
          | none => none
        | none => none
      | none => none
    | _ => none
  | _ => none

def findS (s : ByteArray) : List MapEntry → Option Value
  | [] => none
  | e :: r => match e.key with
    | .string k => if (s == k) = true then some e.val else findS s r
    | _ => none

def opEff (ti : TI) (env : Env) (ev : Operand → AV) (m : MM) (nid : Nat) : Op → Option Eff
  | .move x => some (True, ev x, [])
  | .assign x => some (True, ev x, [])
  | .pick c a b => match ev c with
    | .v (.bool true) => some (True, ev a, [])
    | .v (.bool false) => some (True, ev b, [])
    | _ => none
  | .alloc t => match ti.zero t with
    | some z => some (True, .ptr nid 0, [(nid, some (.box t z))])
    | none => none
  | .box t x => match pub m (ev x), ti.sz t with
    | some (a, ws), some (n, _) => if a.cells = n then some (True, .ptr nid 0, ws ++ [(nid, some (.box t a))]) else none
    | _, _ => none
  | .load t p => match ti.sz t with
    | some (n, b) => (match ev p with
      | .ptr id off => (match m id with
        | some (.box _ a) => (match a.part off n with
          | some x => if x.agg = b then some (True, x, []) else none
          | none => none)
        | _ => none)
      | .ep id es i off => (match m id with
        | some (.row _ k l _) => if es = k.es then (match (k.enc (l.getD i k.zero)).part off n with
          | some x => if x.agg = b then some (i < l.length, x, []) else none
          | none => none) else none
        | _ => none)
      | .rp a => (match a.part 0 n with
        | some x => if x.agg = b then some (True, x, []) else none
        | none => none)
      | _ => none)
    | none => none
  | .store t p x => match ti.sz t, pub m (ev x) with
    | some (n, _), some (x', ws) => if x'.cells = n then (match ev p with
      | .ptr id off => (match m.upd ws id with
        | some (.box T a) => (match a.setPart off n x' with
          | some a' => some (True, .un, ws ++ [(id, some (.box T a'))])
          | none => none)
        | _ => none)
      | .ep id es i 0 => (match m.upd ws id with
        | some (.row T k l false) => if es = k.es ∧ n = k.es then (match k.dec x' with
          | some (p, y) => some (p ∧ i < l.length, .un, ws ++ [(id, some (.row T k (l.set i y) false))])
          | none => none) else none
        | _ => none)
      | _ => none) else none
    | _, _ => none
  | .extract x i => match ev x with
    | .tup t => (match t.nth i with
      | some a => some (True, a, [])
      | none => none)
    | _ => none
  | .fieldAddr s x j => match ti.fld s j with
    | some (off, n) => (match ev x with
      | .ptr id o => some (True, .ptr id (o + off), [])
      | .ep id es i o => some (True, .ep id es i (o + off), [])
      | .rp a => (match a.part off n with
        | some b => some (True, .rp b, [])
        | none => none)
      | _ => none)
    | none => none
  | .indexAddr t x i => match ev i, ti.ek t with
    | .v (.int _ n), some (_, k') => (match ev x with
      | .lst k l => if k' = k then some (0 ≤ n ∧ n < l.length, .rp (k.enc (l.getD n.toNat k.zero)), []) else none
      | .row id => (match m id with
        | some (.row _ k l _) => if k' = k then some (0 ≤ n ∧ n < l.length, .ep id k.es n.toNat 0, []) else none
        | _ => none)
      | _ => none)
    | _, _ => none
  | .makeSlice t a b => match ev a, ev b, ti.ek t with
    | .v (.int _ n), .v (.int _ c), some (e, k) => some (0 ≤ n ∧ n ≤ c ∧ c * k.bytes ≤ 140737488355328, .row nid, [(nid, some (.row e k (List.replicate n.toNat k.zero) false))])
    | _, _, _ => none
  | .slice t x lo hi none => match pub m (ev x), ti.ek t with
    | some (.lst k l, ws), some (_, k') => if k' = k then (match intOp lo ev 0, intOp hi ev l.length with
      | some a, some b => some (0 ≤ a ∧ a ≤ b ∧ b ≤ l.length, .lst k ((l.take b.toNat).drop a.toNat), ws)
      | _, _ => none) else none
    | _, _ => none
  | .build t parts => match ti.zeroB t, pubs ti m [] (parts.toList.map fun p => ev p.2) with
    | some z, some (as, ws) => (match foldB ti t z ((parts.toList.map (·.1)).zip as) with
      | some z' => if z'.agg = true then some (True, z', ws) else none
      | none => none)
    | _, _ => none
  | .buildSlice t n parts => match ti.ek t, pubs ti m [] (parts.toList.map fun p => ev p.2) with
    | some (e, k), some (as, ws) => if n * k.es ≤ 16777216 then (match foldS k (List.replicate n k.zero) ((parts.toList.map (·.1)).zip as) with
      | some (p, l) => some (p, .row nid, ws ++ [(nid, some (.row e k l false))])
      | none => none) else none
    | _, _ => none
  | .binOp op t x y _ => match binA ti op t (ev x) (ev y) with
    | some (p, r) => some (p, r, [])
    | none => none
  | .unOp op _ x => match op, ev x with
    | .neg, .v (.int k n) => some (True, .v (.int k (k.wrap (-n))), [])
    | .not, .v (.bool b) => some (True, vb (!b), [])
    | _, _ => none
  | .convert s d x => match ev x, ti.int s, ti.int d with
    | .v (.int _ n), some _, some k => some (True, .v (.int k (k.wrap n)), [])
    | _, _, _ => none
  | .call c => callEff ti env ev m nid c
  | .field t x j => match ti.f1 t j with
    | some (off, n, b) => (match (ev x).part off n with
      | some y => if (ev x).agg = true ∧ y.agg = b then some (True, y, []) else none
      | none => none)
    | none => none
  | .lookup t x k false => match ev x, ev k with
    | .mp (.map es _), .v (.string s) => if ti.ms t then (match findS s es.toList with
      | some (.agg ⟨[y]⟩) => if plainV y = true then some (True, .one y, []) else none
      | _ => none) else none
    | _, _ => none
  | _ => none
end Go.AE
