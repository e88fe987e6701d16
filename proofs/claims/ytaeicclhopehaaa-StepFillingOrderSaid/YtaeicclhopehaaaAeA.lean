/- States, and regions as functions on them. -/
import Derived.Test.YtaeicclhopehaaaAe9
namespace Go.AE
open Go.RowKit
set_option linter.unusedVariables false

def lkS : List (Nat × AV) → Nat → AV
  | [], _ => .junk
  | (k, v) :: r, t => if k = t then v else lkS r t
def lkM : List (Nat × Option Ent) → MM
  | [], _ => none
  | (k, v) :: r, t => if k = t then v else lkM r t
def updL : List (Nat × Option Ent) → Ws → List (Nat × Option Ent)
  | l, [] => l
  | l, p :: r => updL (p :: l) r

structure AS where
  sl : List (Nat × AV)
  mem : List (Nat × Option Ent)
  nx : Nat

def evO (sl : Nat → AV) : Operand → AV
  | .tmp t => sl t
  | .const v => if plainV v = true then .v v else .junk
  | .global _ => .junk
  | .func f => .v (.func (.func f) #[] #[])

def AV.ids : AV → List Nat
  | .ptr id _ => [id]
  | .ep id _ _ _ => [id]
  | .row id => [id]
  | _ => []
def lids (ev : Operand → AV) : List Operand → List Nat
  | [] => []
  | x :: r => (ev x).ids ++ lids ev r
/-- The entries that an operation looks at. -/
def opIds (ev : Operand → AV) : Op → List Nat
  | .load _ p => (ev p).ids
  | .indexAddr _ x _ => (ev x).ids
  | .store _ p x => (ev p).ids ++ (ev x).ids
  | .slice _ x _ _ _ => (ev x).ids
  | .box _ x => (ev x).ids
  | .build _ ps => lids ev (ps.toList.map (·.2))
  | .buildSlice _ _ ps => lids ev (ps.toList.map (·.2))
  | .call c => lids ev c.args.toList
  | _ => []

/-- An operation that was carried out: its number, what it looked at, what it wrote. -/
structure Ef where
  i : Nat
  ri : List Nat
  wi : List Nat

def putS (nt : Nat) (sl : List (Nat × AV)) : Option Tmp → AV → Option (List (Nat × AV))
  | none, _ => some sl
  | some d, r => if d < nt then some ((d, r) :: sl) else none

def effR (nt : Nat) (ti : TI) (env : Env) (σ : AS) (o : Oper) (i : Nat) : Option (Prop × AS × Ef) :=
  match opEff ti env (evO (lkS σ.sl)) (lkM σ.mem) σ.nx o.op with
  | some (p, r, ws) => match putS nt σ.sl o.dst r with
    | some sl => some (p, ⟨sl, updL σ.mem ws, σ.nx + 1⟩, ⟨i, opIds (evO (lkS σ.sl)) o.op, ws.map (·.1)⟩)
    | none => none
  | none => none
def effQ (nt : Nat) (ti : TI) (env : Env) (σ : AS) (o : Oper) : Option (Prop × AS) :=
  match opEff ti env (evO (lkS σ.sl)) (lkM σ.mem) σ.nx o.op with
  | some (p, r, ws) => match putS nt σ.sl o.dst r with
    | some sl => some (p, ⟨sl, updL σ.mem ws, σ.nx + 1⟩)
    | none => none
  | none => none
def skipS (nt : Nat) (σ : AS) (o : Oper) : Option AS :=
  match putS nt σ.sl o.dst .un with
  | some sl => some ⟨sl, σ.mem, σ.nx⟩
  | none => none

def gdst (dsts : List (Option Tmp)) (j : Nat) : Option Tmp := dsts.getD j none

/-- Carried out where b = gb, passed over elsewhere. -/
def guardP (b gb : Bool) (A B : Prop) : Prop := (b = gb → A) ∧ (b = !gb → B)
theorem guardP_tt {A B : Prop} : guardP true true A B = A := by simp [guardP]
theorem guardP_tf {A B : Prop} : guardP true false A B = B := by simp [guardP]
theorem guardP_ft {A B : Prop} : guardP false true A B = B := by simp [guardP]
theorem guardP_ff {A B : Prop} : guardP false false A B = A := by simp [guardP]
theorem guardP_t {b : Bool} {A B : Prop} : guardP b true A B = ((b = true → A) ∧ (b = false → B)) := rfl
theorem guardP_f {b : Bool} {A B : Prop} : guardP b false A B = ((b = false → A) ∧ (b = true → B)) := rfl
/-- A region, in the order of the text, telling what each operation touched. -/
def evalR (nt : Nat) (ti : TI) (env : Env) (dsts : List (Option Tmp)) : Nat → List Oper → AS → List Ef → (AS → List Ef → Prop) → Prop
  | _, [], σ, es, K => K σ es
  | i, o :: r, σ, es, K => match o.guard with
    | none => (match effR nt ti env σ o i with
      | some (p, σ', e) => p ∧ evalR nt ti env dsts (i + 1) r σ' (es ++ [e]) K
      | none => False)
    | some (j, gb) => match gdst dsts j with
      | none => False
      | some d => match lkS σ.sl d with
        | .v (.bool b) => guardP b gb (match effR nt ti env ⟨(d, .v (.bool gb)) :: σ.sl, σ.mem, σ.nx⟩ o i with
            | some (p, σ', e) => p ∧ evalR nt ti env dsts (i + 1) r σ' (es ++ [e]) K
            | none => False)
          (match skipS nt ⟨(d, .v (.bool !gb)) :: σ.sl, σ.mem, σ.nx⟩ o with
            | some σ' => evalR nt ti env dsts (i + 1) r σ' es K
            | none => False)
        | .un => (match skipS nt σ o with
            | some σ' => evalR nt ti env dsts (i + 1) r σ' es K
            | none => False)
        | _ => False
/-- The same, of a region whose order is the text's. -/
def evalQ (nt : Nat) (ti : TI) (env : Env) (dsts : List (Option Tmp)) : List Oper → AS → (AS → Prop) → Prop
  | [], σ, K => K σ
  | o :: r, σ, K => match o.guard with
    | none => (match effQ nt ti env σ o with
      | some (p, σ') => p ∧ evalQ nt ti env dsts r σ' K
      | none => False)
    | some (j, gb) => match gdst dsts j with
      | none => False
      | some d => match lkS σ.sl d with
        | .v (.bool b) => guardP b gb (match effQ nt ti env ⟨(d, .v (.bool gb)) :: σ.sl, σ.mem, σ.nx⟩ o with
            | some (p, σ') => p ∧ evalQ nt ti env dsts r σ' K
            | none => False)
          (match skipS nt ⟨(d, .v (.bool !gb)) :: σ.sl, σ.mem, σ.nx⟩ o with
            | some σ' => evalQ nt ti env dsts r σ' K
            | none => False)
        | .un => (match skipS nt σ o with
            | some σ' => evalQ nt ti env dsts r σ' K
            | none => False)
        | _ => False

/-! ### Which operations come before which -/
def maskOf (acc : List Nat) : List Edge → Nat
  | [] => 0
  | e :: r => if Region.binds .any e = true then 2 ^ e.on ||| (acc.getD e.on 0 ||| maskOf acc r) else maskOf acc r
def befs : List Oper → List Nat → List Nat
  | [], acc => acc
  | o :: r, acc => befs r (acc ++ [maskOf acc o.after.toList])
def opTmps (o : Oper) : List Tmp := o.op.operands.toList.filterMap fun | .tmp t => some t | _ => none
def names (dsts : List (Option Tmp)) (o : Oper) : List Tmp := o.dst.toList ++ opTmps o ++ (match o.guard with | some (j, _) => (gdst dsts j).toList | none => [])
/-- What a region's text must show: each edge leads back; what two operations share in slots is ordered. -/
def regOk (ops : List Oper) : Bool :=
  let M := befs ops []
  let dsts := ops.map (·.dst)
  (ops.zipIdx.all fun (o, j) => o.after.toList.all fun e => !Region.binds .any e || e.on < j) &&
  (ops.zipIdx.all fun (o, j) => (names dsts o).all fun t => dsts.zipIdx.all fun (d, i) => d != some t || i == j || (if i < j then (M.getD j 0).testBit i else (M.getD i 0).testBit j))
def clash (e f : Ef) : Bool := e.wi.any (fun x => f.ri.contains x || f.wi.contains x) || f.wi.any (fun x => e.ri.contains x)
/-- What was touched twice is ordered. -/
def compat (ops : List Oper) (es : List Ef) : Bool :=
  let M := befs ops []
  es.all fun e => es.all fun f => !(decide (e.i < f.i)) || !(clash e f) || (M.getD f.i 0).testBit e.i

theorem lkM_updL : ∀ (ws : Ws) (l : List (Nat × Option Ent)), lkM (updL l ws) = (lkM l).upd ws := by
  intro ws
  induction ws with
  | nil => intro l; rfl
  | cons p r ih =>
    intro l
    rw [show updL l (p :: r) = updL (p :: l) r from rfl, ih]
    show (lkM (p :: l)).upd r = ((lkM l).set p.1 p.2).upd r
    congr 1
    funext i
    simp only [lkM, MM.set]
    by_cases h : p.1 = i
    · rw [if_pos h, if_pos h.symm]
    · rw [if_neg h, if_neg (Ne.symm h)]
end Go.AE
