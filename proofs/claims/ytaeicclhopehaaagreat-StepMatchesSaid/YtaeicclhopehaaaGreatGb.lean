/- States, and regions as functions on them. What an operation does hangs on its operands, and on the entries that it looks at; what comes last is what stands. A region may go in whatever order its edges allow: it comes to what the text's order comes to. A region, in whatever order. Regions, from the function on states. Code, on states; and a function's contract out of it. A function's contract, out of its code on states. -/
import Derived.Test.YtaeicclhopehaaaGreatGa
import Derived.Deep.LoopGhost
namespace Go.AE
open Go.RowKit
set_option linter.unusedVariables false

def lkS : List (Nat × AV) → Nat → AV
  | [], _ => .junk
  | (k, v) :: r, t => if k = t then v else lkS r t
def lkM : List (Nat × Option Ent) → MM
  | [], _ => none
  | (k, v) :: r, t => if k = t then v else lkM r t
def updL : List (Nat × Option Ent) → Ws → List (Nat × Option Ent)
  | l, [] => l
  | l, p :: r => updL (p :: l) r

structure AS where
  sl : List (Nat × AV)
  mem : List (Nat × Option Ent)
  nx : Nat

def evO (sl : Nat → AV) : Operand → AV
  | .tmp t => sl t
  | .const v => if plainV v = true then .v v else .junk
  | .global _ => .junk
  | .func f => .v (.func (.func f) #[] #[])

def AV.ids : AV → List Nat
  | .ptr id _ => [id]
  | .ep id _ _ _ => [id]
  | .row id => [id]
  | .clo _ i j => [i, j]
  | _ => []
def lids (ev : Operand → AV) : List Operand → List Nat
  | [] => []
  | x :: r => (ev x).ids ++ lids ev r
def calIds (ev : Operand → AV) (c : Call) : List Nat := match c.callee with
  | .value f => (ev f).ids
  | _ => []
/-- The entries that an operation looks at. -/
def opIds (ev : Operand → AV) : Op → List Nat
  | .load _ p => (ev p).ids
  | .indexAddr _ x _ => (ev x).ids
  | .store _ p x => (ev p).ids ++ (ev x).ids
  | .slice _ x _ _ _ => (ev x).ids
  | .box _ x => (ev x).ids
  | .build _ ps => lids ev (ps.toList.map (·.2))
  | .buildSlice _ _ ps => lids ev (ps.toList.map (·.2))
  | .call c => lids ev c.args.toList ++ calIds ev c
  | _ => []

/-- An operation that was carried out: its number, what it looked at, what it wrote. -/
structure Ef where
  i : Nat
  ri : List Nat
  wi : List Nat

def putS (nt : Nat) (sl : List (Nat × AV)) : Option Tmp → AV → Option (List (Nat × AV))
  | none, _ => some sl
  | some d, r => if d < nt then some ((d, r) :: sl) else none

def effR (nt : Nat) (ti : TI) (env : Env) (σ : AS) (o : Oper) (i : Nat) : Option (Prop × AS × Ef) :=
  match opEff ti env (evO (lkS σ.sl)) (lkM σ.mem) σ.nx o.op with
  | some (p, r, ws) => match putS nt σ.sl o.dst r with
    | some sl => some (p, ⟨sl, updL σ.mem ws, σ.nx + 1⟩, ⟨i, opIds (evO (lkS σ.sl)) o.op, ws.map (·.1)⟩)
    | none => none
  | none => none
def effQ (nt : Nat) (ti : TI) (env : Env) (σ : AS) (o : Oper) : Option (Prop × AS) :=
  match opEff ti env (evO (lkS σ.sl)) (lkM σ.mem) σ.nx o.op with
  | some (p, r, ws) => match putS nt σ.sl o.dst r with
    | some sl => some (p, ⟨sl, updL σ.mem ws, σ.nx + 1⟩)
    | none => none
  | none => none
def skipS (nt : Nat) (σ : AS) (o : Oper) : Option AS :=
  match putS nt σ.sl o.dst .un with
  | some sl => some ⟨sl, σ.mem, σ.nx⟩
  | none => none

def gdst (dsts : List (Option Tmp)) (j : Nat) : Option Tmp := dsts.getD j none

/-- Carried out where b = gb, passed over elsewhere. -/
def guardP (b gb : Bool) (A B : Prop) : Prop := (b = gb → A) ∧ (b = !gb → B)
theorem guardP_tt {A B : Prop} : guardP true true A B = A := by simp [guardP]
theorem guardP_tf {A B : Prop} : guardP true false A B = B := by simp [guardP]
theorem guardP_ft {A B : Prop} : guardP false true A B = B := by simp [guardP]
theorem guardP_ff {A B : Prop} : guardP false false A B = A := by simp [guardP]
theorem guardP_t {b : Bool} {A B : Prop} : guardP b true A B = ((b = true → A) ∧ (b = false → B)) := rfl
theorem guardP_f {b : Bool} {A B : Prop} : guardP b false A B = ((b = false → A) ∧ (b = true → B)) := rfl
/-- A region, in the order of the text, telling what each operation touched. -/
def evalR (nt : Nat) (ti : TI) (env : Env) (dsts : List (Option Tmp)) : Nat → List Oper → AS → List Ef → (AS → List Ef → Prop) → Prop
  | _, [], σ, es, K => K σ es
  | i, o :: r, σ, es, K => match o.guard with
    | none => (match effR nt ti env σ o i with
      | some (p, σ', e) => p ∧ evalR nt ti env dsts (i + 1) r σ' (es ++ [e]) K
      | none => False)
    | some (j, gb) => match gdst dsts j with
      | none => False
      | some d => match lkS σ.sl d with
        | .v (.bool b) => guardP b gb (match effR nt ti env ⟨(d, .v (.bool gb)) :: σ.sl, σ.mem, σ.nx⟩ o i with
            | some (p, σ', e) => p ∧ evalR nt ti env dsts (i + 1) r σ' (es ++ [e]) K
            | none => False)
          (match skipS nt ⟨(d, .v (.bool !gb)) :: σ.sl, σ.mem, σ.nx⟩ o with
            | some σ' => evalR nt ti env dsts (i + 1) r σ' es K
            | none => False)
        | .un => (match skipS nt σ o with
            | some σ' => evalR nt ti env dsts (i + 1) r σ' es K
            | none => False)
        | _ => False
/-- The same, of a region whose order is the text's. -/
def evalQ (nt : Nat) (ti : TI) (env : Env) (dsts : List (Option Tmp)) : List Oper → AS → (AS → Prop) → Prop
  | [], σ, K => K σ
  | o :: r, σ, K => match o.guard with
    | none => (match effQ nt ti env σ o with
      | some (p, σ') => p ∧ evalQ nt ti env dsts r σ' K
      | none => False)
    | some (j, gb) => match gdst dsts j with
      | none => False
      | some d => match lkS σ.sl d with
        | .v (.bool b) => guardP b gb (match effQ nt ti env ⟨(d, .v (.bool gb)) :: σ.sl, σ.mem, σ.nx⟩ o with
            | some (p, σ') => p ∧ evalQ nt ti env dsts r σ' K
            | none => False)
          (match skipS nt ⟨(d, .v (.bool !gb)) :: σ.sl, σ.mem, σ.nx⟩ o with
            | some σ' => evalQ nt ti env dsts r σ' K
            | none => False)
        | .un => (match skipS nt σ o with
            | some σ' => evalQ nt ti env dsts r σ' K
            | none => False)
        | _ => False

/-! ### Which operations come before which -/
def maskOf (acc : List Nat) : List Edge → Nat
  | [] => 0
  | e :: r => if Region.binds .any e = true then 2 ^ e.on ||| (acc.getD e.on 0 ||| maskOf acc r) else maskOf acc r
def befs : List Oper → List Nat → List Nat
  | [], acc => acc
  | o :: r, acc => befs r (acc ++ [maskOf acc o.after.toList])
def opTmps (o : Oper) : List Tmp := o.op.operands.toList.filterMap fun | .tmp t => some t | _ => none
def names (dsts : List (Option Tmp)) (o : Oper) : List Tmp := o.dst.toList ++ opTmps o ++ (match o.guard with | some (j, _) => (gdst dsts j).toList | none => [])
/-- What a region's text must show: each edge leads back; what two operations share in slots is ordered. -/
def regOk (ops : List Oper) : Bool :=
  let M := befs ops []
  let dsts := ops.map (·.dst)
  (ops.zipIdx.all fun (o, j) => o.after.toList.all fun e => !Region.binds .any e || e.on < j) &&
  (ops.zipIdx.all fun (o, j) => (names dsts o).all fun t => dsts.zipIdx.all fun (d, i) => d != some t || i == j || (if i < j then (M.getD j 0).testBit i else (M.getD i 0).testBit j))
def clash (e f : Ef) : Bool := e.wi.any (fun x => f.ri.contains x || f.wi.contains x) || f.wi.any (fun x => e.ri.contains x)
/-- What was touched twice is ordered. -/
def compat (ops : List Oper) (es : List Ef) : Bool :=
  let M := befs ops []
  es.all fun e => es.all fun f => !(decide (e.i < f.i)) || !(clash e f) || (M.getD f.i 0).testBit e.i

theorem lkM_updL : ∀ (ws : Ws) (l : List (Nat × Option Ent)), lkM (updL l ws) = (lkM l).upd ws := by
  intro ws
  induction ws with
  | nil => intro l; rfl
  | cons p r ih =>
    intro l
    rw [show updL l (p :: r) = updL (p :: l) r from rfl, ih]
    show (lkM (p :: l)).upd r = ((lkM l).set p.1 p.2).upd r
    congr 1
    funext i
    simp only [lkM, MM.set]
    by_cases h : p.1 = i
    · rw [if_pos h, if_pos h.symm]
    · rw [if_neg h, if_neg (Ne.symm h)]
end Go.AE

/- What an operation does hangs on its operands, and on the entries that it looks at; what comes last is what stands. -/
namespace Go.AE
open Go.RowKit
set_option linter.unusedVariables false

theorem MM.upd_agree : ∀ (ws : Ws) {m m' : MM} {id : Nat}, m id = m' id → m.upd ws id = m'.upd ws id := by
  intro ws
  induction ws with
  | nil => intro m m' id h; exact h
  | cons p r ih =>
    intro m m' id h
    refine ih ?_
    simp only [MM.set]
    split
    · rfl
    · exact h

theorem pub_congr {m m' : MM} {a : AV} (h : ∀ id ∈ a.ids, m id = m' id) : pub m a = pub m' a := by
  cases a <;> first | rfl | skip
  rename_i id
  simp only [pub, h id (by simp [AV.ids])]
theorem pubs_congr {ti : TI} {ev : Operand → AV} : ∀ {l : List Operand} {ts : List TypeId} {m m' : MM}, (∀ id ∈ lids ev l, m id = m' id) → pubs ti m ts (l.map ev) = pubs ti m' ts (l.map ev) := by
  intro l
  induction l with
  | nil => intro ts m m' h; rfl
  | cons x r ih =>
    intro ts m m' h
    simp only [List.map_cons, pubs]
    rw [pub_congr (m := m) (m' := m') (fun id hid => h id (by simp [lids, hid]))]
    split
    · rw [ih (fun id hid => MM.upd_agree _ (h id (by simp [lids, hid])))]
    · rfl
theorem lids_congr {ev ev' : Operand → AV} : ∀ {l : List Operand}, (∀ x ∈ l, ev x = ev' x) → lids ev l = lids ev' l := by
  intro l
  induction l with
  | nil => intro h; rfl
  | cons x r ih => intro h; simp only [lids]; rw [h x (by simp), ih (fun y hy => h y (by simp [hy]))]

theorem appEff_congr {ti : TI} {m m' : MM} {nid : Nat} {t : TypeId} {s x : AV} (h : ∀ id ∈ s.ids ++ x.ids, m id = m' id) : appEff ti m nid t s x = appEff ti m' nid t s x := by
  unfold appEff
  rw [pub_congr (m := m) (m' := m') (a := x) (fun id hid => h id (by simp [hid]))]
  split
  · rfl
  · split
    · rfl
    · split
      · split
        · rfl
        · cases s <;> first | rfl | skip
          · rename_i y
            cases y <;> first | rfl | skip
            rename_i a n c
            cases a <;> cases n <;> cases c <;> rfl
          · rename_i id
            try dsimp only
            rw [MM.upd_agree _ (h id (by simp [AV.ids]))]
      · rfl

theorem lids_mem {ev : Operand → AV} : ∀ {l : List Operand} {x : Operand} {id : Nat}, x ∈ l → id ∈ (ev x).ids → id ∈ lids ev l := by
  intro l
  induction l with
  | nil => intro x id h; cases h
  | cons a r ih =>
    intro x id h hid
    simp only [lids, List.mem_append]
    rcases List.mem_cons.1 h with rfl | h
    · exact .inl hid
    · exact .inr (ih h hid)
theorem lids_of {ev : Operand → AV} : ∀ {l : List Operand} {id : Nat}, id ∈ lids ev l → ∃ x ∈ l, id ∈ (ev x).ids := by
  intro l
  induction l with
  | nil => intro id h; cases h
  | cons a r ih =>
    intro id h
    simp only [lids, List.mem_append] at h
    rcases h with h | h
    · exact ⟨a, List.mem_cons_self, h⟩
    · obtain ⟨x, h1, h2⟩ := ih h; exact ⟨x, List.mem_cons_of_mem _ h1, h2⟩
theorem lids_sub {ev : Operand → AV} {l l' : List Operand} (h : ∀ x ∈ l', x ∈ l) : ∀ id ∈ lids ev l', id ∈ lids ev l := by
  intro id hid
  obtain ⟨x, h1, h2⟩ := lids_of hid
  exact lids_mem (h x h1) h2
theorem cloEff_congr {ti : TI} {ev : Operand → AV} {m m' : MM} {T1 T2 : TypeId} {cc : Cct} {i j : Nat} {ts : List TypeId} {l : List Operand} (h2 : ∀ id ∈ lids ev l, m id = m' id) (hi : m i = m' i) (hj : m j = m' j) :
    cloEff ti m T1 T2 cc i j ts (l.map ev) = cloEff ti m' T1 T2 cc i j ts (l.map ev) := by
  unfold cloEff
  rw [pubs_congr (m := m) (m' := m') (ev := ev) h2]
  split
  · rename_i as ws hps
    rw [MM.upd_agree ws hi, MM.upd_agree ws hj]
  · rfl
theorem callEff_congr {ti : TI} {env : Env} {ev ev' : Operand → AV} {m m' : MM} {nid : Nat} {c : Call} (h1 : ∀ x ∈ c.operands.toList, ev x = ev' x) (h2' : ∀ id ∈ lids ev c.args.toList ++ calIds ev c, m id = m' id) : callEff ti env ev m nid c = callEff ti env ev' m' nid c := by
  have h2 : ∀ id ∈ lids ev c.args.toList, m id = m' id := fun id hid => h2' id (List.mem_append_left _ hid)
  have h3 : ∀ id ∈ calIds ev c, m id = m' id := fun id hid => h2' id (List.mem_append_right _ hid)
  clear h2'
  obtain ⟨callee, args, ats⟩ := c
  have ha : ∀ x ∈ args.toList, ev x = ev' x := fun x hx => h1 x (by simp [Call.operands]; right; simpa using hx)
  have hm : args.toList.map ev = args.toList.map ev' := List.map_congr_left ha
  cases callee with
  | value f =>
    have hf : ev f = ev' f := h1 f (by simp [Call.operands])
    simp only [callEff, hf]
    split
    · rename_i q g i j hfe
      have hfe2 := cloOf_eq hfe
      have hi : m i = m' i := h3 i (by simp only [calIds, hf, hfe2, AV.ids]; simp)
      have hj : m j = m' j := h3 j (by simp only [calIds, hf, hfe2, AV.ids]; simp)
      split
      · rw [← hm]
        exact cloEff_congr h2 hi hj
      · rfl
    · split
      · split
        · rw [pubs_congr (m := m) (m' := m') (ev := ev) h2, hm]
        · split
          · split
            · rename_i x hx
              have hxm : x ∈ args.toList := List.mem_of_getLast? hx
              rw [← ha x hxm]
              split
              · rename_i g2 i j hxe
                split
                · have hsub : ∀ y ∈ args.toList.dropLast, y ∈ args.toList := fun y hy => List.dropLast_subset _ hy
                  have hm2 : args.toList.dropLast.map ev = args.toList.dropLast.map ev' := List.map_congr_left (fun y hy => ha y (hsub y hy))
                  have hin : ∀ id ∈ (ev x).ids, id ∈ lids ev args.toList := fun id hid => lids_mem hxm hid
                  rw [← hm2]
                  exact cloEff_congr (fun id hid => h2 id (lids_sub hsub id hid)) (h2 i (hin i (by rw [hxe]; simp [AV.ids]))) (h2 j (hin j (by rw [hxe]; simp [AV.ids])))
                · rfl
              · rfl
            · rfl
          · rfl
      · rfl
  | invoke r nm => rfl
  | builtin b =>
    cases b <;> try rfl
    case len =>
      simp only [callEff]
      split
      · rename_i x t e1 e2
        have hx : ev x = ev' x := ha x (by rw [e1]; simp)
        have h2' : ∀ id ∈ (ev x).ids, m id = m' id := fun id hid => h2 id (by simp only [e1, lids]; simp [hid])
        rw [← hx]
        split
        · cases hv : ev x <;> try rfl
          · rename_i y
            cases y <;> first | rfl | skip
            rename_i a n c
            cases a <;> cases n <;> cases c <;> rfl
          · rename_i id
            try dsimp only
            rw [h2' id (by rw [hv]; simp [AV.ids])]
        · rfl
      · rfl
    case append =>
      simp only [callEff]
      split
      · rename_i s x t t' e1 e2
        have hs : ev s = ev' s := ha s (by rw [e1]; simp)
        have hx : ev x = ev' x := ha x (by rw [e1]; simp)
        rw [← hs, ← hx]
        split
        · exact appEff_congr (fun id hid => h2 id (by simp only [e1, lids]; simpa using hid))
        · rfl
      · rfl
    case max =>
      simp only [callEff]
      split
      · rename_i x y e1
        rw [ha x (by rw [e1]; simp), ha y (by rw [e1]; simp)]
      · rfl
    case min =>
      simp only [callEff]
      split
      · rename_i x y e1
        rw [ha x (by rw [e1]; simp), ha y (by rw [e1]; simp)]
      · rfl

theorem intOp_congr {ev ev' : Operand → AV} {o : Option Operand} {d : Int} (h : ∀ x, o = some x → ev x = ev' x) : intOp o ev d = intOp o ev' d := by
  cases o with
  | none => rfl
  | some x => simp only [intOp, h x rfl]

theorem mkfEff_congr {ev ev' : Operand → AV} {fn : Fn} {l l' : List Operand} (h : ∀ x ∈ l', ev x = ev' x) : mkfEff ev fn l l' = mkfEff ev' fn l l' := by
  unfold mkfEff
  cases fn <;> try rfl
  cases l with
  | cons a r => rfl
  | nil =>
    match l', h with
    | [x, y], h =>
      simp only
      rw [h x (by simp), h y (by simp)]
    | [], _ => rfl
    | [_], _ => rfl
    | _ :: _ :: _ :: _, _ => rfl
theorem opEff_congr {ti : TI} {env : Env} {ev ev' : Operand → AV} {m m' : MM} {nid : Nat} {op : Op} (h1 : ∀ x ∈ op.operands.toList, ev x = ev' x) (h2 : ∀ id ∈ opIds ev op, m id = m' id) : opEff ti env ev m nid op = opEff ti env ev' m' nid op := by
  cases op <;> try rfl
  case move x => simp only [opEff, h1 x (by simp [Op.operands])]
  case assign x => simp only [opEff, h1 x (by simp [Op.operands])]
  case pick c a b => simp only [opEff, h1 c (by simp [Op.operands]), h1 a (by simp [Op.operands]), h1 b (by simp [Op.operands])]
  case box t x =>
    simp only [opEff]
    rw [pub_congr (m := m) (m' := m') (fun id hid => h2 id (by simpa [opIds] using hid)), h1 x (by simp [Op.operands])]
  case build t ps =>
    simp only [opEff]
    have e : ∀ f : Operand → AV, ps.toList.map (fun p => f p.2) = (ps.toList.map (·.2)).map f := fun f => by simp
    rw [e ev, e ev', pubs_congr (m := m) (m' := m') (ev := ev) (fun id hid => h2 id (by simpa [opIds] using hid)), List.map_congr_left (fun x hx => h1 x (by simpa [Op.operands] using hx))]
  case buildSlice t n ps =>
    simp only [opEff]
    have e : ∀ f : Operand → AV, ps.toList.map (fun p => f p.2) = (ps.toList.map (·.2)).map f := fun f => by simp
    rw [e ev, e ev', pubs_congr (m := m) (m' := m') (ev := ev) (fun id hid => h2 id (by simpa [opIds] using hid)), List.map_congr_left (fun x hx => h1 x (by simpa [Op.operands] using hx))]
  case load t p =>
    simp only [opEff]
    have hp := h1 p (by simp [Op.operands])
    rw [← hp]
    split
    · cases hv : ev p <;> try rfl
      · rename_i id off; (try dsimp only); rw [h2 id (by simp [opIds, hv, AV.ids])]
      · rename_i id es i off; (try dsimp only); rw [h2 id (by simp [opIds, hv, AV.ids])]
    · rfl
  case store t p x =>
    simp only [opEff]
    have hp := h1 p (by simp [Op.operands])
    have hx := h1 x (by simp [Op.operands])
    rw [pub_congr (m := m) (m' := m') (fun id hid => h2 id (by simp [opIds, hid])), hx, ← hp]
    split
    · split
      · cases hv : ev p <;> try rfl
        · rename_i id off; (try dsimp only); rw [MM.upd_agree _ (h2 id (by simp [opIds, hv, AV.ids]))]
        · rename_i id es i off
          cases off with
          | zero => rename_i n b x' ws e1 e2 e3; have := MM.upd_agree ws (h2 id (by simp [opIds, hv, AV.ids])); simp only [this]
          | succ n => rfl
      · rfl
    · rfl
  case binOp op t x y t2 => simp only [opEff, h1 x (by simp [Op.operands]), h1 y (by simp [Op.operands])]
  case unOp op t x => simp only [opEff, h1 x (by simp [Op.operands])]
  case convert s d x => simp only [opEff, h1 x (by simp [Op.operands])]
  case field t x j => simp only [opEff, h1 x (by simp [Op.operands])]
  case lookup t x k c =>
    cases c with
    | true => rfl
    | false => simp only [opEff, h1 x (by simp [Op.operands]), h1 k (by simp [Op.operands])]
  case makeSlice t x y => simp only [opEff, h1 x (by simp [Op.operands]), h1 y (by simp [Op.operands])]
  case slice t x lo hi mx =>
    cases mx with
    | some _ => rfl
    | none =>
      simp only [opEff]
      rw [pub_congr (m := m) (m' := m') (fun id hid => h2 id (by simpa [opIds] using hid)), h1 x (by simp [Op.operands])]
      have hlo : ∀ d, intOp lo ev d = intOp lo ev' d := fun d => intOp_congr (fun x hx => h1 x (by subst hx; simp [Op.operands]))
      have hhi : ∀ d, intOp hi ev d = intOp hi ev' d := fun d => intOp_congr (fun x hx => h1 x (by subst hx; simp [Op.operands]))
      simp only [hlo, hhi]
  case fieldAddr s x j => simp only [opEff, h1 x (by simp [Op.operands])]
  case indexAddr t x i =>
    simp only [opEff]
    have hx := h1 x (by simp [Op.operands])
    have hi := h1 i (by simp [Op.operands])
    rw [← hx, ← hi]
    split
    · cases hv : ev x <;> try rfl
      rename_i id
      try dsimp only
      rw [h2 id (by simp [opIds, hv, AV.ids])]
    · rfl
  case extract x i => simp only [opEff, h1 x (by simp [Op.operands])]
  case call c => exact callEff_congr (fun x hx => h1 x hx) h2
  case makeFunc fn first cap =>
    simp only [opEff]
    exact mkfEff_congr (fun x hx => h1 x (by simp only [Op.operands]; simp; right; simpa using hx))

/-! ### What was written last -/
section
variable {E V : Type}
def lastW (wr : E → Option V) (L : Nat → Bool) : Nat → List E → V → V
  | _, [], v => v
  | i, e :: r, v => lastW wr L (i + 1) r (if L i = true then (wr e).getD v else v)
theorem lastW_agree (wr : E → Option V) {L L' : Nat → Bool} : ∀ {es : List E} {i : Nat} {v : V}, (∀ k (h : k < es.length), (wr es[k]).isSome = true → L (i + k) = L' (i + k)) → lastW wr L i es v = lastW wr L' i es v := by
  intro es
  induction es with
  | nil => intro i v h; rfl
  | cons e r ih =>
    intro i v h
    simp only [lastW]
    have h0 : (if L i = true then (wr e).getD v else v) = (if L' i = true then (wr e).getD v else v) := by
      cases hw : wr e with
      | none => simp
      | some u => rw [show L i = L' i from h 0 (by simp) (by simp [hw])]
    rw [h0]
    exact ih (fun k hk hs => by have := h (k + 1) (by simpa using hk) (by simpa using hs); rwa [show i + (k + 1) = i + 1 + k by omega] at this)
theorem lastW_none (wr : E → Option V) {L : Nat → Bool} : ∀ {es : List E} {i : Nat} {v : V}, (∀ k (h : k < es.length), (wr es[k]).isSome = true → L (i + k) = false) → lastW wr L i es v = v := by
  intro es
  induction es with
  | nil => intro i v h; rfl
  | cons e r ih =>
    intro i v h
    simp only [lastW]
    have h0 : (if L i = true then (wr e).getD v else v) = v := by
      cases hw : wr e with
      | none => simp
      | some u => rw [show L i = false from h 0 (by simp) (by simp [hw])]; simp
    rw [h0]
    exact ih (fun k hk hs => by have := h (k + 1) (by simpa using hk) (by simpa using hs); rwa [show i + (k + 1) = i + 1 + k by omega] at this)
/-- One more, and nothing behind it has come yet. -/
theorem lastW_ins (wr : E → Option V) {L L' : Nat → Bool} : ∀ {es : List E} {i j : Nat} {v : V} (hj : j < es.length), (∀ k, L' k = (L k || k == i + j)) → (∀ k (h : k < es.length), j < k → (wr es[k]).isSome = true → L (i + k) = false) →
    lastW wr L' i es v = (wr es[j]).getD (lastW wr L i es v) := by
  intro es
  induction es with
  | nil => intro i j v hj; simp at hj
  | cons e r ih =>
    intro i j v hj hL hlater
    simp only [lastW]
    cases j with
    | zero =>
      have h1 : L' i = true := by rw [hL]; simp
      rw [h1, if_pos rfl]
      have hl' : ∀ v, lastW wr L' (i + 1) r v = v := fun v => lastW_none wr (fun k hk hs => by
        have := hlater (k + 1) (by simpa using hk) (by omega) (by simpa using hs)
        rw [hL, show i + 1 + k = i + (k + 1) by omega, this]; simp)
      have hl : ∀ v, lastW wr L (i + 1) r v = v := fun v => lastW_none wr (fun k hk hs => by
        have := hlater (k + 1) (by simpa using hk) (by omega) (by simpa using hs)
        rwa [show i + 1 + k = i + (k + 1) by omega])
      rw [hl', hl]
      simp only [List.getElem_cons_zero]
      cases wr e with
      | none => simp
      | some u => simp
    | succ j =>
      have h1 : L' i = L i := by rw [hL]; simp
      rw [h1]
      have := ih (i := i + 1) (j := j) (v := if L i = true then (wr e).getD v else v) (by simpa using hj) (fun k => by rw [hL, show i + 1 + j = i + (j + 1) by omega]) (fun k hk hjk hs => by
        have := hlater (k + 1) (by simpa using hk) (by omega) (by simpa using hs)
        rwa [show i + 1 + k = i + (k + 1) by omega])
      rw [this]
      simp
end
end Go.AE

/- A region may go in whatever order its edges allow: it comes to what the text's order comes to. -/
namespace Go.AE
open Go.RowKit
set_option linter.unusedVariables false

/-! ### The order -/
theorem maskOf_bit {acc : List Nat} {i : Nat} : ∀ {es : List Edge}, (maskOf acc es).testBit i = true → ∃ e ∈ es, Region.binds .any e = true ∧ (i = e.on ∨ (acc.getD e.on 0).testBit i = true) := by
  intro es
  induction es with
  | nil => intro h; simp [maskOf] at h
  | cons e r ih =>
    intro h
    simp only [maskOf] at h
    split at h
    · rename_i hb
      simp only [Nat.testBit_or, Bool.or_eq_true, Nat.testBit_two_pow, decide_eq_true_eq] at h
      rcases h with h | h | h
      · exact ⟨e, by simp, hb, .inl h.symm⟩
      · exact ⟨e, by simp, hb, .inr h⟩
      · obtain ⟨e', h1, h2⟩ := ih h; exact ⟨e', by simp [h1], h2⟩
    · obtain ⟨e', h1, h2⟩ := ih h; exact ⟨e', by simp [h1], h2⟩

theorem befs_ok : ∀ (r : List Oper) (pre : List Oper) (acc : List Nat), acc.length = pre.length →
    (∀ j (hj : j < pre.length), ∀ i, (acc.getD j 0).testBit i = true → ∃ e ∈ pre[j].after.toList, Region.binds .any e = true ∧ (i = e.on ∨ (e.on < j ∧ (acc.getD e.on 0).testBit i = true))) →
    ∀ j (hj : j < (pre ++ r).length), ∀ i, ((befs r acc).getD j 0).testBit i = true → ∃ e ∈ (pre ++ r)[j].after.toList, Region.binds .any e = true ∧ (i = e.on ∨ (e.on < j ∧ ((befs r acc).getD e.on 0).testBit i = true)) := by
  intro r
  induction r with
  | nil => intro pre acc hl h; simpa [befs] using h
  | cons o r ih =>
    intro pre acc hl h
    have key := ih (pre ++ [o]) (acc ++ [maskOf acc o.after.toList]) (by simp [hl]) ?_
    · intro j hj i hb
      have := key j (by simpa using hj) i hb
      simpa [befs] using this
    · intro j hj i hb
      by_cases hjl : j < pre.length
      · have hacc : (acc ++ [maskOf acc o.after.toList]).getD j 0 = acc.getD j 0 := by
          simp [List.getD_eq_getElem?_getD, List.getElem?_append_left (show j < acc.length by omega)]
        rw [hacc] at hb
        obtain ⟨e, h1, h2, h3⟩ := h j hjl i hb
        refine ⟨e, by rw [List.getElem_append_left hjl]; exact h1, h2, ?_⟩
        rcases h3 with h3 | ⟨h3, h4⟩
        · exact .inl h3
        · refine .inr ⟨h3, ?_⟩
          have : (acc ++ [maskOf acc o.after.toList]).getD e.on 0 = acc.getD e.on 0 := by
            simp [List.getD_eq_getElem?_getD, List.getElem?_append_left (show e.on < acc.length by omega)]
          rw [this]; exact h4
      · have hje : j = pre.length := by simp at hj; omega
        subst hje
        have hacc : (acc ++ [maskOf acc o.after.toList]).getD pre.length 0 = maskOf acc o.after.toList := by
          simp [List.getD_eq_getElem?_getD, ← hl]
        rw [hacc] at hb
        obtain ⟨e, h1, h2, h3⟩ := maskOf_bit hb
        refine ⟨e, by simpa using h1, h2, ?_⟩
        rcases h3 with h3 | h3
        · exact .inl h3
        · by_cases hlt : e.on < acc.length
          · refine .inr ⟨by omega, ?_⟩
            have : (acc ++ [maskOf acc o.after.toList]).getD e.on 0 = acc.getD e.on 0 := by
              simp [List.getD_eq_getElem?_getD, List.getElem?_append_left hlt]
            rw [this]; exact h3
          · rw [List.getD_eq_getElem?_getD, List.getElem?_eq_none (by omega)] at h3; simp at h3

/-- What has come is closed: whatever must come ahead of it has come. -/
def Closed (ops : List Oper) (L : Nat → Bool) : Prop := ∀ k (h : k < ops.length), L k = true → ∀ e ∈ ops[k].after.toList, Region.binds .any e = true → L e.on = true
theorem anc_listed {ops : List Oper} {L : Nat → Bool} (hc : Closed ops L) : ∀ (j : Nat) (hj : j < ops.length), (∀ e ∈ ops[j].after.toList, Region.binds .any e = true → L e.on = true) → ∀ i, ((befs ops []).getD j 0).testBit i = true → L i = true := by
  intro j
  induction j using Nat.strongRecOn with
  | _ j ih =>
    intro hj hr i hb
    obtain ⟨e, h1, h2, h3⟩ := befs_ok ops [] [] rfl (fun j hj => by simp at hj) j (by simpa using hj) i hb
    have h1' : e ∈ ops[j].after.toList := by simpa using h1
    have hon := hr e h1' h2
    rcases h3 with rfl | ⟨h3, h4⟩
    · exact hon
    · exact ih e.on h3 (by omega) (fun e' he' hb' => hc e.on (by omega) hon e' he' hb') i h4

/-! ### Entries -/
structure En where
  o : Oper
  run : Bool
  r : AV
  ws : Ws
  nid : Nat
  ri : List Nat
def wrS (t : Nat) (e : En) : Option AV := if e.o.dst = some t then some (if e.run = true then e.r else .un) else none
def lastOf : Ws → Nat → Option (Option Ent)
  | [], _ => none
  | p :: r, id => match lastOf r id with
    | some x => some x
    | none => if id = p.1 then some p.2 else none
def wrM (id : Nat) (e : En) : Option (Option Ent) := if e.run = true then lastOf e.ws id else none
theorem upd_last : ∀ (ws : Ws) (m : MM) (id : Nat), m.upd ws id = (lastOf ws id).getD (m id) := by
  intro ws
  induction ws with
  | nil => intro m id; rfl
  | cons p r ih =>
    intro m id
    rw [show m.upd (p :: r) = (m.set p.1 p.2).upd r from rfl, ih]
    simp only [lastOf]
    cases h : lastOf r id with
    | some x => simp
    | none =>
      simp only [Option.getD_none, MM.set]
      split <;> simp
theorem lastOf_mem : ∀ {ws : Ws} {id : Nat}, (lastOf ws id).isSome = true → id ∈ ws.map (·.1) := by
  intro ws
  induction ws with
  | nil => intro id h; simp [lastOf] at h
  | cons p r ih =>
    intro id h
    simp only [lastOf] at h
    cases hr : lastOf r id with
    | some x => simp [ih (by rw [hr]; rfl : (lastOf r id).isSome = true)]
    | none =>
      rw [hr] at h
      simp only at h
      split at h
      · rename_i e; simp [e]
      · cases h

def slAt (es : List En) (sl0 : Nat → AV) (L : Nat → Bool) (t : Nat) : AV := lastW (wrS t) L 0 es (sl0 t)
def mAt (es : List En) (m0 : MM) (L : Nat → Bool) : MM := fun id => lastW (wrM id) L 0 es (m0 id)
def lt (j : Nat) (k : Nat) : Bool := decide (k < j)

/-- The guard's word on an entry. -/
def gOk (dsts : List (Option Tmp)) (sl : Nat → AV) (e : En) : Prop :=
  match e.o.guard with
  | none => e.run = true
  | some (g, gb) => ∃ d, gdst dsts g = some d ∧ ((e.run = true ∧ sl d = .v (.bool gb)) ∨ (e.run = false ∧ (sl d = .v (.bool !gb) ∨ sl d = .un)))

/-- The entries are what the text's order comes to. -/
structure TV (nt : Nat) (ti : TI) (env : Env) (ops : List Oper) (es : List En) (sl0 : Nat → AV) (m0 : MM) (n0 n1 : Nat) : Prop where
  len : es.length = ops.length
  op : ∀ j (h : j < es.length), ops[j]'(len ▸ h) = es[j].o
  dst : ∀ j (h : j < es.length) d, es[j].o.dst = some d → d < nt
  guard : ∀ j (h : j < es.length), gOk (ops.map (·.dst)) (slAt es sl0 (lt j)) es[j]
  eff : ∀ j (h : j < es.length), es[j].run = true → es[j].ri = opIds (evO (slAt es sl0 (lt j))) es[j].o.op ∧ ∃ p, opEff ti env (evO (slAt es sl0 (lt j))) (mAt es m0 (lt j)) es[j].nid es[j].o.op = some (p, es[j].r, es[j].ws) ∧ p
  nid : ∀ j (h : j < es.length), es[j].run = true → n0 ≤ es[j].nid ∧ es[j].nid < n1
  ndist : ∀ i j (hi : i < es.length) (hj : j < es.length), i < j → es[i].run = true → es[j].run = true → es[i].nid < es[j].nid

/-- What two entries share is ordered. -/
def Apart (ops : List Oper) (es : List En) : Prop :=
  ∀ i j (hi : i < es.length) (hj : j < es.length), i < j → es[i].run = true → es[j].run = true →
    (∃ id, (id ∈ es[i].ws.map (·.1) ∧ (id ∈ es[j].ri ∨ id ∈ es[j].ws.map (·.1))) ∨ (id ∈ es[j].ws.map (·.1) ∧ id ∈ es[i].ri)) → ((befs ops []).getD j 0).testBit i = true

theorem regOk_edges {ops : List Oper} (h : regOk ops = true) {j : Nat} (hj : j < ops.length) {e : Edge} (he : e ∈ ops[j].after.toList) (hb : Region.binds .any e = true) : e.on < j := by
  simp only [regOk, Bool.and_eq_true, List.all_eq_true] at h
  have := h.1 (ops[j], j) (by rw [List.mem_zipIdx_iff_getElem?]; simp [hj]) e he
  simpa [hb] using this
theorem regOk_slots {ops : List Oper} (h : regOk ops = true) {i j : Nat} (hi : i < ops.length) (hj : j < ops.length) (hne : i ≠ j) {t : Tmp} (ht : t ∈ names (ops.map (·.dst)) ops[j]) (hd : ops[i].dst = some t) :
    (i < j → ((befs ops []).getD j 0).testBit i = true) ∧ (j < i → ((befs ops []).getD i 0).testBit j = true) := by
  simp only [regOk, Bool.and_eq_true, List.all_eq_true] at h
  have h1 := h.2 (ops[j], j) (by rw [List.mem_zipIdx_iff_getElem?]; simp [hj]) t ht (some t, i) (by rw [List.mem_zipIdx_iff_getElem?]; simp [hi, hd])
  simp [hne] at h1
  constructor
  · intro hlt; simpa [hlt] using h1
  · intro hlt; simpa [Nat.not_lt_of_lt hlt] using h1
end Go.AE

/- A region, in whatever order. -/
namespace Go.AE
open Go.RowKit
set_option linter.unusedVariables false
set_option linter.unusedSectionVars false

section
variable {P : Program} {ti : TI} {env : Env} {nt : Nat} {ops : Array Oper} {es : List En} {sl0 : Nat → AV} {m0 : MM} {n0 n1 : Nat} {w0 : World} {F0 : Bs}

theorem mem_opTmps {o : Oper} {t : Tmp} (h : .tmp t ∈ o.op.operands.toList) : t ∈ opTmps o := by
  unfold opTmps
  rw [List.mem_filterMap]
  exact ⟨.tmp t, h, rfl⟩

theorem evO_ok {F : Fz} {G : Gm} {sl : Nat → AV} {a : Act} (hs : ∀ t, RV F G (sl t) (a.tmps.getD t undef)) (x : Operand) : RV F G (evO sl x) (a.eval x) := by
  cases x with
  | tmp t => exact hs t
  | const v =>
    simp only [evO, Act.eval]
    split
    · rename_i h; exact ⟨h, rfl⟩
    · trivial
  | global g => trivial
  | func f => exact ⟨rfl, rfl⟩

theorem evO_congr {sl sl' : Nat → AV} {x : Operand} (h : ∀ t, x = .tmp t → sl t = sl' t) : evO sl x = evO sl' x := by
  cases x with
  | tmp t => exact h t rfl
  | _ => rfl

theorem put_getD (a : Act) (d : Tmp) (v : Value) (h : d < a.tmps.size) (t : Nat) : (a.put (some d) v).tmps.getD t undef = if t = d then v else a.tmps.getD t undef := by
  simp only [Act.put, Array.getD_eq_getD_getElem?, Array.getElem?_setIfInBounds]
  by_cases htd : t = d
  · subst htd; simp [h]
  · rw [if_neg (Ne.symm htd), if_neg htd]

/-- How it stands when the operations L have come. -/
def Jn (w0 : World) (F0 : Bs) (nt : Nat) (ops : Array Oper) (es : List En) (sl0 : Nat → AV) (m0 : MM) (n0 : Nat) (L : Nat → Bool) (a : Act) (w : World) : Prop :=
  ∃ F G, Mem w0 F0 (fun id => id < n0 ∨ ∃ k, ∃ h : k < es.length, L k = true ∧ es[k].run = true ∧ id = es[k].nid) (mAt es m0 L) F G w ∧
    (∀ t, RV F G (slAt es sl0 L t) (a.tmps.getD t undef)) ∧ a.tmps.size = nt ∧ a.defers = []

variable (hreg : regOk ops.toList = true) (tv : TV nt ti env ops.toList es sl0 m0 n0 n1) (hap : Apart ops.toList es)
include hreg tv hap

omit hap in
theorem slot_agree {L : Nat → Bool} (hc : Closed ops.toList L) {j : Nat} (hj : j < es.length) (hLj : L j = false) (hr : ∀ e ∈ (es[j].o.after).toList, Region.binds .any e = true → L e.on = true) {t : Tmp} (ht : t ∈ names (ops.toList.map (·.dst)) es[j].o) :
    slAt es sl0 L t = slAt es sl0 (lt j) t := by
  have hlen := tv.len
  have hopj := tv.op j hj
  refine lastW_agree _ (fun k hk hs => ?_)
  rw [Nat.zero_add]
  have hd : (es[k].o.dst) = some t := by
    unfold wrS at hs
    split at hs
    · assumption
    · cases hs
  have hopk := tv.op k hk
  by_cases hkj : k = j
  · subst hkj; rw [hLj]; simp [lt]
  · have := regOk_slots hreg (i := k) (j := j) (by omega) (by omega) hkj (t := t) (by rw [hopj]; exact ht) (by rw [hopk]; exact hd)
    rcases Nat.lt_or_gt_of_ne hkj with h | h
    · have hb := this.1 h
      have := anc_listed hc j (by omega) (by rw [hopj]; exact hr) k hb
      rw [this]; simp [lt, h]
    · have hb := this.2 h
      simp only [lt, show ¬ k < j by omega, decide_false]
      cases hLk : L k with
      | false => rfl
      | true =>
        have := anc_listed hc k (by omega) (hc k (by omega) hLk) j hb
        rw [hLj] at this; cases this

theorem mem_agree {L : Nat → Bool} (hc : Closed ops.toList L) {j : Nat} (hj : j < es.length) (hLj : L j = false) (hr : ∀ e ∈ (es[j].o.after).toList, Region.binds .any e = true → L e.on = true) (hrun : es[j].run = true) {id : Nat} (hid : id ∈ es[j].ri) :
    mAt es m0 L id = mAt es m0 (lt j) id := by
  have hlen := tv.len
  have hopj := tv.op j hj
  refine lastW_agree _ (fun k hk hs => ?_)
  rw [Nat.zero_add]
  have hrk : es[k].run = true ∧ id ∈ es[k].ws.map (·.1) := by
    unfold wrM at hs
    split at hs
    · rename_i h; exact ⟨h, lastOf_mem hs⟩
    · cases hs
  by_cases hkj : k = j
  · subst hkj; rw [hLj]; simp [lt]
  · rcases Nat.lt_or_gt_of_ne hkj with h | h
    · have hb := hap k j hk hj h hrk.1 hrun ⟨id, .inl ⟨hrk.2, .inl hid⟩⟩
      have := anc_listed hc j (by omega) (by rw [hopj]; exact hr) k hb
      rw [this]; simp [lt, h]
    · have hb := hap j k hj hk h hrun hrk.1 ⟨id, .inr ⟨hrk.2, hid⟩⟩
      simp only [lt, show ¬ k < j by omega, decide_false]
      cases hLk : L k with
      | false => rfl
      | true =>
        have := anc_listed hc k (by omega) (hc k (by omega) hLk) j hb
        rw [hLj] at this; cases this

omit hap in
theorem slot_ins {L L' : Nat → Bool} (hc : Closed ops.toList L) {j : Nat} (hj : j < es.length) (hLj : L j = false) (hL' : ∀ k, L' k = (L k || k == j)) (t : Nat) :
    slAt es sl0 L' t = (wrS t es[j]).getD (slAt es sl0 L t) := by
  have hlen := tv.len
  have hopj := tv.op j hj
  by_cases hw : (wrS t es[j]).isSome = true
  · have hdj : es[j].o.dst = some t := by
      unfold wrS at hw
      split at hw
      · assumption
      · cases hw
    refine lastW_ins (wrS t) hj (by simpa using hL') (fun k hk hjk hs => ?_)
    rw [Nat.zero_add]
    have hdk : es[k].o.dst = some t := by
      unfold wrS at hs
      split at hs
      · assumption
      · cases hs
    have hopk := tv.op k hk
    have := regOk_slots hreg (i := j) (j := k) (by omega) (by omega) (by omega) (t := t) (by rw [hopk]; simp [names, hdk]) (by rw [hopj]; exact hdj)
    have hb := this.1 hjk
    cases hLk : L k with
    | false => rfl
    | true =>
      have := anc_listed hc k (by omega) (hc k (by omega) hLk) j hb
      rw [hLj] at this; cases this
  · have h0 : wrS t es[j] = none := by simpa using hw
    rw [h0, Option.getD_none]
    refine lastW_agree _ (fun k hk hs => ?_)
    rw [Nat.zero_add, hL']
    by_cases hkj : k = j
    · subst hkj; rw [h0] at hs; cases hs
    · simp [hkj]

theorem mem_ins {L L' : Nat → Bool} (hc : Closed ops.toList L) {j : Nat} (hj : j < es.length) (hLj : L j = false) (hL' : ∀ k, L' k = (L k || k == j)) (id : Nat) :
    mAt es m0 L' id = (wrM id es[j]).getD (mAt es m0 L id) := by
  have hlen := tv.len
  by_cases hw : (wrM id es[j]).isSome = true
  · have hdj : es[j].run = true ∧ id ∈ es[j].ws.map (·.1) := by
      unfold wrM at hw
      split at hw
      · rename_i h; exact ⟨h, lastOf_mem hw⟩
      · cases hw
    refine lastW_ins (wrM id) hj (by simpa using hL') (fun k hk hjk hs => ?_)
    rw [Nat.zero_add]
    have hdk : es[k].run = true ∧ id ∈ es[k].ws.map (·.1) := by
      unfold wrM at hs
      split at hs
      · rename_i h; exact ⟨h, lastOf_mem hs⟩
      · cases hs
    have hb := hap j k hj hk hjk hdj.1 hdk.1 ⟨id, .inl ⟨hdj.2, .inr hdk.2⟩⟩
    cases hLk : L k with
    | false => rfl
    | true =>
      have := anc_listed hc k (by omega) (hc k (by omega) hLk) j hb
      rw [hLj] at this; cases this
  · have h0 : wrM id es[j] = none := by simpa using hw
    rw [h0, Option.getD_none]
    refine lastW_agree _ (fun k hk hs => ?_)
    rw [Nat.zero_add, hL']
    by_cases hkj : k = j
    · subst hkj; rw [h0] at hs; cases hs
    · simp [hkj]

omit hreg hap in
theorem Jn_step (ok : TIOk P ti) (henv : EnvOk P env) {Q : Exit → Act → World → Prop} {L L' : Nat → Bool} {j : Nat} (hj : j < es.length) (hLj : L j = false) (hL' : ∀ k, L' k = (L k || k == j))
    (hA1 : ∀ t ∈ names (ops.toList.map (·.dst)) es[j].o, slAt es sl0 L t = slAt es sl0 (lt j) t) (hA2 : es[j].run = true → ∀ id ∈ es[j].ri, mAt es m0 L id = mAt es m0 (lt j) id)
    (hA3 : ∀ t, slAt es sl0 L' t = (wrS t es[j]).getD (slAt es sl0 L t)) (hA4 : ∀ id, mAt es m0 L' id = (wrM id es[j]).getD (mAt es m0 L id)) {a : Act} {w : World} (hJ : Jn w0 F0 nt ops es sl0 m0 n0 L a w) {K : Act → World → Prop} (hK : ∀ a' w', Jn w0 F0 nt ops es sl0 m0 n0 L' a' w' → K a' w') : wpOp P ops Q j K a w := by
  have hlen := tv.len
  have hopj := tv.op j hj
  have hjo : ops[j]? = some es[j].o := by
    rw [← hopj]
    have : j < ops.size := by simpa using (by omega : j < ops.toList.length)
    simp [this]
  obtain ⟨F, G, hm, hs, hsz, hdf⟩ := hJ
  unfold wpOp
  rw [hjo]
  dsimp only
  -- the slots, one more having been written
  have slots : ∀ (F' : Fz) (G' : Gm) (v : Value), F.le F' → G.le G' → (∀ d, es[j].o.dst = some d → RV F' G' (if es[j].run = true then es[j].r else .un) v) → ∀ t, RV F' G' (slAt es sl0 L' t) ((a.put es[j].o.dst v).tmps.getD t undef) := by
    intro F' G' v hF hG hv t
    rw [hA3 t]
    cases hd : es[j].o.dst with
    | none =>
      have : wrS t es[j] = none := by simp [wrS, hd]
      rw [this]
      exact (hs t).mono hF hG
    | some d =>
      have hdn := tv.dst j hj d hd
      rw [put_getD _ _ _ (by rw [hsz]; exact hdn)]
      by_cases htd : t = d
      · subst htd
        rw [if_pos rfl]
        have : wrS t es[j] = some (if es[j].run = true then es[j].r else .un) := by simp [wrS, hd]
        rw [this]
        exact hv t hd
      · rw [if_neg htd]
        have : wrS t es[j] = none := by simp [wrS, hd, Ne.symm htd]
        rw [this]
        exact (hs t).mono hF hG
  have psz : ∀ v, (a.put es[j].o.dst v).tmps.size = nt ∧ (a.put es[j].o.dst v).defers = [] := by
    intro v
    cases es[j].o.dst <;> simp [Act.put, hsz, hdf]
  -- the guard
  have hw : Region.wanted es[j].o (yielded ops a.tmps) = es[j].run := by
    have hg := tv.guard j hj
    unfold gOk at hg
    unfold Region.wanted
    cases hgd : es[j].o.guard with
    | none => rw [hgd] at hg; exact hg.symm
    | some p =>
      obtain ⟨g, gb⟩ := p
      rw [hgd] at hg
      obtain ⟨d, h1, h2⟩ := hg
      have hdst : (ops[g]?).bind (·.dst) = some d := by
        simp only [gdst, List.getD_eq_getElem?_getD, List.getElem?_map] at h1
        cases hog : ops.toList[g]? with
        | none => rw [hog] at h1; cases h1
        | some og =>
          rw [hog] at h1
          have : ops[g]? = some og := by simpa using hog
          rw [this]; simpa using h1
      have hval : ∀ x, slAt es sl0 (lt j) d = x → RV F G x (a.tmps.getD d undef) := by
        intro x hx
        have := hA1 d (by simp [names, hgd, h1])
        rw [← hx, ← this]
        exact hs d
      have hy : ∀ b, a.tmps.getD d undef = .bool b → yielded ops a.tmps g = some b := by
        intro b hb
        unfold yielded
        rw [hdst]
        rw [Array.getD_eq_getD_getElem?] at hb
        cases h3 : a.tmps[d]? with
        | none => rw [h3] at hb; cases hb
        | some u => rw [h3] at hb; simp only [Option.getD_some] at hb; subst hb; simp [h3]
      rcases h2 with ⟨h3, h4⟩ | ⟨h3, h4 | h4⟩
      · have := hy gb (RV_v (hval _ h4)).1
        rw [h3]; simp [this]
      · have := hy (!gb) (RV_v (hval _ h4)).1
        rw [h3]; simp [this]
      · have hu : a.tmps.getD d undef = undef := hval _ h4
        have : yielded ops a.tmps g = none := by
          unfold yielded
          rw [hdst]
          rw [Array.getD_eq_getD_getElem?] at hu
          cases h5 : a.tmps[d]? with
          | none => simp [h5]
          | some u => rw [h5] at hu; simp only [Option.getD_some] at hu; subst hu; simp [h5, undef]
        rw [h3]; simp [this]
  rw [hw]
  cases hrun : es[j].run with
  | false =>
    simp only [Bool.false_eq_true, if_false]
    refine hK _ _ ⟨F, G, ?_, ?_, (psz _).1, (psz _).2⟩
    · have hmm : mAt es m0 L' = mAt es m0 L := by
        funext id
        rw [hA4 id]
        simp [wrM, hrun]
      rw [hmm]
      refine hm.wider (fun id h => ?_)
      rcases h with h | ⟨k, hk, h1, h2⟩
      · exact .inl h
      · exact .inr ⟨k, hk, by rw [hL', h1]; rfl, h2⟩
    · exact slots F G undef (Fz.le.refl F) (Gm.le.refl G) (fun d hd => by rw [hrun]; rfl)
  | true =>
    simp only [if_true]
    refine .inl ?_
    obtain ⟨hri, p, heff, hp⟩ := tv.eff j hj hrun
    have hcong : opEff ti env (evO (slAt es sl0 L)) (mAt es m0 L) es[j].nid es[j].o.op = some (p, es[j].r, es[j].ws) := by
      rw [← heff]
      symm
      refine opEff_congr (fun x hx => evO_congr (fun t ht => ?_)) (fun id hid => ?_)
      · subst ht
        exact (hA1 t (by simp [names, mem_opTmps hx])).symm
      · rw [← hri] at hid
        exact (hA2 hrun id hid).symm
    have hnew : ¬ (es[j].nid < n0 ∨ ∃ k, ∃ h : k < es.length, L k = true ∧ es[k].run = true ∧ es[j].nid = es[k].nid) := by
      rintro (h | ⟨k, hk, h1, h2, h3⟩)
      · have := (tv.nid j hj hrun).1; omega
      · have hkj : k ≠ j := by intro e; subst e; rw [hLj] at h1; cases h1
        rcases Nat.lt_or_gt_of_ne hkj with h | h
        · have := tv.ndist k j hk hj h h2 hrun; omega
        · have := tv.ndist j k hj hk h hrun h2; omega
    have hgoal := op_ok (o := es[j].o) ok henv hm (evO_ok hs) hnew hcong hp
    refine hgoal _ _ (fun v w' hafter => hK _ _ ?_)
    obtain ⟨F', G', hF, hG, hv, hm'⟩ := hafter
    refine ⟨F', G', ?_, slots F' G' v hF hG (fun d hd => by rw [hrun]; exact hv), (psz v).1, (psz v).2⟩
    have hmm : mAt es m0 L' = (mAt es m0 L).upd es[j].ws := by
      funext id
      rw [hA4 id, upd_last]
      simp [wrM, hrun]
    rw [hmm]
    refine hm'.wider (fun id h => ?_)
    rcases h with (h | ⟨k, hk, h1, h2⟩) | h
    · exact .inl h
    · exact .inr ⟨k, hk, by rw [hL', h1]; rfl, h2⟩
    · exact .inr ⟨j, hj, by rw [hL']; simp, hrun, h⟩
theorem ready_iff {listed : Array Bool} {j : Nat} : j ∈ Region.ready .any ops listed ↔ ∃ h : j < ops.size, listed.getD j true = false ∧ ∀ e ∈ ops[j].after.toList, Region.binds .any e = true → listed.getD e.on false = true := by
  unfold Region.ready
  rw [List.mem_filter, List.mem_range]
  constructor
  · rintro ⟨h, h1⟩
    refine ⟨h, ?_⟩
    simp only [Bool.and_eq_true, Bool.not_eq_true'] at h1
    refine ⟨h1.1, fun e he hb => ?_⟩
    have h2 := h1.2
    rw [Array.getElem?_eq_getElem h] at h2
    simp only [Option.map_some, Option.getD_some, Array.all_eq_true_iff_forall_mem] at h2
    have := h2 e (by simpa using he)
    simpa [hb] using this
  · rintro ⟨h, h1, h2⟩
    refine ⟨h, ?_⟩
    simp only [Bool.and_eq_true, Bool.not_eq_true']
    refine ⟨h1, ?_⟩
    rw [Array.getElem?_eq_getElem h]
    simp only [Option.map_some, Option.getD_some, Array.all_eq_true_iff_forall_mem]
    intro e he
    cases hb : Region.binds .any e with
    | false => simp
    | true => simpa [hb] using h2 e (by simpa using he) hb

theorem any_ok (ok : TIOk P ti) (henv : EnvOk P env) {Q : Exit → Act → World → Prop} (hQ : ∀ L a w, (∀ k, k < es.length → L k = true) → Jn w0 F0 nt ops es sl0 m0 n0 L a w → Q .normal a w) :
    ∀ (fuel : Nat) (listed : Array Bool) (a : Act) (w : World), listed.size = ops.size → Closed ops.toList (fun k => listed.getD k false) → (List.range ops.size).countP (fun k => !listed.getD k false) ≤ fuel →
      Jn w0 F0 nt ops es sl0 m0 n0 (fun k => listed.getD k false) a w → wpAny P .any ops Q fuel listed a w := by
  have hlen := tv.len
  have hend : ∀ (listed : Array Bool), listed.size = ops.size → Closed ops.toList (fun k => listed.getD k false) → Region.ready .any ops listed = [] → ∀ k, k < ops.size → listed.getD k false = true := by
    intro listed hs hc hr k
    induction k using Nat.strongRecOn with
    | _ k ih =>
      intro hk
      cases hl : listed.getD k false with
      | true => rfl
      | false =>
        have : k ∈ Region.ready .any ops listed := by
          rw [ready_iff hreg tv hap]
          refine ⟨hk, ?_, fun e he hb => ?_⟩
          · rw [Array.getD_eq_getD_getElem?, Array.getElem?_eq_getElem (by omega)] at hl ⊢; simpa using hl
          · have hlt := regOk_edges hreg (j := k) (by simpa using hk) (by simpa using he) hb
            exact ih e.on hlt (by omega)
        rw [hr] at this; cases this
  intro fuel
  induction fuel with
  | zero =>
    intro listed a w hs hc hcnt hJ
    have hall : ∀ k, k < ops.size → listed.getD k false = true := by
      intro k hk
      have h0 : (List.range ops.size).countP (fun k => !listed.getD k false) = 0 := by omega
      rw [List.countP_eq_zero] at h0
      have := h0 k (by simpa using hk)
      simpa using this
    have hr : Region.ready .any ops listed = [] := by
      apply List.eq_nil_iff_forall_not_mem.2
      intro j hj
      obtain ⟨h1, h2, _⟩ := (ready_iff hreg tv hap).1 hj
      have := hall j h1
      rw [Array.getD_eq_getD_getElem?, Array.getElem?_eq_getElem (by omega)] at this h2
      simp at this h2
      rw [this] at h2; cases h2
    exact ⟨hr, hQ _ _ _ (fun k hk => hall k (by simpa [hlen] using hk)) hJ⟩
  | succ fuel ih =>
    intro listed a w hs hc hcnt hJ
    refine ⟨fun hr => hQ _ _ _ (fun k hk => hend listed hs hc hr k (by simpa [hlen] using hk)) hJ, fun j hj => ?_⟩
    obtain ⟨h1, h2, h3⟩ := (ready_iff hreg tv hap).1 hj
    have hje : j < es.length := by rw [hlen]; simpa using h1
    have hopj := tv.op j hje
    have hopj' : ops[j] = es[j].o := by simpa using hopj
    have hLj : listed.getD j false = false := by
      rw [Array.getD_eq_getD_getElem?, Array.getElem?_eq_getElem (by omega)] at h2 ⊢; simpa using h2
    have hL' : ∀ k, (listed.setIfInBounds j true).getD k false = (listed.getD k false || k == j) := by
      intro k
      simp only [Array.getD_eq_getD_getElem?, Array.getElem?_setIfInBounds]
      by_cases hk : j = k
      · subst hk; simp [show j < listed.size by omega]
      · simp [hk, Ne.symm hk]
    have hr : ∀ e ∈ (es[j].o.after).toList, Region.binds .any e = true → listed.getD e.on false = true := by rw [← hopj']; exact h3
    refine Jn_step tv ok henv hje hLj hL' (fun t ht => slot_agree hreg tv hc hje hLj hr ht) (fun hrun id hid => mem_agree hreg tv hap hc hje hLj hr hrun hid) (fun t => slot_ins hreg tv hc hje hLj hL' t) (fun id => mem_ins hreg tv hap hc hje hLj hL' id) hJ (fun a' w' hJ' => ?_)
    refine ih (listed.setIfInBounds j true) a' w' (by simpa using hs) ?_ ?_ hJ'
    · intro k hk hLk e he hb
      simp only [hL', Bool.or_eq_true, beq_iff_eq] at hLk ⊢
      rcases hLk with hLk | rfl
      · exact .inl (hc k hk hLk e he hb)
      · exact .inl (h3 e (by simpa using he) hb)
    · have hlt : (List.range ops.size).countP (fun k => !(listed.setIfInBounds j true).getD k false) < (List.range ops.size).countP (fun k => !listed.getD k false) := by
        have hle : ∀ k ∈ List.range ops.size, (!(listed.setIfInBounds j true).getD k false) = true → (!listed.getD k false) = true := by
          intro k _ hk
          rw [hL'] at hk
          simp at hk ⊢
          exact hk.1
        have hmem : j ∈ List.range ops.size := by simpa using h1
        obtain ⟨pre, post, hsplit⟩ := List.append_of_mem hmem
        rw [hsplit] at hle ⊢
        simp only [List.countP_append, List.countP_cons]
        have e1 : (!(listed.setIfInBounds j true).getD j false) = false := by rw [hL']; simp
        have e2 : (!listed.getD j false) = true := by rw [hLj]; rfl
        rw [e1, e2]
        have a1 := List.countP_mono_left (l := pre) (p := fun k => !(listed.setIfInBounds j true).getD k false) (q := fun k => !listed.getD k false) (fun k hk h => hle k (by simp [hk]) h)
        have a2 := List.countP_mono_left (l := post) (p := fun k => !(listed.setIfInBounds j true).getD k false) (q := fun k => !listed.getD k false) (fun k hk h => hle k (by simp [hk]) h)
        simp
        simp at a1 a2
        omega
      omega
end
end Go.AE

/- Regions, from the function on states. -/
namespace Go.AE
open Go.RowKit
set_option linter.unusedVariables false
set_option linter.unusedSectionVars false

section
variable {P : Program} {ti : TI} {env : Env} {nt : Nat} {ops : Array Oper} {w0 : World} {F0 : Bs}

/-- The machine stands as the state tells. -/
def Gam (w0 : World) (F0 : Bs) (nt : Nat) (σ : AS) (a : Act) (w : World) : Prop :=
  ∃ F G, Mem w0 F0 (fun id => id < σ.nx) (lkM σ.mem) F G w ∧ (∀ t, RV F G (lkS σ.sl t) (a.tmps.getD t undef)) ∧ a.tmps.size = nt ∧ a.defers = []

theorem yield_bool {g : Nat} {d : Tmp} (h : gdst (ops.toList.map (·.dst)) g = some d) {a : Act} {b : Bool} (hb : a.tmps.getD d undef = .bool b) : yielded ops a.tmps g = some b := by
  have hdst : (ops[g]?).bind (·.dst) = some d := by
    simp only [gdst, List.getD_eq_getElem?_getD, List.getElem?_map] at h
    cases hog : ops.toList[g]? with
    | none => rw [hog] at h; cases h
    | some og =>
      rw [hog] at h
      have : ops[g]? = some og := by simpa using hog
      rw [this]; simpa using h
  unfold yielded
  rw [hdst]
  rw [Array.getD_eq_getD_getElem?] at hb
  cases h3 : a.tmps[d]? with
  | none => rw [h3] at hb; cases hb
  | some u => rw [h3] at hb; simp only [Option.getD_some] at hb; subst hb; simp [h3]
theorem yield_un {g : Nat} {d : Tmp} (h : gdst (ops.toList.map (·.dst)) g = some d) {a : Act} (hb : a.tmps.getD d undef = undef) : yielded ops a.tmps g = none := by
  have hdst : (ops[g]?).bind (·.dst) = some d := by
    simp only [gdst, List.getD_eq_getElem?_getD, List.getElem?_map] at h
    cases hog : ops.toList[g]? with
    | none => rw [hog] at h; cases h
    | some og =>
      rw [hog] at h
      have : ops[g]? = some og := by simpa using hog
      rw [this]; simpa using h
  unfold yielded
  rw [hdst]
  rw [Array.getD_eq_getD_getElem?] at hb
  cases h5 : a.tmps[d]? with
  | none => simp [h5]
  | some u => rw [h5] at hb; simp only [Option.getD_some] at hb; subst hb; simp [h5, undef]

theorem lkS_refine {sl : List (Nat × AV)} {d : Tmp} {x : AV} (h : lkS sl d = x) : lkS ((d, x) :: sl) = lkS sl := by
  funext t
  simp only [lkS]
  split
  · rename_i e; subst e; exact h.symm
  · rfl

/-- One operation. -/
theorem put_slots {F F' : Fz} {G G' : Gm} {sl sl' : List (Nat × AV)} {a : Act} {o : Option Tmp} {r : AV} {v : Value} (hs : ∀ t, RV F G (lkS sl t) (a.tmps.getD t undef)) (hsz : a.tmps.size = nt) (hp : putS nt sl o r = some sl') (hF : F.le F') (hG : G.le G') (hv : RV F' G' r v) :
    ∀ t, RV F' G' (lkS sl' t) ((a.put o v).tmps.getD t undef) := by
  intro t
  cases o with
  | none => simp only [putS, Option.some.injEq] at hp; subst hp; exact (hs t).mono hF hG
  | some d =>
    simp only [putS] at hp
    split at hp
    · rename_i hd
      simp only [Option.some.injEq] at hp
      subst hp
      rw [put_getD _ _ _ (by rw [hsz]; exact hd)]
      simp only [lkS]
      by_cases htd : t = d
      · subst htd; simpa using hv
      · rw [if_neg htd, if_neg (Ne.symm htd)]
        exact (hs t).mono hF hG
    · cases hp

theorem put_keeps {a : Act} (o : Option Tmp) (v : Value) (hsz : a.tmps.size = nt) (hdf : a.defers = []) : (a.put o v).tmps.size = nt ∧ (a.put o v).defers = [] := by
  cases o <;> simp [Act.put, hsz, hdf]

theorem run_one (ok : TIOk P ti) (henv : EnvOk P env) {o : Oper} {σ σ' : AS} {p : Prop} (h : effQ nt ti env σ o = some (p, σ')) (hp : p) {a : Act} {w : World} (hg : Gam w0 F0 nt σ a w) :
    OpGoal P o a w (fun v w' => Gam w0 F0 nt σ' (a.put o.dst v) w') := by
  obtain ⟨F, G, hm, hs, hsz, hdf⟩ := hg
  unfold effQ at h
  split at h
  · rename_i p' r ws he
    split at h
    · rename_i sl hput
      simp only [Option.some.injEq, Prod.mk.injEq] at h
      obtain ⟨rfl, rfl⟩ := h
      intro next Q hn
      refine op_ok (o := o) ok henv hm (evO_ok hs) (by simp : ¬ σ.nx < σ.nx) he hp next Q (fun v w' hafter => hn v w' ?_)
      obtain ⟨F', G', hF, hG, hv, hm'⟩ := hafter
      refine ⟨F', G', ?_, put_slots hs hsz hput hF hG hv, (put_keeps _ _ hsz hdf).1, (put_keeps _ _ hsz hdf).2⟩
      rw [lkM_updL]
      exact hm'.wider (fun i hi => by rcases hi with hi | rfl <;> (show _ < σ.nx + 1; omega))
    · cases h
  · cases h

theorem skip_one {o : Oper} {σ σ' : AS} (h : skipS nt σ o = some σ') {a : Act} {w : World} (hg : Gam w0 F0 nt σ a w) : Gam w0 F0 nt σ' (a.put o.dst undef) w := by
  obtain ⟨F, G, hm, hs, hsz, hdf⟩ := hg
  unfold skipS at h
  split at h
  · rename_i sl hput
    simp only [Option.some.injEq] at h
    subst h
    exact ⟨F, G, hm, put_slots hs hsz hput (Fz.le.refl F) (Gm.le.refl G) rfl, (put_keeps _ _ hsz hdf).1, (put_keeps _ _ hsz hdf).2⟩
  · cases h

theorem Gam.refine {σ : AS} {d : Tmp} {x : AV} (h : lkS σ.sl d = x) {a : Act} {w : World} (hg : Gam w0 F0 nt σ a w) : Gam w0 F0 nt ⟨(d, x) :: σ.sl, σ.mem, σ.nx⟩ a w := by
  obtain ⟨F, G, hm, hs, hsz, hdf⟩ := hg
  exact ⟨F, G, hm, fun t => by rw [show lkS ((d, x) :: σ.sl) t = lkS σ.sl t from congrFun (lkS_refine h) t]; exact hs t, hsz, hdf⟩

theorem seq_ok (ok : TIOk P ti) (henv : EnvOk P env) {Q : Exit → Act → World → Prop} {K : AS → Prop} (hQ : ∀ τ a w, Gam w0 F0 nt τ a w → K τ → Q .normal a w) :
    ∀ (r pre : List Oper) (σ : AS) (a : Act) (w : World), ops.toList = pre ++ r → evalQ nt ti env (ops.toList.map (·.dst)) r σ K → Gam w0 F0 nt σ a w → wpOps P ops Q (List.range' pre.length r.length) a w := by
  intro r
  induction r with
  | nil => intro pre σ a w he h hg; exact hQ σ a w hg h
  | cons o r ih =>
    intro pre σ a w he h hg
    have hi : ops[pre.length]? = some o := by
      have : ops.toList[pre.length]? = some o := by rw [he]; simp
      simpa using this
    rw [List.length_cons, List.range'_succ]
    simp only [wpOps, hi]
    have next : ∀ σ' a' w', evalQ nt ti env (ops.toList.map (·.dst)) r σ' K → Gam w0 F0 nt σ' a' w' → wpOps P ops Q (List.range' (pre.length + 1) r.length) a' w' := by
      intro σ' a' w' h' hg'
      have := ih (pre ++ [o]) σ' a' w' (by rw [he]; simp) h' hg'
      simpa using this
    simp only [evalQ] at h
    split at h
    · rename_i hgd
      have hw : Region.wanted o (yielded ops a.tmps) = true := by simp [Region.wanted, hgd]
      rw [hw, if_pos rfl]
      split at h
      · rename_i p σ' heff
        exact .inl (run_one ok henv heff h.1 hg _ _ (fun v w' hg' => next σ' _ _ h.2 hg'))
      · exact h.elim
    · rename_i j gb hgd
      split at h
      · exact h.elim
      · rename_i d hd
        split at h
        · rename_i b hb
          have hval : a.tmps.getD d undef = .bool b := by
            obtain ⟨F, G, hm, hs, _⟩ := hg
            have := hs d
            rw [hb] at this
            exact (RV_v this).1
          have hy := yield_bool hd hval
          by_cases hbg : b = gb
          · have h1 := h.1 hbg
            have hw : Region.wanted o (yielded ops a.tmps) = true := by simp [Region.wanted, hgd, hy, hbg]
            rw [hw, if_pos rfl]
            split at h1
            · rename_i p σ' heff
              exact .inl (run_one ok henv heff h1.1 (hg.refine (by rw [hb, hbg])) _ _ (fun v w' hg' => next σ' _ _ h1.2 hg'))
            · exact h1.elim
          · have hbn : b = !gb := by cases b <;> cases gb <;> simp_all
            have h1 := h.2 hbn
            have hw : Region.wanted o (yielded ops a.tmps) = false := by simp [Region.wanted, hgd, hy]; exact hbg
            rw [hw]
            simp only [Bool.false_eq_true, if_false]
            split at h1
            · rename_i σ' hskip
              exact next σ' _ _ h1 (skip_one hskip (hg.refine (by rw [hb, hbn])))
            · exact h1.elim
        · rename_i hb
          have hval : a.tmps.getD d undef = undef := by
            obtain ⟨F, G, hm, hs, _⟩ := hg
            have := hs d
            rw [hb] at this
            exact this
          have hy := yield_un hd hval
          have hw : Region.wanted o (yielded ops a.tmps) = false := by simp [Region.wanted, hgd, hy]
          rw [hw]
          simp only [Bool.false_eq_true, if_false]
          split at h
          · rename_i σ' hskip
            exact next σ' _ _ h (skip_one hskip hg)
          · exact h.elim
        · exact h.elim

theorem region_seq (ok : TIOk P ti) (henv : EnvOk P env) {Q : Exit → Act → World → Prop} {K : AS → Prop} {id : Nat} {σ : AS} (h : evalQ nt ti env (ops.toList.map (·.dst)) ops.toList σ K) {a : Act} {w : World} (hg : Gam w0 F0 nt σ a w)
    (hQ : ∀ τ a w, Gam w0 F0 nt τ a w → K τ → Q .normal a w) : (Code.region id ops false).wp P Q a w := by
  refine wp_region ?_
  have := seq_ok ok henv hQ ops.toList [] σ a w rfl h hg
  rw [List.range_eq_range']
  simpa using this

/-! ### In whatever order -/
def efsOf : Nat → List En → List Ef
  | _, [] => []
  | i, e :: r => if e.run = true then ⟨i, e.ri, e.ws.map (·.1)⟩ :: efsOf (i + 1) r else efsOf (i + 1) r
theorem efsOf_append : ∀ (a : List En) (i : Nat) (b : List En), efsOf i (a ++ b) = efsOf i a ++ efsOf (i + a.length) b := by
  intro a
  induction a with
  | nil => intro i b; simp [efsOf]
  | cons e r ih =>
    intro i b
    simp only [List.cons_append, efsOf, ih]
    split <;> simp [Nat.add_assoc, Nat.add_comm 1]
theorem efsOf_mem : ∀ {es : List En} {i j : Nat} (hj : j < es.length), es[j].run = true → (⟨i + j, es[j].ri, es[j].ws.map (·.1)⟩ : Ef) ∈ efsOf i es := by
  intro es
  induction es with
  | nil => intro i j hj; simp at hj
  | cons e r ih =>
    intro i j hj hr
    cases j with
    | zero => simp only [List.getElem_cons_zero] at hr ⊢; simp [efsOf, hr]
    | succ j =>
      have := ih (i := i + 1) (j := j) (by simpa using hj) (by simpa using hr)
      simp only [efsOf, List.getElem_cons_succ]
      rw [show i + (j + 1) = i + 1 + j by omega]
      split
      · exact List.mem_cons_of_mem _ this
      · exact this
theorem apart_of {es : List En} (h : compat ops.toList (efsOf 0 es) = true) : Apart ops.toList es := by
  intro i j hi hj hij hri hrj hex
  simp only [compat, List.all_eq_true] at h
  have := h _ (efsOf_mem hi hri) _ (efsOf_mem hj hrj)
  simp only [Nat.zero_add, hij, decide_true, Bool.not_true, Bool.false_or, Bool.or_eq_true, Bool.not_eq_true'] at this
  rcases this with h1 | h1
  · exfalso
    obtain ⟨x, ⟨h2, h3⟩ | ⟨h2, h3⟩⟩ := hex
    · have : clash ⟨i, es[i].ri, es[i].ws.map (·.1)⟩ ⟨j, es[j].ri, es[j].ws.map (·.1)⟩ = true := by
        simp only [clash, Bool.or_eq_true, List.any_eq_true]
        refine .inl ⟨x, h2, ?_⟩
        simp only [List.contains_iff_mem]
        exact h3
      rw [h1] at this; cases this
    · have : clash ⟨i, es[i].ri, es[i].ws.map (·.1)⟩ ⟨j, es[j].ri, es[j].ws.map (·.1)⟩ = true := by
        simp only [clash, Bool.or_eq_true, List.any_eq_true]
        refine .inr ⟨x, h2, ?_⟩
        simpa [List.contains_iff_mem] using h3
      rw [h1] at this; cases this
  · exact h1

theorem lastW_snoc {E V : Type} (wr : E → Option V) : ∀ (es : List E) (i : Nat) (e : E) (v : V), lastW wr (fun _ => true) i (es ++ [e]) v = (wr e).getD (lastW wr (fun _ => true) i es v) := by
  intro es
  induction es with
  | nil => intro i e v; simp [lastW]
  | cons x r ih => intro i e v; simp only [List.cons_append, lastW]; exact ih _ _ _
theorem lastW_take {E V : Type} (wr : E → Option V) : ∀ (es : List E) (i j : Nat) (v : V), lastW wr (lt (i + j)) i es v = lastW wr (fun _ => true) i (es.take j) v := by
  intro es
  induction es with
  | nil => intro i j v; simp [lastW]
  | cons x r ih =>
    intro i j v
    cases j with
    | zero =>
      simp only [List.take_zero, lastW]
      rw [show lt (i + 0) i = false by simp [lt]]
      simp only [Bool.false_eq_true, if_false]
      exact lastW_none wr (fun k hk _ => by simp [lt]; omega)
    | succ j =>
      simp only [List.take_succ_cons, lastW]
      rw [show lt (i + (j + 1)) i = true by simp [lt]]
      rw [show i + (j + 1) = i + 1 + j by omega]
      exact ih (i + 1) j _

/-- The state behind some entries. -/
def stS (es : List En) (sl0 : Nat → AV) (t : Nat) : AV := lastW (wrS t) (fun _ => true) 0 es (sl0 t)
def stM (es : List En) (m0 : MM) : MM := fun id => lastW (wrM id) (fun _ => true) 0 es (m0 id)
structure Steps1 (nt : Nat) (ti : TI) (env : Env) (dsts : List (Option Tmp)) (sl0 : Nat → AV) (m0 : MM) (es0 es1 : List En) (r : List Oper) (a b : Nat) : Prop where
  len : es1.length = r.length
  op : ∀ j (h : j < es1.length), r[j]'(len ▸ h) = es1[j].o
  dst : ∀ j (h : j < es1.length) d, es1[j].o.dst = some d → d < nt
  guard : ∀ j (h : j < es1.length), gOk dsts (stS (es0 ++ es1.take j) sl0) es1[j]
  eff : ∀ j (h : j < es1.length), es1[j].run = true → es1[j].ri = opIds (evO (stS (es0 ++ es1.take j) sl0)) es1[j].o.op ∧ ∃ p, opEff ti env (evO (stS (es0 ++ es1.take j) sl0)) (stM (es0 ++ es1.take j) m0) es1[j].nid es1[j].o.op = some (p, es1[j].r, es1[j].ws) ∧ p
  nid : ∀ j (h : j < es1.length), es1[j].run = true → a ≤ es1[j].nid ∧ es1[j].nid < b
  le : a ≤ b
  ndist : ∀ i j (hi : i < es1.length) (hj : j < es1.length), i < j → es1[i].run = true → es1[j].run = true → es1[i].nid < es1[j].nid

theorem Steps1.cons {dsts : List (Option Tmp)} {sl0 : Nat → AV} {m0 : MM} {es0 es1 : List En} {e : En} {o : Oper} {r : List Oper} {a b c : Nat} (ho : o = e.o) (hd : ∀ d, e.o.dst = some d → d < nt) (hg : gOk dsts (stS es0 sl0) e)
    (he : e.run = true → e.ri = opIds (evO (stS es0 sl0)) e.o.op ∧ ∃ p, opEff ti env (evO (stS es0 sl0)) (stM es0 m0) e.nid e.o.op = some (p, e.r, e.ws) ∧ p) (hn : e.run = true → a ≤ e.nid ∧ e.nid < b) (hab : a ≤ b)
    (h : Steps1 nt ti env dsts sl0 m0 (es0 ++ [e]) es1 r b c) : Steps1 nt ti env dsts sl0 m0 es0 (e :: es1) (o :: r) a c := by
  have hbc := h.le
  refine ⟨by simp [h.len], ?_, ?_, ?_, ?_, ?_, by omega, ?_⟩
  · intro j hj
    cases j with
    | zero => simpa using ho
    | succ j => simpa using h.op j (by simpa using hj)
  · intro j hj d hd'
    cases j with
    | zero => exact hd d (by simpa using hd')
    | succ j => exact h.dst j (by simpa using hj) d (by simpa using hd')
  · intro j hj
    cases j with
    | zero => simpa using hg
    | succ j => have := h.guard j (by simpa using hj); simpa using this
  · intro j hj hr
    cases j with
    | zero => have := he (by simpa using hr); simpa using this
    | succ j => have := h.eff j (by simpa using hj) (by simpa using hr); simpa using this
  · intro j hj hr
    cases j with
    | zero => have := hn (by simpa using hr); simp only [List.getElem_cons_zero]; omega
    | succ j => have := h.nid j (by simpa using hj) (by simpa using hr); simp only [List.getElem_cons_succ]; omega
  · intro i j hi hj hij hri hrj
    cases j with
    | zero => omega
    | succ j =>
      have h2 := h.nid j (by simpa using hj) (by simpa using hrj)
      cases i with
      | zero => have := hn (by simpa using hri); simp only [List.getElem_cons_zero, List.getElem_cons_succ]; omega
      | succ i => have := h.ndist i j (by simpa using hi) (by simpa using hj) (by omega) (by simpa using hri) (by simpa using hrj); simpa using this

theorem evalR_run {dsts : List (Option Tmp)} {sl0 : Nat → AV} {m0 : MM} {K : AS → List Ef → Prop} : ∀ (r : List Oper) (i : Nat) (σ : AS) (efs : List Ef) (es0 : List En), evalR nt ti env dsts i r σ efs K → es0.length = i →
    lkS σ.sl = stS es0 sl0 → lkM σ.mem = stM es0 m0 → efs = efsOf 0 es0 →
    ∃ es1 τ, Steps1 nt ti env dsts sl0 m0 es0 es1 r σ.nx τ.nx ∧ lkS τ.sl = stS (es0 ++ es1) sl0 ∧ lkM τ.mem = stM (es0 ++ es1) m0 ∧ K τ (efsOf 0 (es0 ++ es1)) := by
  intro r
  induction r with
  | nil =>
    intro i σ efs es0 h hl hs hm he
    refine ⟨[], σ, ⟨rfl, fun j h => by simp at h, fun j h => by simp at h, fun j h => by simp at h, fun j h => by simp at h, fun j h => by simp at h, Nat.le_refl _, fun i j hi => by simp at hi⟩, by simpa using hs, by simpa using hm, ?_⟩
    simp only [evalR] at h
    rw [List.append_nil, ← he]; exact h
  | cons o r ih =>
    intro i σ efs es0 h hl hs hm he
    have run : ∀ (σ1 : AS), lkS σ1.sl = stS es0 sl0 → lkM σ1.mem = stM es0 m0 → σ1.nx = σ.nx → (match effR nt ti env σ1 o i with
        | some (p, σ', e) => p ∧ evalR nt ti env dsts (i + 1) r σ' (efs ++ [e]) K
        | none => False) → (∀ e : En, e.o = o → e.run = true → gOk dsts (stS es0 sl0) e) →
        ∃ es1 τ, Steps1 nt ti env dsts sl0 m0 es0 es1 (o :: r) σ.nx τ.nx ∧ lkS τ.sl = stS (es0 ++ es1) sl0 ∧ lkM τ.mem = stM (es0 ++ es1) m0 ∧ K τ (efsOf 0 (es0 ++ es1)) := by
      intro σ1 hs1 hm1 hn1 h1 hg
      split at h1
      · rename_i p σ' ef heff
        unfold effR at heff
        split at heff
        · rename_i p' rr ws hop
          split at heff
          · rename_i sl hput
            simp only [Option.some.injEq, Prod.mk.injEq] at heff
            obtain ⟨rfl, rfl, rfl⟩ := heff
            let e : En := ⟨o, true, rr, ws, σ1.nx, opIds (evO (lkS σ1.sl)) o.op⟩
            have hsl : lkS sl = stS (es0 ++ [e]) sl0 := by
              funext t
              unfold stS
              rw [lastW_snoc]
              have h0 := congrFun hs1 t
              cases hd : o.dst with
              | none =>
                rw [hd] at hput; simp only [putS, Option.some.injEq] at hput; subst hput
                have : wrS t e = none := by simp [wrS, e, hd]
                rw [this]; exact h0
              | some d =>
                rw [hd] at hput; simp only [putS] at hput
                split at hput
                · simp only [Option.some.injEq] at hput
                  subst hput
                  simp only [lkS]
                  by_cases hdt : d = t
                  · subst hdt
                    have : wrS d e = some rr := by simp [wrS, e, hd]
                    rw [this]; simp
                  · have : wrS t e = none := by simp [wrS, e, hd, hdt]
                    rw [this, if_neg hdt]; exact h0
                · cases hput
            have hmm : lkM (updL σ1.mem ws) = stM (es0 ++ [e]) m0 := by
              funext id
              rw [lkM_updL, upd_last]
              unfold stM
              rw [lastW_snoc]
              have : wrM id e = lastOf ws id := by simp [wrM, e]
              rw [this]
              congr 1
              exact congrFun hm1 id
            obtain ⟨es1, τ, h2, h3, h4, h5⟩ := ih (i + 1) _ _ (es0 ++ [e]) h1.2 (by simp [hl]) hsl hmm (by rw [efsOf_append, he, Nat.zero_add, hl]; simp [efsOf, e])
            refine ⟨e :: es1, τ, Steps1.cons (b := σ1.nx + 1) rfl (fun d hd => ?_) (hg e rfl rfl) (fun _ => ⟨by rw [← hs1], p', by rw [← hs1, ← hm1]; exact hop, h1.1⟩) (fun _ => ⟨by simp [e, hn1], by simp [e]⟩) (by omega) h2, by simpa using h3, by simpa using h4, by simpa using h5⟩
            have hd' : o.dst = some d := hd
            rw [hd'] at hput; simp only [putS] at hput
            split at hput
            · assumption
            · cases hput
          · cases heff
        · cases heff
      · exact h1.elim
    have skip : ∀ (σ1 : AS), lkS σ1.sl = stS es0 sl0 → lkM σ1.mem = stM es0 m0 → σ1.nx = σ.nx → (match skipS nt σ1 o with
        | some σ' => evalR nt ti env dsts (i + 1) r σ' efs K
        | none => False) → (∀ e : En, e.o = o → e.run = false → gOk dsts (stS es0 sl0) e) →
        ∃ es1 τ, Steps1 nt ti env dsts sl0 m0 es0 es1 (o :: r) σ.nx τ.nx ∧ lkS τ.sl = stS (es0 ++ es1) sl0 ∧ lkM τ.mem = stM (es0 ++ es1) m0 ∧ K τ (efsOf 0 (es0 ++ es1)) := by
      intro σ1 hs1 hm1 hn1 h1 hg
      split at h1
      · rename_i σ' hsk
        unfold skipS at hsk
        split at hsk
        · rename_i sl hput
          simp only [Option.some.injEq] at hsk
          subst hsk
          let e : En := ⟨o, false, .un, [], 0, []⟩
          have hsl : lkS sl = stS (es0 ++ [e]) sl0 := by
            funext t
            unfold stS
            rw [lastW_snoc]
            have h0 := congrFun hs1 t
            cases hd : o.dst with
            | none =>
              rw [hd] at hput; simp only [putS, Option.some.injEq] at hput; subst hput
              have : wrS t e = none := by simp [wrS, e, hd]
              rw [this]; exact h0
            | some d =>
              rw [hd] at hput; simp only [putS] at hput
              split at hput
              · simp only [Option.some.injEq] at hput
                subst hput
                simp only [lkS]
                by_cases hdt : d = t
                · subst hdt
                  have : wrS d e = some .un := by simp [wrS, e, hd]
                  rw [this]; simp
                · have : wrS t e = none := by simp [wrS, e, hd, hdt]
                  rw [this, if_neg hdt]; exact h0
              · cases hput
          have hmm : lkM σ1.mem = stM (es0 ++ [e]) m0 := by
            funext id
            unfold stM
            rw [lastW_snoc]
            have : wrM id e = none := by simp [wrM, e]
            rw [this]
            exact congrFun hm1 id
          obtain ⟨es1, τ, h2, h3, h4, h5⟩ := ih (i + 1) _ _ (es0 ++ [e]) h1 (by simp [hl]) hsl hmm (by rw [efsOf_append, he, Nat.zero_add, hl]; simp [efsOf, e])
          refine ⟨e :: es1, τ, Steps1.cons (b := σ.nx) rfl (fun d hd => ?_) (hg e rfl rfl) (fun h => by cases h) (fun h => by cases h) (by omega) (by rw [← hn1]; exact h2), by simpa using h3, by simpa using h4, by simpa using h5⟩
          have hd' : o.dst = some d := hd
          rw [hd'] at hput; simp only [putS] at hput
          split at hput
          · assumption
          · cases hput
        · cases hsk
      · exact h1.elim
    simp only [evalR] at h
    split at h
    · rename_i hgd
      exact run σ hs hm rfl h (fun e ho hr => by unfold gOk; rw [ho, hgd]; exact hr)
    · rename_i j gb hgd
      split at h
      · exact h.elim
      · rename_i d hd
        split at h
        · rename_i b hb
          by_cases hbg : b = gb
          · subst hbg
            exact run ⟨(d, .v (.bool b)) :: σ.sl, σ.mem, σ.nx⟩ (by rw [lkS_refine hb]; exact hs) hm rfl (h.1 rfl) (fun e ho hr => by unfold gOk; rw [ho, hgd]; exact ⟨d, hd, .inl ⟨hr, by rw [← hs]; exact hb⟩⟩)
          · have hbn : b = !gb := by cases b <;> cases gb <;> simp_all
            have h2 := h.2 hbn
            subst hbn
            exact skip ⟨(d, .v (.bool !gb)) :: σ.sl, σ.mem, σ.nx⟩ (by rw [lkS_refine hb]; exact hs) hm rfl h2 (fun e ho hr => by unfold gOk; rw [ho, hgd]; exact ⟨d, hd, .inr ⟨hr, .inl (by rw [← hs]; exact hb)⟩⟩)
        · rename_i hb
          exact skip σ hs hm rfl h (fun e ho hr => by unfold gOk; rw [ho, hgd]; exact ⟨d, hd, .inr ⟨hr, .inr (by rw [← hs]; exact hb)⟩⟩)
        · exact h.elim

theorem region_draw (ok : TIOk P ti) (henv : EnvOk P env) (hmix : P.follows .mixedOrders = true) (hreg : regOk ops.toList = true) {Q : Exit → Act → World → Prop} {K : AS → Prop} {id : Nat} {σ : AS}
    (h : evalR nt ti env (ops.toList.map (·.dst)) 0 ops.toList σ [] (fun τ efs => compat ops.toList efs = true ∧ K τ)) {a : Act} {w : World} (hg : Gam w0 F0 nt σ a w)
    (hQ : ∀ τ a w, Gam w0 F0 nt τ a w → K τ → Q .normal a w) : (Code.region id ops true).wp P Q a w := by
  obtain ⟨es, τ, h1, h2, h3, h4, h5⟩ := evalR_run (sl0 := lkS σ.sl) (m0 := lkM σ.mem) ops.toList 0 σ [] [] h rfl rfl rfl rfl
  simp only [List.nil_append] at h1 h2 h3 h4
  have hap := apart_of h4
  have htk : ∀ j t, slAt es (lkS σ.sl) (lt j) t = stS (es.take j) (lkS σ.sl) t := fun j t => by have := lastW_take (wrS t) es 0 j (lkS σ.sl t); rw [Nat.zero_add] at this; exact this
  have htm : ∀ j id, mAt es (lkM σ.mem) (lt j) id = stM (es.take j) (lkM σ.mem) id := fun j id => by have := lastW_take (wrM id) es 0 j (lkM σ.mem id); rw [Nat.zero_add] at this; exact this
  have tv : TV nt ti env ops.toList es (lkS σ.sl) (lkM σ.mem) σ.nx τ.nx := by
    refine ⟨h1.len, h1.op, h1.dst, fun j hj => ?_, fun j hj hr => ?_, h1.nid, h1.ndist⟩
    · have := h1.guard j hj
      simp only [List.nil_append] at this
      rwa [show slAt es (lkS σ.sl) (lt j) = stS (es.take j) (lkS σ.sl) from funext (htk j)]
    · have := h1.eff j hj hr
      simp only [List.nil_append] at this
      rw [show slAt es (lkS σ.sl) (lt j) = stS (es.take j) (lkS σ.sl) from funext (htk j), show mAt es (lkM σ.mem) (lt j) = stM (es.take j) (lkM σ.mem) from funext (htm j)]
      exact this
  obtain ⟨F, G, hm, hs, hsz, hdf⟩ := hg
  refine wp_region_any hmix ?_
  have hall : ∀ k, (Array.replicate ops.size false).getD k false = false := by
    intro k
    rw [Array.getD_eq_getD_getElem?, Array.getElem?_replicate]
    split <;> rfl
  refine any_ok (w0 := w0) (F0 := F0) hreg tv hap ok henv (fun L a' w' hL hJ => ?_) ops.size (Array.replicate ops.size false) a _ (by simp) ?_ ?_ ?_
  · obtain ⟨F', G', hm', hs', hsz', hdf'⟩ := hJ
    refine hQ τ a' w' ⟨F', G', ?_, fun t => ?_, hsz', hdf'⟩ h5
    · have : mAt es (lkM σ.mem) L = lkM τ.mem := by
        rw [h3]; funext id
        exact lastW_agree _ (fun k hk _ => by rw [Nat.zero_add]; exact hL k hk)
      rw [this] at hm'
      refine hm'.wider (fun id hid => ?_)
      rcases hid with hid | ⟨k, hk, _, hr, rfl⟩
      · have := h1.le; omega
      · exact (h1.nid k hk hr).2
    · have : slAt es (lkS σ.sl) L t = lkS τ.sl t := by
        rw [h2]
        exact lastW_agree _ (fun k hk _ => by rw [Nat.zero_add]; exact hL k hk)
      rw [← this]; exact hs' t
  · intro k hk hL; have hL' : (Array.replicate ops.size false).getD k false = true := hL; rw [hall k] at hL'; cases hL'
  · exact Nat.le_trans List.countP_le_length (by simp)
  · refine ⟨F, G, ?_, fun t => ?_, hsz, hdf⟩
    · have : mAt es (lkM σ.mem) (fun k => (Array.replicate ops.size false).getD k false) = lkM σ.mem := by
        funext id; exact lastW_none _ (fun k _ _ => hall _)
      rw [this]
      exact (hm.drew).wider (fun id hid => .inl hid)
    · have : slAt es (lkS σ.sl) (fun k => (Array.replicate ops.size false).getD k false) t = lkS σ.sl t := lastW_none _ (fun k _ _ => hall _)
      rw [this]; exact hs t
end
end Go.AE

/- Code, on states; and a function's contract out of it. -/
namespace Go.AE
open Go.RowKit
set_option linter.unusedVariables false
set_option linter.unusedSectionVars false

def Out (w0 : World) (F0 : Bs) (nt : Nat) (Q : Exit → AS → Prop) : Exit → Act → World → Prop
  | .panic _, _, _ => False
  | .outgrown, _, _ => False
  | e, a, w => ∃ τ, Gam w0 F0 nt τ a w ∧ Q e τ

def GoC (P : Program) (ti : TI) (env : Env) (nt : Nat) (c : Code) (σ : AS) (Q : Exit → AS → Prop) : Prop :=
  TIOk P ti → EnvOk P env → P.follows .mixedOrders = true → ∀ w0 F0 a w, Gam w0 F0 nt σ a w → c.wp P (Out w0 F0 nt Q) a w

/-- What is still to be done. -/
inductive Kst where
  | nil
  | code (c : Code) (k : Kst)
  | blk (id : Nat) (k : Kst)
  | lp (I : AS → Prop) (k : Kst)

section
variable (P : Program) (ti : TI) (env : Env) (nt : Nat) (fin : AS → Prop)

def den : Kst → Exit → AS → Prop
  | .nil, .normal, σ => fin σ
  | .nil, .ret, σ => fin σ
  | .nil, _, _ => False
  | .code c k, .normal, σ => GoC P ti env nt c σ (den k)
  | .code _ k, e, σ => den k e σ
  | .blk _ k, .normal, σ => den k .normal σ
  | .blk id k, .exit j, σ => if j = id then den k .normal σ else den k (.exit j) σ
  | .blk _ k, e, σ => den k e σ
  | .lp I _, .normal, σ => I σ
  | .lp _ k, e, σ => den k e σ

def Run (c : Code) (k : Kst) (σ : AS) : Prop := GoC P ti env nt c σ (den P ti env nt fin k)
def Step (k : Kst) (σ : AS) : Prop := den P ti env nt fin k .normal σ
def Exits (k : Kst) (id : Nat) (σ : AS) : Prop := den P ti env nt fin k (.exit id) σ
end

section
variable {P : Program} {ti : TI} {env : Env} {nt : Nat} {fin : AS → Prop} {k : Kst} {σ : AS}

theorem Out.imp {w0 : World} {F0 : Bs} {Q Q' : Exit → AS → Prop} (h : ∀ e τ, Q e τ → Q' e τ) : ∀ e a w, Out w0 F0 nt Q e a w → Out w0 F0 nt Q' e a w := by
  intro e a w ho
  cases e <;> first
    | exact ho
    | (obtain ⟨τ, h1, h2⟩ := ho; exact ⟨τ, h1, h _ _ h2⟩)

theorem step_code {c : Code} (h : Run P ti env nt fin c k σ) : Step P ti env nt fin (.code c k) σ := h
theorem step_blk {id : Nat} (h : Step P ti env nt fin k σ) : Step P ti env nt fin (.blk id k) σ := h
theorem step_nil (h : fin σ) : Step P ti env nt fin .nil σ := h
theorem step_lp {I : AS → Prop} (h : I σ) : Step P ti env nt fin (.lp I k) σ := h
theorem exits_code {c : Code} {id : Nat} (h : Exits P ti env nt fin k id σ) : Exits P ti env nt fin (.code c k) id σ := h
theorem exits_here {id : Nat} (h : Step P ti env nt fin k σ) : Exits P ti env nt fin (.blk id k) id σ := by
  show (if id = id then _ else _)
  rw [if_pos rfl]; exact h
theorem exits_blk {id j : Nat} (hne : (j == id) = false) (h : Exits P ti env nt fin k j σ) : Exits P ti env nt fin (.blk id k) j σ := by
  show (if j = id then _ else _)
  rw [if_neg (by simpa using hne)]; exact h
theorem exits_lp {I : AS → Prop} {id : Nat} (h : Exits P ti env nt fin k id σ) : Exits P ti env nt fin (.lp I k) id σ := h
theorem den_ret : ∀ {k : Kst}, fin σ → den P ti env nt fin k .ret σ := by
  intro k h
  induction k with
  | nil => exact h
  | code c k ih => exact ih
  | blk id k ih => exact ih
  | lp I k ih => exact ih

theorem run_seq {x y : Code} (h : Run P ti env nt fin x (.code y k) σ) : Run P ti env nt fin (.seq x y) k σ := by
  intro ok henv hmix w0 F0 a w hg
  refine wp_seq (wp_mono (h ok henv hmix w0 F0 a w hg) ?_)
  intro e a' w' ho
  cases e with
  | normal => obtain ⟨τ, h1, h2⟩ := ho; exact h2 ok henv hmix w0 F0 a' w' h1
  | exit id => exact ho
  | goto l => exact ho
  | ret => exact ho
  | panic ch => exact ho
  | outgrown => exact ho
theorem run_block {id : Nat} {c : Code} (h : Run P ti env nt fin c (.blk id k) σ) : Run P ti env nt fin (.block id c) k σ := by
  intro ok henv hmix w0 F0 a w hg
  refine wp_block (wp_mono (h ok henv hmix w0 F0 a w hg) ?_)
  intro e a' w' ho
  cases e with
  | normal => exact ho
  | exit j =>
    obtain ⟨τ, h1, h2⟩ := ho
    simp only [den] at h2
    simp only [Exit.inBlock]
    split
    · rename_i e; rw [if_pos e] at h2; exact ⟨τ, h1, h2⟩
    · rename_i e; rw [if_neg e] at h2; exact ⟨τ, h1, h2⟩
  | goto l => exact ho
  | ret => exact ho
  | panic ch => exact ho
  | outgrown => exact ho
theorem run_skip (h : Step P ti env nt fin k σ) : Run P ti env nt fin .skip k σ := fun ok henv hmix w0 F0 a w hg => wp_skip ⟨σ, hg, h⟩
theorem run_exit {id : Nat} (h : Exits P ti env nt fin k id σ) : Run P ti env nt fin (.exit id) k σ := fun ok henv hmix w0 F0 a w hg => wp_exit ⟨σ, hg, h⟩
theorem run_ret (h : fin σ) : Run P ti env nt fin .ret k σ := fun ok henv hmix w0 F0 a w hg => wp_ret ⟨σ, hg, den_ret h⟩
theorem run_cond {c : Operand} {x y : Code} {b : Bool} (hc : evO (lkS σ.sl) c = .v (.bool b)) (ht : b = true → Run P ti env nt fin x k σ) (hf : b = false → Run P ti env nt fin y k σ) : Run P ti env nt fin (.cond c x y) k σ := by
  intro ok henv hmix w0 F0 a w hg
  obtain ⟨F, G, hm, hs, hsz, hdf⟩ := id hg
  have := evO_ok hs c
  rw [hc] at this
  exact wp_cond_split (RV_v this).1 (fun hb => ht hb ok henv hmix w0 F0 a w hg) (fun hb => hf hb ok henv hmix w0 F0 a w hg)
theorem run_region {id : Nat} {ops : Array Oper} (h : evalQ nt ti env (ops.toList.map (·.dst)) ops.toList σ (Step P ti env nt fin k)) : Run P ti env nt fin (.region id ops false) k σ := by
  intro ok henv hmix w0 F0 a w hg
  exact region_seq ok henv h hg (fun τ a w h1 h2 => ⟨τ, h1, h2⟩)
theorem run_draw {id : Nat} {ops : Array Oper} (hreg : regOk ops.toList = true) (h : evalR nt ti env (ops.toList.map (·.dst)) 0 ops.toList σ [] (fun τ efs => compat ops.toList efs = true ∧ Step P ti env nt fin k τ)) : Run P ti env nt fin (.region id ops true) k σ := by
  intro ok henv hmix w0 F0 a w hg
  exact region_draw ok henv hmix hreg h hg (fun τ a w h1 h2 => ⟨τ, h1, h2⟩)

/-! ### Weakening -/
def AS.le (nt : Nat) (τ σ : AS) : Prop := ∀ w0 F0 a w, Gam w0 F0 nt τ a w → Gam w0 F0 nt σ a w
theorem AS.le.refl (σ : AS) : AS.le nt σ σ := fun _ _ _ _ h => h
theorem run_weak {c : Code} {σ' : AS} (h : AS.le nt σ σ') (hr : Run P ti env nt fin c k σ') : Run P ti env nt fin c k σ := fun ok henv hmix w0 F0 a w hg => hr ok henv hmix w0 F0 a w (h w0 F0 a w hg)

theorem run_loop {ι : Type} (S : ι → AS) (p : ι → Prop) (μ : ι → Nat) (x0 : ι) {c : Code} (hp : p x0) (h0 : AS.le nt σ (S x0))
    (round : ∀ x, p x → Run P ti env nt fin c (.lp (fun τ => ∃ y, p y ∧ μ y < μ x ∧ AS.le nt τ (S y)) k) (S x)) : Run P ti env nt fin (.loop c) k σ := by
  intro ok henv hmix w0 F0 a w hg
  refine wp_loop_ghost (fun n a w => ∃ x, μ x = n ∧ p x ∧ Gam w0 F0 nt (S x) a w) (μ x0) ⟨x0, rfl, hp, h0 w0 F0 a w hg⟩ ?_
  rintro n a w ⟨x, rfl, hpx, hgx⟩
  refine wp_mono (round x hpx ok henv hmix w0 F0 a w hgx) ?_
  intro e a' w' ho
  cases e with
  | normal =>
    obtain ⟨τ, h1, y, h2, h3, h4⟩ := ho
    exact ⟨μ y, h3, y, rfl, h2, h4 w0 F0 a' w' h1⟩
  | exit j => exact ho
  | goto l => exact ho
  | ret => exact ho
  | panic ch => exact ho
  | outgrown => exact ho
/-- The ways through c meet again. -/
theorem run_cut {c : Code} (I : AS → Prop) (h : Run P ti env nt fin c (.lp I k) σ) (h2 : ∀ τ, I τ → Step P ti env nt fin k τ) : Run P ti env nt fin c k σ := by
  intro ok henv hmix w0 F0 a w hg
  refine wp_mono (h ok henv hmix w0 F0 a w hg) ?_
  intro e a' w' ho
  cases e with
  | normal => obtain ⟨τ, h3, h4⟩ := ho; exact ⟨τ, h3, h2 τ h4⟩
  | exit j => exact ho
  | goto l => exact ho
  | ret => exact ho
  | panic ch => exact ho
  | outgrown => exact ho

/-- What follows may start from a weaker state. -/
theorem step_weak {σ' : AS} (h : AS.le nt σ σ') : ∀ {k : Kst}, (∀ I k', k ≠ .lp I k') → (k ≠ .nil) → (∀ id k', k ≠ .blk id k') → Step P ti env nt fin k σ' → Step P ti env nt fin k σ := by
  intro k h1 h2 h3 hs
  cases k with
  | nil => exact absurd rfl h2
  | code c k => exact run_weak h hs
  | blk id k => exact absurd rfl (h3 id k)
  | lp I k => exact absurd rfl (h1 I k)

def Gr (n : Nat) (G : Gm) : Gm := fun id => if id < n then G id else none
/-- One value tells what another tells, of the entries below n. -/
def AV.le (n : Nat) (a b : AV) : Prop := ∀ F G v, RV F G a v → RV F (Gr n G) b v
def AV.under (n : Nat) : AV → Bool
  | .ptr id _ => decide (id < n)
  | .ep id _ _ _ => decide (id < n)
  | .row id => decide (id < n)
  | .pin id _ => decide (id < n)
  | .clo _ i j => decide (i < n ∧ j < n)
  | _ => true
theorem AV.le_refl {n : Nat} {a : AV} (h : a.under n = true) : AV.le n a a := by
  intro F G v hv
  cases a <;> first
    | exact hv
    | (simp only [AV.under, decide_eq_true_eq] at h
       first
         | (obtain ⟨g, c, h1, h2⟩ := hv; exact ⟨g, c, by simp only [Gr]; rw [if_pos h]; exact h1, h2⟩)
         | (obtain ⟨b, c, x, y, h1, h2, h3⟩ := hv; exact ⟨b, c, x, y, h1, (show Gr n G _ = _ by simp only [Gr]; rw [if_pos h.1]; exact h2), (show Gr n G _ = _ by simp only [Gr]; rw [if_pos h.2]; exact h3)⟩)
         | exact (show Gr n G _ = _ by simp only [Gr]; rw [if_pos h]; exact hv)
         | (rcases hv with ⟨h1, h2⟩ | ⟨g, c, h1, h2⟩
            · exact .inl ⟨by simp only [Gr]; rw [if_pos h]; exact h1, h2⟩
            · exact .inr ⟨g, c, by simp only [Gr]; rw [if_pos h]; exact h1, h2⟩))
theorem AV.le_junk {n : Nat} {a : AV} : AV.le n a .junk := fun _ _ _ _ => trivial
theorem AV.le_of_eq {n : Nat} {a b : AV} (e : a = b) (h : b.under n = true) : AV.le n a b := e ▸ AV.le_refl (e ▸ h)
theorem AV.le_int {n : Nat} {k : IntKind} {x y : Int} (e : x = y) : AV.le n (.v (.int k x)) (.v (.int k y)) := AV.le_of_eq (by rw [e]) rfl
theorem AV.le_bool {n : Nat} {x y : Bool} (e : x = y) : AV.le n (vb x) (vb y) := AV.le_of_eq (by rw [e]) rfl
theorem AV.le_lst {n : Nat} {k : K} {x y : List k.T} (e : x = y) : AV.le n (.lst k x) (.lst k y) := AV.le_of_eq (by rw [e]) rfl
theorem AV.le_q {n : Nat} {x y : Rat} {c d : Bool} {s t : Nat} (e : x = y) (hc : d = true → c = true) (hs : s ≤ t) : AV.le n (.q x c s) (.q y d t) := by
  subst e
  intro F G v hv
  obtain ⟨cs, ⟨nn, dd, c1, c2, cn, cd, h1, h2, h3, h4, h5⟩, h6⟩ := (show ∃ cs, RC F (.q x c s) cs ∧ v = .agg cs.toArray from hv)
  obtain ⟨neg, sv, ws, a1, a2, a3, a4, a5⟩ := h2
  obtain ⟨neg', sv', ws', b1, b2, b3, b4, b5⟩ := h3
  exact (show ∃ cs, RC F (.q x d t) cs ∧ v = .agg cs.toArray from ⟨cs, ⟨nn, dd, c1, c2, cn, cd, h1, ⟨neg, sv, ws, a1, a2, by omega, a4, a5⟩, ⟨neg', sv', ws', b1, b2, by omega, b4, b5⟩, h4, fun hd => h5 (hc hd)⟩, h6⟩)

def slLe (n : Nat) (sl : Nat → AV) : List (Nat × AV) → Prop
  | [] => True
  | (t, x) :: r => AV.le n (sl t) x ∧ slLe n sl r
def entLe : Option Ent → Option Ent → Prop
  | _, none => True
  | none, some _ => False
  | some (.box T a), some (.box T' b) => T = T' ∧ ∀ F cs, RC F a cs → RC F b cs
  | some (.box _ _), some (.row _ _ _ _) => False
  | some (.row T k l fz), some (.row T' k' l' fz') => Ent.row T k l fz = Ent.row T' k' l' fz'
  | some (.row _ _ _ _), some (.box _ _) => False
def memLe (n : Nat) (m : MM) : List (Nat × Option Ent) → Prop
  | [] => True
  | (id, e) :: r => (e = none ∨ id < n) ∧ entLe (m id) e ∧ memLe n m r

theorem slLe_lk {n : Nat} {sl : Nat → AV} : ∀ {l : List (Nat × AV)}, slLe n sl l → ∀ t, AV.le n (sl t) (lkS l t) := by
  intro l
  induction l with
  | nil => intro h t; exact AV.le_junk
  | cons p r ih =>
    obtain ⟨t', x⟩ := p
    rintro ⟨h1, h2⟩ t
    simp only [lkS]
    split
    · rename_i e; subst e; exact h1
    · exact ih h2 t
theorem memLe_lk {n : Nat} {m : MM} : ∀ {l : List (Nat × Option Ent)}, memLe n m l → ∀ id e, lkM l id = some e → id < n ∧ entLe (m id) (some e) := by
  intro l
  induction l with
  | nil => intro h id e he; cases he
  | cons p r ih =>
    obtain ⟨id', x⟩ := p
    rintro ⟨h1, h2, h3⟩ id e he
    simp only [lkM] at he
    split at he
    · rename_i e0; subst e0 he
      refine ⟨?_, h2⟩
      rcases h1 with h1 | h1
      · cases h1
      · exact h1
    · exact ih h3 id e he
theorem AS.le_of {τ σ : AS} (h1 : slLe σ.nx (lkS τ.sl) σ.sl) (h2 : memLe σ.nx (lkM τ.mem) σ.mem) : AS.le nt τ σ := by
  rintro w0 F0 a w ⟨F, G, hm, hs, hsz, hdf⟩
  have hgr : ∀ id p, Gr σ.nx G id = some p → G id = some p := by
    intro id p h
    simp only [Gr] at h
    split at h
    · exact h
    · cases h
  refine ⟨F, Gr σ.nx G, ⟨hm.le0, hm.old, hm.fit, hm.below, fun id e he => ?_, ?_, fun id hid => ?_, hm.kfit, hm.kF, fun id e g c he hg => ?_⟩, fun t => slLe_lk h1 t F G _ (hs t), hsz, hdf⟩
  · obtain ⟨h3, h4⟩ := memLe_lk h2 id e he
    have hG : Gr σ.nx G id = G id := by simp only [Gr]; rw [if_pos h3]
    cases hτ : lkM τ.mem id with
    | none => rw [hτ] at h4; cases h4
    | some e' =>
      rw [hτ] at h4
      have ho := hm.own id e' hτ
      cases e' with
      | box T x =>
        cases e with
        | box T' y =>
          obtain ⟨rfl, h5⟩ := h4
          obtain ⟨g, cs, a1, a2, a3, a4, a5⟩ := ho
          exact ⟨g, cs, by rw [hG]; exact a1, a2, a3, a4, h5 F cs a5⟩
        | row T' k' l' fz' => exact h4.elim
      | row T k' l fz =>
        have h5 : e = .row T k' l fz := by
          cases e with
          | box T2 y => exact h4.elim
          | row T2 k2 l2 fz2 => exact Eq.symm h4
        subst h5
        rcases ho with ⟨a1, a2⟩ | ⟨g, c, C, a1, a2⟩
        · exact .inl ⟨by rw [hG]; exact a1, a2⟩
        · exact .inr ⟨g, c, C, by rw [hG]; exact a1, a2⟩
  · intro i i' e e' g c c' hi hi' hg hg'
    obtain ⟨_, h4⟩ := memLe_lk h2 i e hi
    obtain ⟨_, h5⟩ := memLe_lk h2 i' e' hi'
    cases hτ : lkM τ.mem i with
    | none => rw [hτ] at h4; cases h4
    | some x =>
      cases hτ' : lkM τ.mem i' with
      | none => rw [hτ'] at h5; cases h5
      | some y => exact hm.inj i i' x y g c c' hτ hτ' (hgr _ _ hg) (hgr _ _ hg')
  · simp only [Gr]
    rw [if_neg hid]
  · obtain ⟨_, h4⟩ := memLe_lk h2 id e he
    cases hτ : lkM τ.mem id with
    | none => rw [hτ] at h4; cases h4
    | some x => exact hm.kown id x g c hτ (hgr _ _ hg)

/-! ### Results -/
def AVle (a b : AV) : Prop := ∀ F v, RVp F a v → RVp F b v
theorem AVle.rfl {a : AV} : AVle a a := fun _ _ h => h
theorem AVle_of_eq {a b : AV} (e : a = b) : AVle a b := e ▸ AVle.rfl
theorem AVle_of_le {a b : AV} (h : AV.le 0 a b) (h1 : ∀ F v, RVp F a v → RV F (fun _ => none) a v) (h2 : ∀ F G v, RV F G b v → RVp F b v) : AVle a b := fun F v hv => h2 _ _ _ (h F _ v (h1 F v hv))
def resA (ti : TI) (σ : AS) : ResultVar → Option AV
  | .tmp t => some (lkS σ.sl t)
  | .cell a t => match lkS σ.sl a with
    | .ptr id off => match lkM σ.mem id with
      | some (.box _ x) => match ti.sz t with
        | some (n, b) => match x.part off n with
          | some y => if y.agg = b then some y else none
          | none => none
        | none => none
      | _ => none
    | _ => none
def resAs (ti : TI) (σ : AS) : List ResultVar → Option (List AV)
  | [] => some []
  | r :: rs => match resA ti σ r, resAs ti σ rs with
    | some a, some as => some (a :: as)
    | _, _ => none
def lsLe : List AV → AV → Prop
  | [], .tn => True
  | a :: r, .tc x y => AVle a x ∧ lsLe r y
  | _, _ => False
def resLe : List AV → AV → Prop
  | [a], r => AVle a r
  | l, .tup t => lsLe l t
  | _, _ => False
def finR (ti : TI) (rv : List ResultVar) (r : AV) (σ : AS) : Prop :=
  match resAs ti σ rv with
  | some as => (match pubs ti (lkM σ.mem) [] as with
    | some (as', _) => resLe as' r
    | none => False)
  | none => False
end
end Go.AE

/- A function's contract, out of its code on states. -/
namespace Go.AE
open Go.RowKit
set_option linter.unusedVariables false
set_option linter.unusedSectionVars false

def argS : Nat → List AV → List (Nat × AV)
  | _, [] => []
  | i, a :: r => (i, a) :: argS (i + 1) r

section
variable {P : Program} {ti : TI} {env : Env} {F : Fz}

theorem argS_ok {G : Gm} : ∀ {as : List AV} {vs : List Value} {i : Nat}, RVs F as vs → ∀ t, i ≤ t → RV F G (lkS (argS i as) t) (vs.getD (t - i) undef) := by
  intro as
  induction as with
  | nil => intro vs i h t ht; trivial
  | cons a r ih =>
    rintro vs i ⟨v, rs, rfl, h1, h2⟩ t ht
    simp only [argS, lkS]
    by_cases e : i = t
    · subst e; simpa using RV_of_RVp' h1
    · rw [if_neg e]
      have := ih (i := i + 1) h2 t (by omega)
      rw [show t - i = (t - (i + 1)) + 1 by omega]
      simpa using this
theorem RVs.length : ∀ {as : List AV} {vs : List Value}, RVs F as vs → as.length = vs.length := by
  intro as
  induction as with
  | nil => intro vs h; rw [show vs = [] from h]; rfl
  | cons a r ih => rintro vs ⟨v, rs, rfl, h1, h2⟩; simp [ih h2]

def resM (tmps : Array Value) : ResultVar → Sem Value
  | .tmp t => pure (tmps.getD t undef)
  | .cell a t => do loadVar t (← asAddr (tmps.getD a undef))
theorem results_eq (fn : Func) (tmps : Array Value) : results fn tmps = (fn.results.mapM (resM tmps)) >>= fun vs => pure (if h : vs.size = 1 then vs[0] else .tuple vs) := by
  unfold results
  congr 2

theorem resAs_ok (ok : TIOk P ti) {w0 : World} {F0 : Bs} {U : Nat → Prop} {m : MM} {G : Gm} {w : World} {σ : AS} (hm : Mem w0 F0 U (lkM σ.mem) F G w) {tmps : Array Value} (hs : ∀ t, RV F G (lkS σ.sl t) (tmps.getD t undef)) :
    ∀ {rv : List ResultVar} {as : List AV}, resAs ti σ rv = some as → ∃ vs : List Value, (rv.mapM (resM tmps)).run P w = .ok vs w ∧ ∃ hl : as.length = vs.length, ∀ i (h : i < as.length), RV F G as[i] (vs[i]'(hl ▸ h)) := by
  intro rv
  induction rv with
  | nil => intro as h; simp only [resAs, Option.some.injEq] at h; subst h; exact ⟨[], by simp, rfl, fun i h => by simp at h⟩
  | cons r rs ih =>
    intro as h
    simp only [resAs] at h
    split at h
    · rename_i a as' h1 h2
      simp only [Option.some.injEq] at h
      subst h
      obtain ⟨vs, h3, hl, h4⟩ := ih h2
      have h5 : ∃ v, (resM tmps r).run P w = .ok v w ∧ RV F G a v := by
        cases r with
        | tmp t => simp only [resA, Option.some.injEq] at h1; subst h1; exact ⟨_, by simp [resM], hs t⟩
        | cell x t =>
          simp only [resA] at h1
          have hx := hs x
          split at h1
          · rename_i id off hp
            rw [hp] at hx
            split at h1
            · rename_i T y h0
              split at h1
              · rename_i n b hsz
                split at h1
                · rename_i z hpart
                  split at h1
                  · rename_i hb
                    simp only [Option.some.injEq] at h1
                    subst h1
                    obtain ⟨v, h6, h7⟩ := box_load ok hsz hm h0 hpart hb hx
                    refine ⟨v, ?_, RV_of_RVp' h7⟩
                    obtain ⟨g, c, _, e1⟩ := hx
                    rw [e1] at h6
                    simpa [Instr.loadAt, Instr.sureAddr, asAddr, e1, resM] using h6
                  · cases h1
                · cases h1
              · cases h1
            · cases h1
          · cases h1
      obtain ⟨v, h6, h7⟩ := h5
      refine ⟨v :: vs, ?_, by simp [hl], fun i hi => ?_⟩
      · simp only [List.mapM_cons, Sem.run_bind, h6, Result.andThen_ok, h3]
        simp
      · cases i with
        | zero => simpa using h7
        | succ i => simpa using h4 i (by simpa using hi)
    · cases h

theorem lsLe_ok : ∀ {as : List AV} {t : AV} {vs : List Value}, lsLe as t → RVs F as vs → RT F t vs := by
  intro as
  induction as with
  | nil => intro t vs h hv; cases t <;> first | exact hv | exact h.elim
  | cons a r ih =>
    rintro t vs h ⟨v, rs, rfl, h1, h2⟩
    cases t <;> first
      | exact ⟨v, rs, rfl, h.1 F v h1, ih h.2 h2⟩
      | exact h.elim
theorem resLe_ok {as : List AV} {r : AV} {vs : List Value} (h : resLe as r) (hv : RVs F as vs) : RV F (fun _ => none) r (if h : vs.toArray.size = 1 then vs.toArray[0] else .tuple vs.toArray) := by
  have hl := hv.length
  unfold resLe at h
  split at h
  · rename_i a
    obtain ⟨v, rs, rfl, h1, h2⟩ := hv
    obtain rfl : rs = [] := h2
    simpa using RV_of_RVp' (h F v h1)
  · rename_i t hne
    have : ¬ vs.toArray.size = 1 := by
      intro e
      have : as.length = 1 := by simpa [hl] using e
      obtain ⟨a, rfl⟩ := List.length_eq_one_iff.1 this
      exact hne a rfl
    rw [dif_neg this]
    exact ⟨vs, rfl, lsLe_ok h hv⟩
  · exact h.elim

theorem sound_of {g : Nat} {fn : Func} {c : Code} (hf : P.funcs[g]? = some fn) (hname : (fn.name == "runtime.NumGoroutine") = false) (hb : fn.body = some c) (ok : TIOk P ti) (henv : EnvOk P env) (hmix : P.follows .mixedOrders = true) {ct : Ct}
    (h : ∀ as p r, ct as = some (p, r) → p → ∀ F vs, RVs F as vs → ∃ as', RVs F as' vs ∧ Run P ti env fn.ntmps (finR ti fn.results.toList r) c .nil ⟨argS 0 as', [], 0⟩) (hnt : ∀ as p r, ct as = some (p, r) → as.length ≤ fn.ntmps) : Sound P g ct := by
  refine ⟨⟨fn, c, hf, hname, hb⟩, ?_⟩
  intro as p r hct hp w F args hfit hargs
  obtain ⟨as', ha', hrun⟩ := h as p r hct hp F args hargs
  have hlen := hargs.length
  refine calls_of_wp hf hb ?_
  have hgam : Gam w ⟨F, fun _ => none⟩ fn.ntmps ⟨argS 0 as', [], 0⟩ { tmps := args.toArray ++ Array.replicate (fn.ntmps - args.toArray.size) undef, defers := [] } w := by
    refine ⟨F, fun _ => none, ⟨Fz.le.refl F, fun _ _ => rfl, hfit, Below.refl _ _, fun id e he => (by cases he), fun i i' e e' g c c' hi => (by cases hi), fun _ _ => rfl, fun b o h => (by cases h), fun b o h => (by cases h), fun i e g c hi => (by cases hi)⟩, fun t => ?_, ?_, rfl⟩
    · have := argS_ok (G := fun _ => none) (i := 0) ha' t (Nat.zero_le _)
      rw [Nat.sub_zero] at this
      have e : (args.toArray ++ Array.replicate (fn.ntmps - args.toArray.size) undef).getD t undef = args.getD t undef := by
        simp only [Array.getD_eq_getD_getElem?, List.getD_eq_getElem?_getD]
        by_cases ht : t < args.length
        · rw [Array.getElem?_append_left (by simpa using ht)]; simp
        · rw [Array.getElem?_append_right (by simp; omega), List.getElem?_eq_none (by omega), Array.getElem?_replicate]
          split <;> rfl
      rw [e]; exact this
    · have := hnt as p r hct
      simp; omega
  refine wp_mono (hrun ok henv hmix w ⟨F, fun _ => none⟩ _ w hgam) ?_
  have fin : ∀ τ a w', Gam w ⟨F, fun _ => none⟩ fn.ntmps τ a w' → finR ti fn.results.toList r τ → a.defers = [] ∧ ∃ v, (results fn a.tmps).run P w' = .ok v w' ∧ ∃ F' u, F.le F' ∧ (∀ b, b < w.heap.size → F' b = F b) ∧ (∀ b o, F' b = some o → w'.heap[b]? = some o) ∧ Below w.heap.size w w' ∧ (Ending.returned v) = .returned u ∧ RVr w.heap.size w' F' r u := by
    intro τ a w' hg hfin
    obtain ⟨F1, G, hm, hs, hsz, hdf⟩ := hg
    refine ⟨hdf, ?_⟩
    unfold finR at hfin
    split at hfin
    · rename_i rs hrs
      split at hfin
      · rename_i as2 ws hpub
        obtain ⟨vs, h1, hl, h2⟩ := resAs_ok (m := lkM τ.mem) ok hm hs hrs
        obtain ⟨F2, h3, h4, h5⟩ := pubs_ok hpub hm ⟨hl, h2⟩
        refine ⟨_, ?_, F2, _, hm.le0.trans h3, h4.old, h4.fit, hm.below, rfl, RVr_of_RV (resLe_ok hfin h5)⟩
        have : (results fn a.tmps).run P w' = .ok (if h : vs.toArray.size = 1 then vs.toArray[0] else .tuple vs.toArray) w' := by
          rw [results_eq]
          simp only [Array.mapM_eq_mapM_toList, Sem.run_bind, Sem.run_map, h1, Result.andThen_ok]
          rfl
        exact this
      · exact hfin.elim
    · exact hfin.elim
  intro e a w' ho
  cases e with
  | normal => obtain ⟨τ, h1, h2⟩ := ho; exact fin τ a w' h1 h2
  | ret => obtain ⟨τ, h1, h2⟩ := ho; exact fin τ a w' h1 h2
  | exit id => obtain ⟨τ, h1, h2⟩ := ho; exact h2.elim
  | goto l => obtain ⟨τ, h1, h2⟩ := ho; exact h2.elim
  | panic ch => exact ho.elim
  | outgrown => exact ho.elim
def finFr (ti : TI) (rv : List ResultVar) (T : TypeId) (k : K) (l : List k.T) (σ : AS) : Prop :=
  match resAs ti σ rv with
  | some [.row id] => lkM σ.mem id = some (.row T k l false)
  | _ => False
/-- A function whose one result is a row of its own. -/
theorem sound_fr {g : Nat} {fn : Func} {c : Code} (hf : P.funcs[g]? = some fn) (hname : (fn.name == "runtime.NumGoroutine") = false) (hb : fn.body = some c) (ok : TIOk P ti) (henv : EnvOk P env) (hmix : P.follows .mixedOrders = true) {ct : Ct}
    (h : ∀ as p r, ct as = some (p, r) → p → ∀ F vs, RVs F as vs → ∃ as' T k l, r = .fr T k l ∧ RVs F as' vs ∧ Run P ti env fn.ntmps (finFr ti fn.results.toList T k l) c .nil ⟨argS 0 as', [], 0⟩) (hnt : ∀ as p r, ct as = some (p, r) → as.length ≤ fn.ntmps) : Sound P g ct := by
  refine ⟨⟨fn, c, hf, hname, hb⟩, ?_⟩
  intro as p r hct hp w F args hfit hargs
  obtain ⟨as', T, k, l, rfl, ha', hrun⟩ := h as p r hct hp F args hargs
  have hlen := hargs.length
  refine calls_of_wp hf hb ?_
  have hgam : Gam w ⟨F, fun _ => none⟩ fn.ntmps ⟨argS 0 as', [], 0⟩ { tmps := args.toArray ++ Array.replicate (fn.ntmps - args.toArray.size) undef, defers := [] } w := by
    refine ⟨F, fun _ => none, ⟨Fz.le.refl F, fun _ _ => rfl, hfit, Below.refl _ _, fun id e he => (by cases he), fun i i' e e' g c c' hi => (by cases hi), fun _ _ => rfl, fun b o h => (by cases h), fun b o h => (by cases h), fun i e g c hi => (by cases hi)⟩, fun t => ?_, ?_, rfl⟩
    · have := argS_ok (G := fun _ => none) (i := 0) ha' t (Nat.zero_le _)
      rw [Nat.sub_zero] at this
      have e : (args.toArray ++ Array.replicate (fn.ntmps - args.toArray.size) undef).getD t undef = args.getD t undef := by
        simp only [Array.getD_eq_getD_getElem?, List.getD_eq_getElem?_getD]
        by_cases ht : t < args.length
        · rw [Array.getElem?_append_left (by simpa using ht)]; simp
        · rw [Array.getElem?_append_right (by simp; omega), List.getElem?_eq_none (by omega), Array.getElem?_replicate]
          split <;> rfl
      rw [e]; exact this
    · have := hnt as p _ hct
      simp; omega
  refine wp_mono (hrun ok henv hmix w ⟨F, fun _ => none⟩ _ w hgam) ?_
  have fin : ∀ τ a w', Gam w ⟨F, fun _ => none⟩ fn.ntmps τ a w' → finFr ti fn.results.toList T k l τ → a.defers = [] ∧ ∃ v, (results fn a.tmps).run P w' = .ok v w' ∧ ∃ F' u, F.le F' ∧ (∀ b, b < w.heap.size → F' b = F b) ∧ (∀ b o, F' b = some o → w'.heap[b]? = some o) ∧ Below w.heap.size w w' ∧ (Ending.returned v) = .returned u ∧ RVr w.heap.size w' F' (.fr T k l) u := by
    intro τ a w' hg hfin
    obtain ⟨F1, G, hm, hs, hsz, hdf⟩ := hg
    refine ⟨hdf, ?_⟩
    unfold finFr at hfin
    split at hfin
    · rename_i rs id hrs
      obtain ⟨vs, h1, hl, h2⟩ := resAs_ok (m := lkM τ.mem) ok hm hs hrs
      have hvl : vs.length = 1 := by rw [← hl]; rfl
      obtain ⟨x, rfl⟩ := List.length_eq_one_iff.1 hvl
      have hx : RV F1 G (.row id) x := h2 0 (by simp)
      refine ⟨x, ?_, F1, _, hm.le0, hm.old, hm.fit, hm.below, rfl, ?_⟩
      · rw [results_eq]
        simp only [Array.mapM_eq_mapM_toList, Sem.run_bind, Sem.run_map, h1, Result.andThen_ok]
        rfl
      · rcases hm.own id _ hfin with ⟨g1, g2⟩ | ⟨g', c', C, g1, g2, g3, g4, g5, g6, g7, g8, g9⟩
        · rcases hx with ⟨_, rfl⟩ | ⟨g', c', e1, _⟩
          · exact .inl ⟨rfl, g2⟩
          · rw [g1] at e1; cases e1
        · rcases hx with ⟨e1, _⟩ | ⟨g'', c'', e1, rfl⟩
          · rw [g1] at e1; cases e1
          · rw [g1] at e1; cases e1
            exact .inr ⟨g', c'.1, C, by rw [g5], g2, by rw [g3]; rfl, g4, g6, g7, g8, g9⟩
    · exact hfin.elim
  intro e a w' ho
  cases e with
  | normal => obtain ⟨τ, h1, h2⟩ := ho; exact fin τ a w' h1 h2
  | ret => obtain ⟨τ, h1, h2⟩ := ho; exact fin τ a w' h1 h2
  | exit id => obtain ⟨τ, h1, h2⟩ := ho; exact h2.elim
  | goto l => obtain ⟨τ, h1, h2⟩ := ho; exact h2.elim
  | panic ch => exact ho.elim
  | outgrown => exact ho.elim
theorem getD_app1 {α : Type} {l r : List α} {t : Nat} (d : α) (h : t < l.length) : (l ++ r).getD t d = l.getD t d := by
  simp only [List.getD_eq_getElem?_getD, List.getElem?_append_left h]
theorem getD_app2 {α : Type} {l r : List α} {t : Nat} (d : α) (h : l.length ≤ t) : (l ++ r).getD t d = r.getD (t - l.length) d := by
  simp only [List.getD_eq_getElem?_getD, List.getElem?_append_right h]
theorem lkS_argS {r : List (Nat × AV)} : ∀ {l : List AV} {i t : Nat}, lkS (argS i l ++ r) t = if i ≤ t ∧ t - i < l.length then l.getD (t - i) .junk else lkS r t := by
  intro l
  induction l with
  | nil => intro i t; simp [argS]
  | cons a l ih =>
    intro i t
    simp only [argS, List.cons_append, lkS, ih, List.length_cons]
    by_cases h1 : i = t
    · subst h1; simp
    · rw [if_neg h1]
      by_cases h2 : i ≤ t ∧ t - i < l.length + 1
      · rw [if_pos (by omega), if_pos h2, show t - i = t - (i + 1) + 1 by omega]; simp
      · rw [if_neg (by omega), if_neg h2]
/-- Blocks that stay as they are, but for two. -/
def Fz.but (w : World) (g1 g2 : Nat) : Fz := fun b => if b = g1 ∨ b = g2 then none else w.heap[b]?
def finX (ti : TI) (rv : List ResultVar) (g1 g2 : Nat) (T1 T2 : TypeId) (b1 r c2 : AV) (σ : AS) : Prop :=
  lkS σ.sl 1000 = .pin 0 g1 ∧ lkS σ.sl 1001 = .pin 1 g2 ∧ (∃ x, resAs ti σ rv = some [.v x] ∧ r = .v x) ∧ (∃ a, lkM σ.mem 0 = some (.box T1 a) ∧ ∀ F cs, RC F a cs → RC F b1 cs) ∧ ∃ a, lkM σ.mem 1 = some (.box T2 a) ∧ ∀ F cs, RC F a cs → RC F c2 cs
/-- A function that holds two boxes, where avs tell of its last arguments mk. -/
theorem soundX_of {g : Nat} {fn : Func} {c : Code} (hf : P.funcs[g]? = some fn) (hname : (fn.name == "runtime.NumGoroutine") = false) (hb : fn.body = some c) (ok : TIOk P ti) (henv : EnvOk P env) (hmix : P.follows .mixedOrders = true) {mk : Nat → Nat → List Value} {T1 T2 : TypeId} {cc : Cct} (avs : List AV)
    (hmk : ∀ F G g1 g2, G 0 = some (some (g1, 0, 0)) → G 1 = some (some (g2, 0, 0)) → ∀ i, RV F G (avs.getD i .junk) ((mk g1 g2).getD i undef)) (havs : ∀ g1 g2, (mk g1 g2).length = avs.length)
    (h : ∀ as b1 b2 p r c2, cc as b1 b2 = some (p, r, c2) → p → ∀ F vs g1 g2, RVs F as vs → Run P ti env fn.ntmps (finX ti fn.results.toList g1 g2 T1 T2 b1 r c2) c .nil ⟨argS 0 (as ++ avs) ++ [(1000, .pin 0 g1), (1001, .pin 1 g2)], [(0, some (.box T1 b1)), (1, some (.box T2 b2))], 2⟩)
    (hnt : ∀ as b1 b2 p r c2, cc as b1 b2 = some (p, r, c2) → as.length + avs.length ≤ fn.ntmps) : SoundX P g mk T1 T2 cc := by
  refine ⟨⟨fn, c, hf, hname, hb⟩, ?_⟩
  intro as b1 b2 p r c2 hcc hp w F args g1 g2 l1 l2 hfit hargs hF1 hF2 hne hw1 hr1 hw2 hr2
  have hrun := h as b1 b2 p r c2 hcc hp F args g1 g2 hargs
  have hlen := hargs.length
  have hml := havs g1 g2
  refine calls_of_wp hf hb ?_
  obtain ⟨A, hA⟩ : ∃ A, A = args ++ mk g1 g2 := ⟨_, rfl⟩
  rw [← hA]
  have hAl : A.length = as.length + avs.length := by rw [hA, List.length_append, hml, hlen]
  obtain ⟨G, hG⟩ : ∃ G : Gm, G = fun id => if id = 0 then some (some (g1, 0, 0)) else if id = 1 then some (some (g2, 0, 0)) else none := ⟨_, rfl⟩
  have hG0 : G 0 = some (some (g1, 0, 0)) := by rw [hG]; rfl
  have hG1 : G 1 = some (some (g2, 0, 0)) := by rw [hG]; rfl
  have hs1 := (Array.getElem?_eq_some_iff.1 hw1).1
  have hs2 := (Array.getElem?_eq_some_iff.1 hw2).1
  have hK : ∀ b o, Fz.but w g1 g2 b = some o → b ≠ g1 ∧ b ≠ g2 ∧ w.heap[b]? = some o := by
    intro b o e
    unfold Fz.but at e
    split at e
    · cases e
    · rename_i hn; exact ⟨fun e => hn (.inl e), fun e => hn (.inr e), e⟩
  have hgam : Gam { w with heap := #[] } ⟨F, Fz.but w g1 g2⟩ fn.ntmps ⟨argS 0 (as ++ avs) ++ [(1000, .pin 0 g1), (1001, .pin 1 g2)], [(0, some (.box T1 b1)), (1, some (.box T2 b2))], 2⟩ { tmps := A.toArray ++ Array.replicate (fn.ntmps - A.toArray.size) undef, defers := [] } w := by
    have hm0 : ∀ id e, lkM [(0, some (.box T1 b1)), (1, some (.box T2 b2))] id = some e → (id = 0 ∧ e = .box T1 b1) ∨ (id = 1 ∧ e = .box T2 b2) := by
      intro id e he
      simp only [lkM] at he
      split at he
      · rename_i e0; cases he; exact .inl ⟨e0.symm, rfl⟩
      · split at he
        · rename_i e0; cases he; exact .inr ⟨e0.symm, rfl⟩
        · cases he
    refine ⟨F, G, ⟨Fz.le.refl F, fun b hb => absurd hb (by simp), hfit, ⟨rfl, rfl, rfl, Nat.zero_le _, fun k hk => absurd hk (by simp)⟩, fun id e he => ?_, ?_, fun id hid => ?_, fun b o e => (hK b o e).2.2, fun b o e => rfl, ?_⟩, fun t => ?_, ?_, rfl⟩
    · rcases hm0 id e he with ⟨rfl, rfl⟩ | ⟨rfl, rfl⟩
      · exact ⟨g1, l1, hG0, Nat.zero_le _, hF1, hw1, hr1⟩
      · exact ⟨g2, l2, hG1, Nat.zero_le _, hF2, hw2, hr2⟩
    · intro i i' e e' x c c' hi hi' hx hx'
      rcases hm0 i e hi with ⟨rfl, rfl⟩ | ⟨rfl, rfl⟩ <;> rcases hm0 i' e' hi' with ⟨rfl, rfl⟩ | ⟨rfl, rfl⟩
      · rfl
      · rw [hG0] at hx; rw [hG1] at hx'; cases hx; cases hx'; exact absurd rfl hne
      · rw [hG1] at hx; rw [hG0] at hx'; cases hx; cases hx'; exact absurd rfl hne
      · rfl
    · rw [hG]
      simp only
      rw [if_neg (fun e => hid (by show id < 2; omega)), if_neg (fun e => hid (by show id < 2; omega))]
    · intro i e x c hi hx
      show Fz.but w g1 g2 x = none
      unfold Fz.but
      rcases hm0 i e hi with ⟨rfl, rfl⟩ | ⟨rfl, rfl⟩
      · rw [hG0] at hx; cases hx; rw [if_pos (.inl rfl)]
      · rw [hG1] at hx; cases hx; rw [if_pos (.inr rfl)]
    · have e : (A.toArray ++ Array.replicate (fn.ntmps - A.toArray.size) undef).getD t undef = A.getD t undef := by
        simp only [Array.getD_eq_getD_getElem?, List.getD_eq_getElem?_getD]
        by_cases ht : t < A.length
        · rw [Array.getElem?_append_left (by simpa using ht)]; simp
        · rw [Array.getElem?_append_right (by simp; omega), List.getElem?_eq_none (by omega), Array.getElem?_replicate]
          split <;> rfl
      simp only
      rw [e, lkS_argS]
      split
      · rename_i ht
        obtain ⟨_, ht⟩ := ht
        simp only [Nat.sub_zero, List.length_append] at ht ⊢
        by_cases h1 : t < as.length
        · have h3 := argS_ok (G := G) (i := 0) hargs t (Nat.zero_le _)
          have h4 := lkS_argS (r := []) (l := as) (i := 0) (t := t)
          rw [List.append_nil, if_pos ⟨Nat.zero_le _, by omega⟩, Nat.sub_zero] at h4
          rw [h4, Nat.sub_zero] at h3
          rw [hA, getD_app1 _ h1, getD_app1 _ (show t < args.length by omega)]
          exact h3
        · rw [hA, getD_app2 _ (show as.length ≤ t by omega), getD_app2 _ (show args.length ≤ t by omega), hlen]
          exact hmk F G g1 g2 hG0 hG1 _
      · simp only [lkS]
        split
        · exact hG0
        · split
          · exact hG1
          · trivial
    · have := hnt as b1 b2 p r c2 hcc
      simp only [Array.size_append, List.size_toArray, Array.size_replicate]
      omega
  refine wp_mono (hrun ok henv hmix _ _ _ w hgam) ?_
  have fin : ∀ τ a w', Gam { w with heap := #[] } ⟨F, Fz.but w g1 g2⟩ fn.ntmps τ a w' → finX ti fn.results.toList g1 g2 T1 T2 b1 r c2 τ → a.defers = [] ∧ ∃ v, (results fn a.tmps).run P w' = .ok v w' ∧ ∃ F' u l1' l2', F.le F' ∧ (∀ b, b < w.heap.size → F' b = F b) ∧ (∀ b o, F' b = some o → w'.heap[b]? = some o) ∧ (∀ n, n ≤ g1 → n ≤ g2 → Below n w w') ∧ (∀ b, b ≠ g1 → b ≠ g2 → b < w.heap.size → w'.heap[b]? = w.heap[b]?) ∧
      (Ending.returned v) = .returned u ∧ RV F' (fun _ => none) r u ∧ w'.heap[g1]? = some (.cells (List.toArray l1') T1 (0, 0)) ∧ RC F' b1 l1' ∧ w'.heap[g2]? = some (.cells (List.toArray l2') T2 (0, 0)) ∧ RC F' c2 l2' := by
    intro τ a w' hg hfin
    obtain ⟨F1, G1, hm, hs, hsz, hdf⟩ := hg
    obtain ⟨p1, p2, ⟨x, hx, rfl⟩, ⟨a1, m1, i1⟩, ⟨a2, m2, i2⟩⟩ := hfin
    refine ⟨hdf, ?_⟩
    obtain ⟨vs, h1, hl, h2⟩ := resAs_ok (m := lkM τ.mem) ok hm hs hx
    have hvl : vs.length = 1 := by rw [← hl]; rfl
    obtain ⟨y, rfl⟩ := List.length_eq_one_iff.1 hvl
    have hy := h2 0 (by simp)
    have hp1 := hs 1000
    rw [p1] at hp1
    have hp2 := hs 1001
    rw [p2] at hp2
    obtain ⟨x1, k1, e1, e2, e3, e4, e5⟩ := hm.own 0 _ m1
    rw [show G1 0 = some (some (g1, 0, 0)) from hp1] at e1
    cases e1
    obtain ⟨x2, k2, d1, d2, d3, d4, d5⟩ := hm.own 1 _ m2
    rw [show G1 1 = some (some (g2, 0, 0)) from hp2] at d1
    cases d1
    have hother : ∀ b, b ≠ g1 → b ≠ g2 → b < w.heap.size → w'.heap[b]? = w.heap[b]? ∧ F1 b = F b := by
      intro b n1 n2 hb
      have hk : Fz.but w g1 g2 b = some w.heap[b] := by
        unfold Fz.but
        rw [if_neg (by rintro (h | h) <;> contradiction), Array.getElem?_eq_getElem hb]
      exact ⟨by rw [hm.kfit b _ hk, Array.getElem?_eq_getElem hb], hm.kF b _ hk⟩
    have hsize : w.heap.size ≤ w'.heap.size := by
      rcases Nat.eq_zero_or_pos w.heap.size with h0 | h0
      · omega
      · have : w.heap.size - 1 < w'.heap.size := by
          by_cases n1 : w.heap.size - 1 = g1
          · rw [n1]; exact (Array.getElem?_eq_some_iff.1 e4).1
          · by_cases n2 : w.heap.size - 1 = g2
            · rw [n2]; exact (Array.getElem?_eq_some_iff.1 d4).1
            · have := (hother _ n1 n2 (by omega)).1
              rw [Array.getElem?_eq_getElem (show w.heap.size - 1 < w.heap.size by omega)] at this
              exact (Array.getElem?_eq_some_iff.1 this).1
        omega
    refine ⟨y, ?_, F1, _, k1, k2, hm.le0, fun b hb => ?_, hm.fit, fun n n1 n2 => ⟨hm.below.os, hm.below.tape, hm.below.output, hsize, fun b hb => (hother b (by omega) (by omega) (by omega)).1⟩, fun b n1 n2 hb => (hother b n1 n2 hb).1, rfl, hy, e4, i1 _ _ e5, d4, i2 _ _ d5⟩
    · rw [results_eq]
      simp only [Array.mapM_eq_mapM_toList, Sem.run_bind, Sem.run_map, h1, Result.andThen_ok]
      rfl
    · by_cases n1 : b = g1
      · subst n1; rw [e3, hF1]
      · by_cases n2 : b = g2
        · subst n2; rw [d3, hF2]
        · exact (hother b n1 n2 hb).2
  intro e a w' ho
  cases e with
  | normal => obtain ⟨τ, h1, h2⟩ := ho; exact fin τ a w' h1 h2
  | ret => obtain ⟨τ, h1, h2⟩ := ho; exact fin τ a w' h1 h2
  | exit id => obtain ⟨τ, h1, h2⟩ := ho; exact h2.elim
  | goto l => obtain ⟨τ, h1, h2⟩ := ho; exact h2.elim
  | panic ch => exact ho.elim
  | outgrown => exact ho.elim
end
end Go.AE
