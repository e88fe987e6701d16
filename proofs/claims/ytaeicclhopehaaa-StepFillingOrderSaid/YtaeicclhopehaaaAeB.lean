/- What an operation does hangs on its operands, and on the entries that it looks at; what comes last is what stands. -/
import Derived.Test.YtaeicclhopehaaaAeA
namespace Go.AE
open Go.RowKit
set_option linter.unusedVariables false

theorem MM.upd_agree : ∀ (ws : Ws) {m m' : MM} {id : Nat}, m id = m' id → m.upd ws id = m'.upd ws id := by
  intro ws
  induction ws with
  | nil => intro m m' id h; exact h
  | cons p r ih =>
    intro m m' id h
    refine ih ?_
    simp only [MM.set]
    split
    · rfl
    · exact h

theorem pub_congr {m m' : MM} {a : AV} (h : ∀ id ∈ a.ids, m id = m' id) : pub m a = pub m' a := by
  cases a <;> first | rfl | skip
  rename_i id
  simp only [pub, h id (by simp [AV.ids])]
theorem pubs_congr {ti : TI} {ev : Operand → AV} : ∀ {l : List Operand} {ts : List TypeId} {m m' : MM}, (∀ id ∈ lids ev l, m id = m' id) → pubs ti m ts (l.map ev) = pubs ti m' ts (l.map ev) := by
  intro l
  induction l with
  | nil => intro ts m m' h; rfl
  | cons x r ih =>
    intro ts m m' h
    simp only [List.map_cons, pubs]
    rw [pub_congr (m := m) (m' := m') (fun id hid => h id (by simp [lids, hid]))]
    split
    · rw [ih (fun id hid => MM.upd_agree _ (h id (by simp [lids, hid])))]
    · rfl
theorem lids_congr {ev ev' : Operand → AV} : ∀ {l : List Operand}, (∀ x ∈ l, ev x = ev' x) → lids ev l = lids ev' l := by
  intro l
  induction l with
  | nil => intro h; rfl
  | cons x r ih => intro h; simp only [lids]; rw [h x (by simp), ih (fun y hy => h y (by simp [hy]))]

theorem appEff_congr {ti : TI} {m m' : MM} {nid : Nat} {t : TypeId} {s x : AV} (h : ∀ id ∈ s.ids ++ x.ids, m id = m' id) : appEff ti m nid t s x = appEff ti m' nid t s x := by
  unfold appEff
  rw [pub_congr (m := m) (m' := m') (a := x) (fun id hid => h id (by simp [hid]))]
  split
  · rfl
  · split
    · rfl
    · split
      · split
        · rfl
        · cases s <;> first | rfl | skip
          · rename_i y
            cases y <;> first | rfl | skip
            rename_i a n c
            cases a <;> cases n <;> cases c <;> rfl
          · rename_i id
            try dsimp only
            rw [MM.upd_agree _ (h id (by simp [AV.ids]))]
      · rfl

theorem callEff_congr {ti : TI} {env : Env} {ev ev' : Operand → AV} {m m' : MM} {nid : Nat} {c : Call} (h1 : ∀ x ∈ c.operands.toList, ev x = ev' x) (h2 : ∀ id ∈ lids ev c.args.toList, m id = m' id) : callEff ti env ev m nid c = callEff ti env ev' m' nid c := by
  obtain ⟨callee, args, ats⟩ := c
  have ha : ∀ x ∈ args.toList, ev x = ev' x := fun x hx => h1 x (by simp [Call.operands]; right; simpa using hx)
  have hm : args.toList.map ev = args.toList.map ev' := List.map_congr_left ha
  cases callee with
  | value f =>
    have hf : ev f = ev' f := h1 f (by simp [Call.operands])
    simp only [callEff, hf]
    split
    · split
      · rw [pubs_congr (m := m) (m' := m') (ev := ev) h2, hm]
      · rfl
    · rfl
  | invoke r nm => rfl
  | builtin b =>
    cases b <;> try rfl
    case len =>
      simp only [callEff]
      split
      · rename_i x t e1 e2
        have hx : ev x = ev' x := ha x (by rw [e1]; simp)
        have h2' : ∀ id ∈ (ev x).ids, m id = m' id := fun id hid => h2 id (by simp only [e1, lids]; simp [hid])
        rw [← hx]
        split
        · cases hv : ev x <;> try rfl
          · rename_i y
            cases y <;> first | rfl | skip
            rename_i a n c
            cases a <;> cases n <;> cases c <;> rfl
          · rename_i id
            try dsimp only
            rw [h2' id (by rw [hv]; simp [AV.ids])]
        · rfl
      · rfl
    case append =>
      simp only [callEff]
      split
      · rename_i s x t t' e1 e2
        have hs : ev s = ev' s := ha s (by rw [e1]; simp)
        have hx : ev x = ev' x := ha x (by rw [e1]; simp)
        rw [← hs, ← hx]
        split
        · exact appEff_congr (fun id hid => h2 id (by simp only [e1, lids]; simpa using hid))
        · rfl
      · rfl
    case max =>
      simp only [callEff]
      split
      · rename_i x y e1
        rw [ha x (by rw [e1]; simp), ha y (by rw [e1]; simp)]
      · rfl
    case min =>
      simp only [callEff]
      split
      · rename_i x y e1
        rw [ha x (by rw [e1]; simp), ha y (by rw [e1]; simp)]
      · rfl

theorem intOp_congr {ev ev' : Operand → AV} {o : Option Operand} {d : Int} (h : ∀ x, o = some x → ev x = ev' x) : intOp o ev d = intOp o ev' d := by
  cases o with
  | none => rfl
  | some x => simp only [intOp, h x rfl]

theorem opEff_congr {ti : TI} {env : Env} {ev ev' : Operand → AV} {m m' : MM} {nid : Nat} {op : Op} (h1 : ∀ x ∈ op.operands.toList, ev x = ev' x) (h2 : ∀ id ∈ opIds ev op, m id = m' id) : opEff ti env ev m nid op = opEff ti env ev' m' nid op := by
  cases op <;> try rfl
  case move x => simp only [opEff, h1 x (by simp [Op.operands])]
  case assign x => simp only [opEff, h1 x (by simp [Op.operands])]
  case pick c a b => simp only [opEff, h1 c (by simp [Op.operands]), h1 a (by simp [Op.operands]), h1 b (by simp [Op.operands])]
  case box t x =>
    simp only [opEff]
    rw [pub_congr (m := m) (m' := m') (fun id hid => h2 id (by simpa [opIds] using hid)), h1 x (by simp [Op.operands])]
  case build t ps =>
    simp only [opEff]
    have e : ∀ f : Operand → AV, ps.toList.map (fun p => f p.2) = (ps.toList.map (·.2)).map f := fun f => by simp
    rw [e ev, e ev', pubs_congr (m := m) (m' := m') (ev := ev) (fun id hid => h2 id (by simpa [opIds] using hid)), List.map_congr_left (fun x hx => h1 x (by simpa [Op.operands] using hx))]
  case buildSlice t n ps =>
    simp only [opEff]
    have e : ∀ f : Operand → AV, ps.toList.map (fun p => f p.2) = (ps.toList.map (·.2)).map f := fun f => by simp
    rw [e ev, e ev', pubs_congr (m := m) (m' := m') (ev := ev) (fun id hid => h2 id (by simpa [opIds] using hid)), List.map_congr_left (fun x hx => h1 x (by simpa [Op.operands] using hx))]
  case load t p =>
    simp only [opEff]
    have hp := h1 p (by simp [Op.operands])
    rw [← hp]
    split
    · cases hv : ev p <;> try rfl
      · rename_i id off; (try dsimp only); rw [h2 id (by simp [opIds, hv, AV.ids])]
      · rename_i id es i off; (try dsimp only); rw [h2 id (by simp [opIds, hv, AV.ids])]
    · rfl
  case store t p x =>
    simp only [opEff]
    have hp := h1 p (by simp [Op.operands])
    have hx := h1 x (by simp [Op.operands])
    rw [pub_congr (m := m) (m' := m') (fun id hid => h2 id (by simp [opIds, hid])), hx, ← hp]
    split
    · split
      · cases hv : ev p <;> try rfl
        · rename_i id off; (try dsimp only); rw [MM.upd_agree _ (h2 id (by simp [opIds, hv, AV.ids]))]
        · rename_i id es i off
          cases off with
          | zero => rename_i n b x' ws e1 e2 e3; have := MM.upd_agree ws (h2 id (by simp [opIds, hv, AV.ids])); simp only [this]
          | succ n => rfl
      · rfl
    · rfl
  case binOp op t x y t2 => simp only [opEff, h1 x (by simp [Op.operands]), h1 y (by simp [Op.operands])]
  case unOp op t x => simp only [opEff, h1 x (by simp [Op.operands])]
  case convert s d x => simp only [opEff, h1 x (by simp [Op.operands])]
  case field t x j => simp only [opEff, h1 x (by simp [Op.operands])]
  case lookup t x k c =>
    cases c with
    | true => rfl
    | false => simp only [opEff, h1 x (by simp [Op.operands]), h1 k (by simp [Op.operands])]
  case makeSlice t x y => simp only [opEff, h1 x (by simp [Op.operands]), h1 y (by simp [Op.operands])]
  case slice t x lo hi mx =>
    cases mx with
    | some _ => rfl
    | none =>
      simp only [opEff]
      rw [pub_congr (m := m) (m' := m') (fun id hid => h2 id (by simpa [opIds] using hid)), h1 x (by simp [Op.operands])]
      have hlo : ∀ d, intOp lo ev d = intOp lo ev' d := fun d => intOp_congr (fun x hx => h1 x (by subst hx; simp [Op.operands]))
      have hhi : ∀ d, intOp hi ev d = intOp hi ev' d := fun d => intOp_congr (fun x hx => h1 x (by subst hx; simp [Op.operands]))
      simp only [hlo, hhi]
  case fieldAddr s x j => simp only [opEff, h1 x (by simp [Op.operands])]
  case indexAddr t x i =>
    simp only [opEff]
    have hx := h1 x (by simp [Op.operands])
    have hi := h1 i (by simp [Op.operands])
    rw [← hx, ← hi]
    split
    · cases hv : ev x <;> try rfl
      rename_i id
      try dsimp only
      rw [h2 id (by simp [opIds, hv, AV.ids])]
    · rfl
  case extract x i => simp only [opEff, h1 x (by simp [Op.operands])]
  case call c => exact callEff_congr (fun x hx => h1 x hx) h2

/-! ### What was written last -/
section
variable {E V : Type}
def lastW (wr : E → Option V) (L : Nat → Bool) : Nat → List E → V → V
  | _, [], v => v
  | i, e :: r, v => lastW wr L (i + 1) r (if L i = true then (wr e).getD v else v)
theorem lastW_agree (wr : E → Option V) {L L' : Nat → Bool} : ∀ {es : List E} {i : Nat} {v : V}, (∀ k (h : k < es.length), (wr es[k]).isSome = true → L (i + k) = L' (i + k)) → lastW wr L i es v = lastW wr L' i es v := by
  intro es
  induction es with
  | nil => intro i v h; rfl
  | cons e r ih =>
    intro i v h
    simp only [lastW]
    have h0 : (if L i = true then (wr e).getD v else v) = (if L' i = true then (wr e).getD v else v) := by
      cases hw : wr e with
      | none => simp
      | some u => rw [show L i = L' i from h 0 (by simp) (by simp [hw])]
    rw [h0]
    exact ih (fun k hk hs => by have := h (k + 1) (by simpa using hk) (by simpa using hs); rwa [show i + (k + 1) = i + 1 + k by omega] at this)
theorem lastW_none (wr : E → Option V) {L : Nat → Bool} : ∀ {es : List E} {i : Nat} {v : V}, (∀ k (h : k < es.length), (wr es[k]).isSome = true → L (i + k) = false) → lastW wr L i es v = v := by
  intro es
  induction es with
  | nil => intro i v h; rfl
  | cons e r ih =>
    intro i v h
    simp only [lastW]
    have h0 : (if L i = true then (wr e).getD v else v) = v := by
      cases hw : wr e with
      | none => simp
      | some u => rw [show L i = false from h 0 (by simp) (by simp [hw])]; simp
    rw [h0]
    exact ih (fun k hk hs => by have := h (k + 1) (by simpa using hk) (by simpa using hs); rwa [show i + (k + 1) = i + 1 + k by omega] at this)
/-- One more, and nothing behind it has come yet. -/
theorem lastW_ins (wr : E → Option V) {L L' : Nat → Bool} : ∀ {es : List E} {i j : Nat} {v : V} (hj : j < es.length), (∀ k, L' k = (L k || k == i + j)) → (∀ k (h : k < es.length), j < k → (wr es[k]).isSome = true → L (i + k) = false) →
    lastW wr L' i es v = (wr es[j]).getD (lastW wr L i es v) := by
  intro es
  induction es with
  | nil => intro i j v hj; simp at hj
  | cons e r ih =>
    intro i j v hj hL hlater
    simp only [lastW]
    cases j with
    | zero =>
      have h1 : L' i = true := by rw [hL]; simp
      rw [h1, if_pos rfl]
      have hl' : ∀ v, lastW wr L' (i + 1) r v = v := fun v => lastW_none wr (fun k hk hs => by
        have := hlater (k + 1) (by simpa using hk) (by omega) (by simpa using hs)
        rw [hL, show i + 1 + k = i + (k + 1) by omega, this]; simp)
      have hl : ∀ v, lastW wr L (i + 1) r v = v := fun v => lastW_none wr (fun k hk hs => by
        have := hlater (k + 1) (by simpa using hk) (by omega) (by simpa using hs)
        rwa [show i + 1 + k = i + (k + 1) by omega])
      rw [hl', hl]
      simp only [List.getElem_cons_zero]
      cases wr e with
      | none => simp
      | some u => simp
    | succ j =>
      have h1 : L' i = L i := by rw [hL]; simp
      rw [h1]
      have := ih (i := i + 1) (j := j) (v := if L i = true then (wr e).getD v else v) (by simpa using hj) (fun k => by rw [hL, show i + 1 + j = i + (j + 1) by omega]) (fun k hk hjk hs => by
        have := hlater (k + 1) (by simpa using hk) (by omega) (by simpa using hs)
        rwa [show i + 1 + k = i + (k + 1) by omega])
      rw [this]
      simp
end
end Go.AE
