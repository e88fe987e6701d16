/- Regions of many operations: what comes before what, told once. -/
import Derived.Test.YtaeicclhopehaaaGreatGl
namespace Go.AE
open Go.Proofs Go.RowKit
set_option linter.unusedVariables false
set_option linter.unusedSimpArgs false
set_option maxRecDepth 20000

def compatM (M : List Nat) (es : List Ef) : Bool := es.all fun e => es.all fun f => !(decide (e.i < f.i)) || !(clash e f) || (M.getD f.i 0).testBit e.i
theorem compatM_ok {M : List Nat} {es : List Ef} (h : compatM M es = true) : compatM M es = true := h
def regOkM (M : List Nat) (ops : List Oper) : Bool :=
  let dsts := ops.map (·.dst)
  (ops.zipIdx.all fun (o, j) => o.after.toList.all fun e => !Region.binds .any e || e.on < j) &&
  (ops.zipIdx.all fun (o, j) => (names dsts o).all fun t => dsts.zipIdx.all fun (d, i) => d != some t || i == j || (if i < j then (M.getD j 0).testBit i else (M.getD i 0).testBit j))
def chkM (M : List Nat) : List Oper → Nat → Bool
  | [], j => M.length == j
  | o :: r, j => (o.after.toList.all fun e => !Region.binds .any e || decide (e.on < j)) && (decide (j < M.length) && (maskOf M o.after.toList == M.getD j 0 && chkM M r (j + 1)))
theorem maskOf_take {M : List Nat} {j : Nat} : ∀ {l : List Edge}, (l.all fun e => !Region.binds .any e || decide (e.on < j)) = true → maskOf (M.take j) l = maskOf M l
  | [], _ => rfl
  | e :: r, h => by
    simp only [List.all_cons, Bool.and_eq_true] at h
    simp only [maskOf, maskOf_take h.2]
    split
    · rename_i hb
      have h1 := h.1
      rw [hb] at h1
      simp only [Bool.not_true, Bool.false_or, decide_eq_true_eq] at h1
      have : (M.take j).getD e.on 0 = M.getD e.on 0 := by
        rw [List.getD_eq_getElem?_getD, List.getD_eq_getElem?_getD, List.getElem?_take, if_pos h1]
      rw [this]
    · rfl
theorem befs_chk {M : List Nat} : ∀ {ops : List Oper} {j : Nat}, chkM M ops j = true → befs ops (M.take j) = M
  | [], j, h => by
    simp only [chkM, beq_iff_eq] at h
    simp only [befs]
    exact List.take_of_length_le (by omega)
  | o :: r, j, h => by
    simp only [chkM, Bool.and_eq_true, decide_eq_true_eq, beq_iff_eq] at h
    obtain ⟨h1, h2, h3, h4⟩ := h
    simp only [befs]
    rw [maskOf_take h1, h3]
    have e : M.take j ++ [M.getD j 0] = M.take (j + 1) := by
      rw [List.take_add_one, List.getD_eq_getElem?_getD, List.getElem?_eq_getElem h2]; rfl
    rw [e]
    exact befs_chk h4
theorem regOk_M {M : List Nat} {ops : List Oper} (h1 : chkM M ops 0 = true) (h2 : regOkM M ops = true) : regOk ops = true := by
  have e := befs_chk h1
  rw [List.take_zero] at e
  unfold regOk
  rw [e]
  exact h2
theorem compat_M {M : List Nat} {ops : List Oper} {es : List Ef} (h1 : chkM M ops 0 = true) (h2 : compatM M es = true) : compat ops es = true := by
  have e := befs_chk h1
  rw [List.take_zero] at e
  unfold compat
  rw [e]
  exact h2
theorem evalR_id {nt : Nat} {ti : TI} {env : Env} {ds : List (Option Tmp)} {i : Nat} {l : List Oper} {σ : AS} {es : List Ef} {K : AS → List Ef → Prop} (h : evalR nt ti env ds i l σ es K) : evalR nt ti env ds i l σ es K := h
section
variable {P : Program} {ti : TI} {env : Env} {nt : Nat} {fin : AS → Prop} {k : Kst} {σ : AS}
theorem run_drawM {id : Nat} {ops : Array Oper} (M : List Nat) (h1 : chkM M ops.toList 0 = true) (h2 : regOkM M ops.toList = true)
    (h : evalR nt ti env (ops.toList.map (·.dst)) 0 ops.toList σ [] (fun τ efs => compatM M efs = true ∧ Step P ti env nt fin k τ)) : Run P ti env nt fin (.region id ops true) k σ := by
  refine run_draw (regOk_M h1 h2) ?_
  have e : (fun τ efs => compatM M efs = true ∧ Step P ti env nt fin k τ) = (fun τ efs => compat ops.toList efs = true ∧ Step P ti env nt fin k τ) := by
    funext τ efs
    have e := befs_chk h1
    rw [List.take_zero] at e
    unfold compat
    rw [e]
    rfl
  rw [← e]
  exact h
end
end Go.AE
