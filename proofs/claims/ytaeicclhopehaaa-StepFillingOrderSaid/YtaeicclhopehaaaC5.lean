/- Contracts: frac.does. The table of its kinds, walked by hand; then on states. -/
import Derived.Test.YtaeicclhopehaaaC4
import Derived.WideMake
namespace Go.AE
open Go.Proofs Go.RowKit
set_option linter.unusedVariables false
set_option linter.unusedSimpArgs false
set_option maxRecDepth 20000

def fnv (f : Nat) : Value := .agg #[.func (.func f) #[] #[]]
def sAdd : ByteArray := ⟨#[97, 100, 100]⟩
def sSub : ByteArray := ⟨#[115, 117, 98]⟩
def sMul : ByteArray := ⟨#[109, 117, 108]⟩
def sDiv : ByteArray := ⟨#[100, 105, 118]⟩
def kindsEs : List MapEntry := [⟨.string sAdd, fnv 113, 0⟩, ⟨.string sSub, fnv 115, 1⟩, ⟨.string sMul, fnv 116, 2⟩, ⟨.string sDiv, fnv 117, 3⟩]
def kindsObj : Obj := .map kindsEs.toArray 4
section
variable {ops : Array Oper} {rest : List Nat} {Q : Exit → Act → World → Prop} {i : Nat} {o : Oper} {a : Act} {w w' : World} {v : Value}
theorem ops_val {a' : Act} (ha : a' = a.put o.dst v) (hi : ops[i]? = some o) (hg : o.guard = none) (h : (execOp a.eval o).run Try.prog w = .ok (.value v) w') (hn : wpOps Try.prog ops Q rest a' w') : wpOps Try.prog ops Q (i :: rest) a w := by
  subst ha
  simp only [wpOps, hi]
  rw [if_pos (by simp [Region.wanted, hg])]
  exact .inl (OpGoal.of_run (Ψ := fun v' w'' => v' = v ∧ w'' = w') h ⟨rfl, rfl⟩ _ _ (by rintro _ _ ⟨rfl, rfl⟩; exact hn))
theorem ops_skip (hi : ops[i]? = some o) (hg : o.guard = none) (hd : o.dst = none) (h : (execOp a.eval o).run Try.prog w = .ok .skip w') (hn : wpOps Try.prog ops Q rest a w') : wpOps Try.prog ops Q (i :: rest) a w := by
  simp only [wpOps, hi]
  rw [if_pos (by simp [Region.wanted, hg])]
  exact .inl (OpGoal.of_skip (Ψ := fun v' w'' => w'' = w') h rfl _ _ (by rintro _ _ rfl; rw [hd]; exact hn))
end
/-- The table's block, among the rest as it was. -/
structure MW (w w' : World) (es : List MapEntry) (c : Nat) : Prop where
  b : Below w.heap.size w w'
  h : w'.heap[w.heap.size]? = some (.map es.toArray c)
theorem MW.ins {w w' : World} {es : List MapEntry} {c : Nat} (h : MW w w' es c) (s : ByteArray) (v : Value) (hf : Instr.findNow .string (.string s) es 0 = some none) :
    ∃ w2, (Instr.mapUpdate 141 (.map (some w.heap.size)) (.string s) v).run Try.prog w' = .ok () w2 ∧ MW w w2 (es ++ [⟨.string s, v, c⟩]) (c + 1) := by
  obtain ⟨kt, e, h1, h2⟩ := tiOk.ms 141 rfl
  have hc : (Instr.checkKey false 10000 kt (.string s)).run Try.prog w' = .ok () w' := MapKept.run_checkKey (k := .string s) h2 (by simp [MapKept.IsKey]) false 9999
  refine ⟨{ w' with heap := w'.heap.setIfInBounds w.heap.size (.map (es ++ [({ key := .string s, val := v, born := c } : MapEntry)]).toArray (c + 1)) }, ?_, ⟨⟨h.b.os, h.b.tape, h.b.output, by simpa using h.b.size, fun k hk => ?_⟩, ?_⟩⟩
  · simp [Instr.mapUpdate, run_underlying h1, MapKept.run_getObj_map h.h, hc, MapKept.run_findKey h2 (l := es) hf, MapKept.run_setObj_map _ h.h, Result.andThen]
  · simp only [Array.getElem?_setIfInBounds]
    rw [if_neg (by omega)]; exact h.b.block k hk
  · simp only [Array.getElem?_setIfInBounds]
    rw [if_pos trivial, if_pos (Array.getElem?_eq_some_iff.1 h.h).1]

theorem run_kinds {cx cy c : Code} (hcode : Try.f76.body = some (.seq cx (.seq c cy))) {env : Env} {fin : AS → Prop} {k : Kst} {σ : AS} (hk : Step Try.prog ti env 24 fin k ⟨[(7, .mp kindsObj), (0, lkS σ.sl 0), (4, lkS σ.sl 4), (5, lkS σ.sl 5), (6, lkS σ.sl 6)], σ.mem, σ.nx⟩) : Run Try.prog ti env 24 fin c k σ := by
  cases hcode
  intro ok henv hmix w0 F0 a w hg
  obtain ⟨F, G, hm, hs, hsz, hdf⟩ := hg
  refine wp_region ?_
  simp only [List.size_toArray, List.length_cons, List.length_nil, Nat.reduceAdd]
  rw [show List.range 11 = [0, 1, 2, 3, 4, 5, 6, 7, 8, 9, 10] from rfl]
  have m0 : MW w (w.alloc (.map #[] 0)) [] 0 := ⟨(Below.refl _ w).alloc (Nat.le_refl _) _, World.alloc_heap_new w _⟩
  have psz : ∀ (a : Act) d v, (a.put (some d) v).tmps.size = a.tmps.size := fun a d v => by simp [Act.put]
  have get : ∀ (a : Act) (d : Tmp) (v : Value), a.tmps.size = 24 → d < 24 → ∀ t, (a.put (some d) v).eval (.tmp t) = if t = d then v else a.eval (.tmp t) := fun a d v h1 h2 t => put_getD a d v (by rw [h1]; exact h2) t
  have hbuild : ∀ (f : Nat) (a : Act) (w : World) (o : Oper), o.op = .build 140 #[(0, .func f)] → (execOp a.eval o).run Try.prog w = .ok (.value (fnv f)) w := by
    intro f a w o ho
    have hb : Try.prog.built 140 [(0, .func (.func f) #[] #[])] = some #[.func (.func f) #[] #[]] := rfl
    have hr : (Instr.build 140 #[(0, a.eval (.func f))]).run Try.prog w = .ok (.agg #[.func (.func f) #[] #[]]) w := run_build w 140 #[(0, a.eval (.func f))] #[.func (.func f) #[] #[]] hb
    simp [execOp, ho, hr, fnv]
  have hins : ∀ (a : Act) (w1 w2 : World) (o : Oper) (x : Tmp) (key : ByteArray) (v : Value), o.op = .insert 141 (.tmp 8) (.const (.string key)) (.tmp x) → a.eval (.tmp 8) = .map (some w.heap.size) → a.eval (.tmp x) = v →
      (Instr.mapUpdate 141 (.map (some w.heap.size)) (.string key) v).run Try.prog w1 = .ok () w2 → (execOp a.eval o).run Try.prog w1 = .ok .skip w2 := by
    intro a w1 w2 o x key v ho h1 h2 h3
    simp [execOp, ho, h1, h2, h3, show a.eval (.const (.string key)) = .string key from rfl]
  obtain ⟨a1, ha1⟩ : ∃ a1, a1 = a.put (some 8) (.map (some w.heap.size)) := ⟨_, rfl⟩
  have s1 : a1.tmps.size = 24 := by rw [ha1, psz, hsz]
  have d1 : a1.defers = [] := by rw [ha1]; exact hdf
  have g1 : ∀ t : Nat, t < 8 → a1.eval (.tmp t) = a.eval (.tmp t) := fun t ht => by rw [ha1, get _ _ _ hsz (by decide), if_neg (show ¬ t = 8 by omega)]
  have e1 : a1.eval (.tmp 8) = .map (some w.heap.size) := by rw [ha1, get _ _ _ hsz (by decide), if_pos rfl]
  refine ops_val (v := .map (some w.heap.size)) (w' := w.alloc (.map #[] 0)) ha1 rfl rfl (by simp [execOp, run_makeMap_plain]) ?_
  clear ha1
  obtain ⟨w1, r1, m1⟩ := m0.ins sAdd (fnv 113) rfl
  obtain ⟨w2, r2, m2⟩ := m1.ins sSub (fnv 115) rfl
  obtain ⟨w3, r3, m3⟩ := m2.ins sMul (fnv 116) rfl
  obtain ⟨w4, r4, m4⟩ := m3.ins sDiv (fnv 117) rfl
  obtain ⟨a2, ha2⟩ : ∃ b, b = a1.put (some 9) (fnv 113) := ⟨_, rfl⟩
  have s2 : a2.tmps.size = 24 := by rw [ha2, psz, s1]
  have d2 : a2.defers = [] := by rw [ha2]; exact d1
  have g2 : ∀ t : Nat, t < 8 → a2.eval (.tmp t) = a.eval (.tmp t) := fun t ht => by rw [ha2, get _ _ _ s1 (by decide), if_neg (fun h => by subst h; revert ht; decide), g1 t (by omega)]
  have e2 : a2.eval (.tmp 8) = .map (some w.heap.size) := by rw [ha2, get _ _ _ s1 (by decide), if_neg (by decide), e1]
  have f2 : a2.eval (.tmp 9) = fnv 113 := by rw [ha2, get _ _ _ s1 (by decide), if_pos rfl]
  refine ops_val ha2 rfl rfl (hbuild _ _ _ _ rfl) ?_
  clear ha2
  refine ops_skip (w' := w1) rfl rfl rfl (hins _ _ _ _ 9 _ _ rfl e2 f2 r1) ?_
  obtain ⟨a3, ha3⟩ : ∃ b, b = a2.put (some 10) (fnv 115) := ⟨_, rfl⟩
  have s3 : a3.tmps.size = 24 := by rw [ha3, psz, s2]
  have d3 : a3.defers = [] := by rw [ha3]; exact d2
  have g3 : ∀ t : Nat, t < 8 → a3.eval (.tmp t) = a.eval (.tmp t) := fun t ht => by rw [ha3, get _ _ _ s2 (by decide), if_neg (fun h => by subst h; revert ht; decide), g2 t (by omega)]
  have e3 : a3.eval (.tmp 8) = .map (some w.heap.size) := by rw [ha3, get _ _ _ s2 (by decide), if_neg (by decide), e2]
  have f3 : a3.eval (.tmp 10) = fnv 115 := by rw [ha3, get _ _ _ s2 (by decide), if_pos rfl]
  refine ops_val ha3 rfl rfl (hbuild _ _ _ _ rfl) ?_
  clear ha3
  refine ops_skip (w' := w2) rfl rfl rfl (hins _ _ _ _ 10 _ _ rfl e3 f3 r2) ?_
  obtain ⟨a4, ha4⟩ : ∃ b, b = a3.put (some 11) (fnv 116) := ⟨_, rfl⟩
  have s4 : a4.tmps.size = 24 := by rw [ha4, psz, s3]
  have d4 : a4.defers = [] := by rw [ha4]; exact d3
  have g4 : ∀ t : Nat, t < 8 → a4.eval (.tmp t) = a.eval (.tmp t) := fun t ht => by rw [ha4, get _ _ _ s3 (by decide), if_neg (fun h => by subst h; revert ht; decide), g3 t (by omega)]
  have e4 : a4.eval (.tmp 8) = .map (some w.heap.size) := by rw [ha4, get _ _ _ s3 (by decide), if_neg (by decide), e3]
  have f4 : a4.eval (.tmp 11) = fnv 116 := by rw [ha4, get _ _ _ s3 (by decide), if_pos rfl]
  refine ops_val ha4 rfl rfl (hbuild _ _ _ _ rfl) ?_
  clear ha4
  refine ops_skip (w' := w3) rfl rfl rfl (hins _ _ _ _ 11 _ _ rfl e4 f4 r3) ?_
  obtain ⟨a5, ha5⟩ : ∃ b, b = a4.put (some 12) (fnv 117) := ⟨_, rfl⟩
  have s5 : a5.tmps.size = 24 := by rw [ha5, psz, s4]
  have d5 : a5.defers = [] := by rw [ha5]; exact d4
  have g5 : ∀ t : Nat, t < 8 → a5.eval (.tmp t) = a.eval (.tmp t) := fun t ht => by rw [ha5, get _ _ _ s4 (by decide), if_neg (fun h => by subst h; revert ht; decide), g4 t (by omega)]
  have e5 : a5.eval (.tmp 8) = .map (some w.heap.size) := by rw [ha5, get _ _ _ s4 (by decide), if_neg (by decide), e4]
  have f5 : a5.eval (.tmp 12) = fnv 117 := by rw [ha5, get _ _ _ s4 (by decide), if_pos rfl]
  refine ops_val ha5 rfl rfl (hbuild _ _ _ _ rfl) ?_
  clear ha5
  refine ops_skip (w' := w4) rfl rfl rfl (hins _ _ _ _ 12 _ _ rfl e5 f5 r4) ?_
  obtain ⟨a6, ha6⟩ : ∃ b, b = a5.put (some 13) (.map (some w.heap.size)) := ⟨_, rfl⟩
  refine ops_val (w' := w4) (v := .map (some w.heap.size)) ha6 rfl rfl (by simp [execOp, e5]) ?_
  have s6 : a6.tmps.size = 24 := by rw [ha6, psz, s5]
  have d6 : a6.defers = [] := by rw [ha6]; exact d5
  have g6 : ∀ t : Nat, t < 8 → a6.eval (.tmp t) = a.eval (.tmp t) := fun t ht => by rw [ha6, get _ _ _ s5 (by decide), if_neg (fun h => by subst h; revert ht; decide), g5 t (by omega)]
  have f6 : a6.eval (.tmp 13) = .map (some w.heap.size) := by rw [ha6, get _ _ _ s5 (by decide), if_pos rfl]
  obtain ⟨a7, ha7⟩ : ∃ b, b = a6.put (some 7) (.map (some w.heap.size)) := ⟨_, rfl⟩
  refine ops_val (w' := w4) (v := .map (some w.heap.size)) ha7 rfl rfl (by simp [execOp, f6]) ?_
  have s7 : a7.tmps.size = 24 := by rw [ha7, psz, s6]
  have d7 : a7.defers = [] := by rw [ha7]; exact d6
  have g7 : ∀ t : Nat, t < 7 → a7.eval (.tmp t) = a.eval (.tmp t) := fun t ht => by rw [ha7, get _ _ _ s6 (by decide), if_neg (fun h => by subst h; revert ht; decide), g6 t (by omega)]
  have f7 : a7.eval (.tmp 7) = .map (some w.heap.size) := by rw [ha7, get _ _ _ s6 (by decide), if_pos rfl]
  clear ha6 ha7
  refine ⟨_, ?_, hk⟩
  obtain ⟨F', hF'⟩ : ∃ F' : Fz, F' = fun b => if b = w.heap.size then some kindsObj else F b := ⟨_, rfl⟩
  have hle : F.le F' := by
    intro b o e
    have := hm.lt e
    rw [hF']; simp only; rw [if_neg (by omega)]; exact e
  refine ⟨F', G, hm.called hle (fun b hb => by rw [hF']; simp only; rw [if_neg (by omega)]) ?_ m4.b, ?_, s7, d7⟩
  · intro b o e
    rw [hF'] at e
    simp only at e
    split at e
    · rename_i h; cases e; rw [h]; exact m4.h
    · rw [m4.b.block b (hm.lt e)]; exact hm.fit b o e
  · intro t
    have key : ∀ t : Nat, t < 7 → RV F' G (lkS σ.sl t) (a7.tmps.getD t undef) := fun t ht => by
      have := (hs t).mono hle (Gm.le.refl G)
      rw [show a7.tmps.getD t undef = a.tmps.getD t undef from g7 t ht]; exact this
    simp only [lkS]
    by_cases h7 : t = 7
    · subst h7
      rw [if_pos rfl, show a7.tmps.getD 7 undef = .map (some w.heap.size) from f7]
      exact (show ∃ b, [_] = [_] ∧ F' b = some kindsObj from ⟨w.heap.size, rfl, by rw [hF']; simp⟩)
    · rw [if_neg (Ne.symm h7)]
      split
      · rename_i e; subst e; exact key 0 (by decide)
      · split
        · rename_i e; subst e; exact key 4 (by decide)
        · split
          · rename_i e; subst e; exact key 5 (by decide)
          · split
            · rename_i e; subst e; exact key 6 (by decide)
            · trivial

def env10 : Env := fun g => match g with | 69 => some ctOf | 113 => some ctKAdd | 115 => some ctKSub | 116 => some ctKMul | 117 => some ctKDiv | 118 => some ctLeast | _ => none
theorem env10_ok : EnvOk Try.prog env10 := by
  intro g ct h
  simp only [env10] at h
  split at h <;> first | (cases h; exact ok69) | (cases h; exact ok113) | (cases h; exact ok115) | (cases h; exact ok116) | (cases h; exact ok117) | (cases h; exact ok118) | cases h
def kOf (w : ByteArray) : Nat := if w = sAdd then 0 else if w = sSub then 1 else if w = sMul then 2 else if w = sDiv then 3 else 4
theorem kOf_add : kOf ⟨#[97, 100, 100]⟩ = 0 := by decide
theorem kOf_sub : kOf ⟨#[115, 117, 98]⟩ = 1 := by decide
theorem kOf_mul : kOf ⟨#[109, 117, 108]⟩ = 2 := by decide
theorem kOf_div : kOf ⟨#[100, 105, 118]⟩ = 3 := by decide
theorem find_add : findS ⟨#[97, 100, 100]⟩ kindsEs = some (fnv 113) := by rfl
theorem find_sub : findS ⟨#[115, 117, 98]⟩ kindsEs = some (fnv 115) := by rfl
theorem find_mul : findS ⟨#[109, 117, 108]⟩ kindsEs = some (fnv 116) := by rfl
theorem find_div : findS ⟨#[100, 105, 118]⟩ kindsEs = some (fnv 117) := by rfl
def ctDoes : Ct := fun l => match l with
  | [.v (.string w), .q x c s, .q y d t] => match kOf w with
    | 0 => some (s ≤ 33554432 ∧ t ≤ 33554432, .q (x + y) true (s + t + 8))
    | 1 => some (s ≤ 33554432 ∧ t ≤ 33554432, .q (x - y) true (s + t + 8))
    | 2 => some (s ≤ 33554432 ∧ t ≤ 33554432, .q (x * y) true (s + t + 8))
    | 3 => some (s ≤ 33554432 ∧ t ≤ 33554432 ∧ y ≠ 0, .q (x / y) true (s + t + 8))
    | _ => none
  | _ => none
theorem rat_add' {a b c d : Int} (hb : 0 < b) (hd : 0 < d) : ((a * d + c * b : Int) : Rat) / ((b * d : Int) : Rat) = (a : Rat) / b + (c : Rat) / d := by
  have := rat_ne (show b ≠ 0 by omega)
  have := rat_ne (show d ≠ 0 by omega)
  rw [Rat.intCast_add, Rat.intCast_mul, Rat.intCast_mul, Rat.intCast_mul]
  grind
theorem rat_sub' {a b c d : Int} (hb : 0 < b) (hd : 0 < d) : ((a * d - c * b : Int) : Rat) / ((b * d : Int) : Rat) = (a : Rat) / b - (c : Rat) / d := by
  have := rat_ne (show b ≠ 0 by omega)
  have := rat_ne (show d ≠ 0 by omega)
  rw [Rat.intCast_sub, Rat.intCast_mul, Rat.intCast_mul, Rat.intCast_mul]
  grind
theorem rat_mul' {a b c d : Int} (hb : 0 < b) (hd : 0 < d) : ((a * c : Int) : Rat) / ((b * d : Int) : Rat) = (a : Rat) / b * ((c : Rat) / d) := by
  have := rat_ne (show b ≠ 0 by omega)
  have := rat_ne (show d ≠ 0 by omega)
  rw [Rat.intCast_mul, Rat.intCast_mul]
  grind
theorem rat_div' {a b c d : Int} (hb : 0 < b) (hd : 0 < d) (hc : c ≠ 0) : qval (a * d) (b * c) = (a : Rat) / b / ((c : Rat) / d) := by
  have h1 := rat_ne (show b ≠ 0 by omega)
  have h2 := rat_ne (show d ≠ 0 by omega)
  have h3 := rat_ne hc
  rw [qval, if_neg (by intro h; rcases Int.mul_eq_zero.1 h with h | h <;> omega), Rat.intCast_mul, Rat.intCast_mul]
  grind
theorem ok76 : Sound Try.prog 76 ctDoes := by
  refine sound_of (fn := Try.f76) rfl rfl rfl tiOk env10_ok mix ?_ (by intro l p r h; unfold ctDoes at h; split at h <;> first | cases h | (split at h <;> cases h <;> exact Nat.le_of_ble_eq_true rfl))
  intro l p r h hp F vs hv
  unfold ctDoes at h
  split at h
  rotate_left
  · cases h
  rename_i w x c s y d t
  have hw : (w = ⟨#[97, 100, 100]⟩ ∨ w = ⟨#[115, 117, 98]⟩) ∨ (w = ⟨#[109, 117, 108]⟩ ∨ w = ⟨#[100, 105, 118]⟩) := by
    by_cases h1 : w = sAdd
    · exact .inl (.inl h1)
    by_cases h2 : w = sSub
    · exact .inl (.inr h2)
    by_cases h3 : w = sMul
    · exact .inr (.inl h3)
    by_cases h4 : w = sDiv
    · exact .inr (.inr h4)
    simp [kOf, h1, h2, h3, h4] at h
  obtain ⟨v0, rest0, rfl, a0, hv⟩ := hv
  obtain ⟨v1, rest1, rfl, a1, hv⟩ := hv
  obtain ⟨n1, d1, cn1, cd1, a1, val1, can1⟩ := open_q a1
  obtain ⟨v2, rest2, rfl, a2, hv⟩ := hv
  obtain ⟨n2, d2, cn2, cd2, a2, val2, can2⟩ := open_q a2
  refine ⟨[_, _, _], ⟨_, _, rfl, a0, _, _, rfl, a1, _, _, rfl, a2, hv⟩, ?_⟩
  rcases hw with (rfl | rfl) | (rfl | rfl)
  · simp only [kOf_add, Option.some.injEq, Prod.mk.injEq] at h
    obtain ⟨rfl, rfl⟩ := h
    show Run Try.prog ti env10 24 (finR ti [.cell 6 33] _) _ _ _
    refine run_seq (run_region ?_)
    simp only [↓guardP_tt, ↓guardP_tf, ↓guardP_ft, ↓guardP_ff, guardP_t, guardP_f, evalQ, evalR, effQ, effR, skipS, opEff, evO, plainV, lkS, lkM, updL, putS, tie_sz, tie_zero, tie_zeroB, tie_fld, tie_ek, tie_int, tie_isb, tie_eq2, tie_f1, tie_ms,  ti_f1, ti_ms, ti_sz, ti_zero, ti_zeroB, ti_fld, ti_ek, ti_int, ti_isb, ti_eq2, binA, binI, intOp, appEff, foldB, foldS, castL_self, K.enc, K.dec, K.zero, K.es, K.bytes, AV.part, AV.setPart, AV.cells, AV.agg, AV.nth, Bool.false_eq_true, callEff, pubs, pub, nilAV, MM.upd, MM.set, argS, gdst, opIds, lids, AV.ids, List.getD_cons_succ, List.getD_cons_zero, List.map, List.tail, List.headD, List.nil_append, List.append_nil, List.cons_append, List.length_nil, List.length_cons, List.zip_cons_cons, List.zip_nil_right, List.set_cons_zero, List.set_cons_succ, List.replicate, Option.isSome_some, Option.map_some, Bool.not_true, Bool.not_false, forall_const, false_implies, Nat.reduceAdd, Nat.reduceEqDiff, Nat.reduceLT, Nat.reduceSub, Nat.reduceMul, Nat.reduceLeDiff, ↓reduceIte, and_true, true_and, and_self, false_and, and_false, reduceCtorEq, env10]
    refine step_code (run_seq (run_kinds rfl ?_))
    simp only [↓guardP_tt, ↓guardP_tf, ↓guardP_ft, ↓guardP_ff, guardP_t, guardP_f, evalQ, evalR, effQ, effR, skipS, opEff, evO, plainV, lkS, lkM, updL, putS, tie_sz, tie_zero, tie_zeroB, tie_fld, tie_ek, tie_int, tie_isb, tie_eq2, tie_f1, tie_ms,  ti_f1, ti_ms, ti_sz, ti_zero, ti_zeroB, ti_fld, ti_ek, ti_int, ti_isb, ti_eq2, binA, binI, intOp, appEff, foldB, foldS, castL_self, K.enc, K.dec, K.zero, K.es, K.bytes, AV.part, AV.setPart, AV.cells, AV.agg, AV.nth, Bool.false_eq_true, callEff, pubs, pub, nilAV, MM.upd, MM.set, argS, gdst, opIds, lids, AV.ids, List.getD_cons_succ, List.getD_cons_zero, List.map, List.tail, List.headD, List.nil_append, List.append_nil, List.cons_append, List.length_nil, List.length_cons, List.zip_cons_cons, List.zip_nil_right, List.set_cons_zero, List.set_cons_succ, List.replicate, Option.isSome_some, Option.map_some, Bool.not_true, Bool.not_false, forall_const, false_implies, Nat.reduceAdd, Nat.reduceEqDiff, Nat.reduceLT, Nat.reduceSub, Nat.reduceMul, Nat.reduceLeDiff, ↓reduceIte, and_true, true_and, and_self, false_and, and_false, reduceCtorEq, env10]
    repeat' (first | with_reducible refine run_seq ?_ | with_reducible refine run_block ?_ | with_reducible refine step_code ?_ | with_reducible refine step_blk ?_ | with_reducible refine run_skip ?_ | with_reducible refine run_exit ?_ | with_reducible refine exits_code ?_ | with_reducible refine exits_here ?_ | with_reducible refine exits_blk rfl ?_ | with_reducible refine exits_lp ?_ | with_reducible refine run_ret ?_ | (with_reducible refine run_region ?_; simp only [↓guardP_tt, ↓guardP_tf, ↓guardP_ft, ↓guardP_ff, guardP_t, guardP_f, evalQ, evalR, effQ, effR, skipS, opEff, evO, plainV, lkS, lkM, updL, putS, tie_sz, tie_zero, tie_zeroB, tie_fld, tie_ek, tie_int, tie_isb, tie_eq2, tie_f1, tie_ms,  ti_f1, ti_ms, ti_sz, ti_zero, ti_zeroB, ti_fld, ti_ek, ti_int, ti_isb, ti_eq2, binA, binI, intOp, appEff, foldB, foldS, castL_self, K.enc, K.dec, K.zero, K.es, K.bytes, AV.part, AV.setPart, AV.cells, AV.agg, AV.nth, Bool.false_eq_true, callEff, pubs, pub, nilAV, MM.upd, MM.set, argS, gdst, opIds, lids, AV.ids, List.getD_cons_succ, List.getD_cons_zero, List.map, List.tail, List.headD, List.nil_append, List.append_nil, List.cons_append, List.length_nil, List.length_cons, List.zip_cons_cons, List.zip_nil_right, List.set_cons_zero, List.set_cons_succ, List.replicate, Option.isSome_some, Option.map_some, Bool.not_true, Bool.not_false, forall_const, false_implies, Nat.reduceAdd, Nat.reduceEqDiff, Nat.reduceLT, Nat.reduceSub, Nat.reduceMul, Nat.reduceLeDiff, ↓reduceIte, and_true, true_and, and_self, false_and, and_false, reduceCtorEq, env10, ctOf, ctKAdd, ctLeast, kindsObj, find_add, fnv]) | (with_reducible refine run_draw (by kernel_rfl) ?_; simp only [↓guardP_tt, ↓guardP_tf, ↓guardP_ft, ↓guardP_ff, guardP_t, guardP_f, evalQ, evalR, effQ, effR, skipS, opEff, evO, plainV, lkS, lkM, updL, putS, tie_sz, tie_zero, tie_zeroB, tie_fld, tie_ek, tie_int, tie_isb, tie_eq2, tie_f1, tie_ms,  ti_f1, ti_ms, ti_sz, ti_zero, ti_zeroB, ti_fld, ti_ek, ti_int, ti_isb, ti_eq2, binA, binI, intOp, appEff, foldB, foldS, castL_self, K.enc, K.dec, K.zero, K.es, K.bytes, AV.part, AV.setPart, AV.cells, AV.agg, AV.nth, Bool.false_eq_true, callEff, pubs, pub, nilAV, MM.upd, MM.set, argS, gdst, opIds, lids, AV.ids, List.getD_cons_succ, List.getD_cons_zero, List.map, List.tail, List.headD, List.nil_append, List.append_nil, List.cons_append, List.length_nil, List.length_cons, List.zip_cons_cons, List.zip_nil_right, List.set_cons_zero, List.set_cons_succ, List.replicate, Option.isSome_some, Option.map_some, Bool.not_true, Bool.not_false, forall_const, false_implies, Nat.reduceAdd, Nat.reduceEqDiff, Nat.reduceLT, Nat.reduceSub, Nat.reduceMul, Nat.reduceLeDiff, ↓reduceIte, and_true, true_and, and_self, false_and, and_false, reduceCtorEq, env10, ctOf, ctKAdd, ctLeast, kindsObj, find_add, fnv]) | (with_reducible refine run_cond (by with_unfolding_all exact rfl) ?_ ?_ <;> intro hc <;> (try simp only [vb, decide_eq_true_eq, decide_eq_false_iff_not, beq_iff_eq, beq_eq_false_iff_ne, bne_iff_ne, bne_eq_false_iff_eq, Bool.not_eq_true', Bool.not_eq_false', reduceCtorEq] at hc) <;> (try (first | simp (disch := omega) only [wrap64, wrapu64, wrapu32, sh32, fdiv32, Int.tdiv_eq_ediv_of_nonneg, Int.tmod_eq_emod_of_nonneg, tn_add, tn_add1, Int.toNat_natCast, Int.toNat_zero, List.drop_zero] at hc | simp only [wrapu64m, wrapu32m] at hc))) | ((with_reducible refine compat_ok ?_); kernel_rfl) | with_reducible apply And.intro | (first | simp (disch := omega) only [wrap64, wrapu64, wrapu32, sh32, fdiv32, Int.tdiv_eq_ediv_of_nonneg, Int.tmod_eq_emod_of_nonneg, tn_add, tn_add1, Int.toNat_natCast, Int.toNat_zero, List.drop_zero] | simp only [wrapu64m, wrapu32m]) | (with_reducible intro hg; (try simp only [vb, decide_eq_true_eq, decide_eq_false_iff_not, beq_iff_eq, beq_eq_false_iff_ne, bne_iff_ne, bne_eq_false_iff_eq, Bool.not_eq_true', Bool.not_eq_false', reduceCtorEq] at hg); (try (first | simp (disch := omega) only [wrap64, wrapu64, wrapu32, sh32, fdiv32, Int.tdiv_eq_ediv_of_nonneg, Int.tmod_eq_emod_of_nonneg, tn_add, tn_add1, Int.toNat_natCast, Int.toNat_zero, List.drop_zero] at hg | simp only [wrapu64m, wrapu32m] at hg))))
    all_goals try omega
    · exact Int.mul_pos (ofD_pos _) (ofD_pos _)
    · simp only [finR, resAs, resA, resLe, lsLe, lkS, lkM, pubs, pub, tie_sz, ti_sz, tie_ek, ti_ek,  nilAV, MM.upd, MM.set, AV.part, AV.cells, AV.agg, List.tail, List.headD, Nat.reduceAdd, Nat.reduceEqDiff, Nat.reduceLT, ↓reduceIte, and_true, true_and, and_self, reduceCtorEq]
      refine AVle_qq ?_ (by omega) (fun _ => rfl)
      rw [val1, val2, ← of_val n1 d1, ← of_val n2 d2]
      exact rat_add' (ofD_pos d1) (ofD_pos d2)
  · simp only [kOf_sub, Option.some.injEq, Prod.mk.injEq] at h
    obtain ⟨rfl, rfl⟩ := h
    show Run Try.prog ti env10 24 (finR ti [.cell 6 33] _) _ _ _
    refine run_seq (run_region ?_)
    simp only [↓guardP_tt, ↓guardP_tf, ↓guardP_ft, ↓guardP_ff, guardP_t, guardP_f, evalQ, evalR, effQ, effR, skipS, opEff, evO, plainV, lkS, lkM, updL, putS, tie_sz, tie_zero, tie_zeroB, tie_fld, tie_ek, tie_int, tie_isb, tie_eq2, tie_f1, tie_ms,  ti_f1, ti_ms, ti_sz, ti_zero, ti_zeroB, ti_fld, ti_ek, ti_int, ti_isb, ti_eq2, binA, binI, intOp, appEff, foldB, foldS, castL_self, K.enc, K.dec, K.zero, K.es, K.bytes, AV.part, AV.setPart, AV.cells, AV.agg, AV.nth, Bool.false_eq_true, callEff, pubs, pub, nilAV, MM.upd, MM.set, argS, gdst, opIds, lids, AV.ids, List.getD_cons_succ, List.getD_cons_zero, List.map, List.tail, List.headD, List.nil_append, List.append_nil, List.cons_append, List.length_nil, List.length_cons, List.zip_cons_cons, List.zip_nil_right, List.set_cons_zero, List.set_cons_succ, List.replicate, Option.isSome_some, Option.map_some, Bool.not_true, Bool.not_false, forall_const, false_implies, Nat.reduceAdd, Nat.reduceEqDiff, Nat.reduceLT, Nat.reduceSub, Nat.reduceMul, Nat.reduceLeDiff, ↓reduceIte, and_true, true_and, and_self, false_and, and_false, reduceCtorEq, env10]
    refine step_code (run_seq (run_kinds rfl ?_))
    simp only [↓guardP_tt, ↓guardP_tf, ↓guardP_ft, ↓guardP_ff, guardP_t, guardP_f, evalQ, evalR, effQ, effR, skipS, opEff, evO, plainV, lkS, lkM, updL, putS, tie_sz, tie_zero, tie_zeroB, tie_fld, tie_ek, tie_int, tie_isb, tie_eq2, tie_f1, tie_ms,  ti_f1, ti_ms, ti_sz, ti_zero, ti_zeroB, ti_fld, ti_ek, ti_int, ti_isb, ti_eq2, binA, binI, intOp, appEff, foldB, foldS, castL_self, K.enc, K.dec, K.zero, K.es, K.bytes, AV.part, AV.setPart, AV.cells, AV.agg, AV.nth, Bool.false_eq_true, callEff, pubs, pub, nilAV, MM.upd, MM.set, argS, gdst, opIds, lids, AV.ids, List.getD_cons_succ, List.getD_cons_zero, List.map, List.tail, List.headD, List.nil_append, List.append_nil, List.cons_append, List.length_nil, List.length_cons, List.zip_cons_cons, List.zip_nil_right, List.set_cons_zero, List.set_cons_succ, List.replicate, Option.isSome_some, Option.map_some, Bool.not_true, Bool.not_false, forall_const, false_implies, Nat.reduceAdd, Nat.reduceEqDiff, Nat.reduceLT, Nat.reduceSub, Nat.reduceMul, Nat.reduceLeDiff, ↓reduceIte, and_true, true_and, and_self, false_and, and_false, reduceCtorEq, env10]
    repeat' (first | with_reducible refine run_seq ?_ | with_reducible refine run_block ?_ | with_reducible refine step_code ?_ | with_reducible refine step_blk ?_ | with_reducible refine run_skip ?_ | with_reducible refine run_exit ?_ | with_reducible refine exits_code ?_ | with_reducible refine exits_here ?_ | with_reducible refine exits_blk rfl ?_ | with_reducible refine exits_lp ?_ | with_reducible refine run_ret ?_ | (with_reducible refine run_region ?_; simp only [↓guardP_tt, ↓guardP_tf, ↓guardP_ft, ↓guardP_ff, guardP_t, guardP_f, evalQ, evalR, effQ, effR, skipS, opEff, evO, plainV, lkS, lkM, updL, putS, tie_sz, tie_zero, tie_zeroB, tie_fld, tie_ek, tie_int, tie_isb, tie_eq2, tie_f1, tie_ms,  ti_f1, ti_ms, ti_sz, ti_zero, ti_zeroB, ti_fld, ti_ek, ti_int, ti_isb, ti_eq2, binA, binI, intOp, appEff, foldB, foldS, castL_self, K.enc, K.dec, K.zero, K.es, K.bytes, AV.part, AV.setPart, AV.cells, AV.agg, AV.nth, Bool.false_eq_true, callEff, pubs, pub, nilAV, MM.upd, MM.set, argS, gdst, opIds, lids, AV.ids, List.getD_cons_succ, List.getD_cons_zero, List.map, List.tail, List.headD, List.nil_append, List.append_nil, List.cons_append, List.length_nil, List.length_cons, List.zip_cons_cons, List.zip_nil_right, List.set_cons_zero, List.set_cons_succ, List.replicate, Option.isSome_some, Option.map_some, Bool.not_true, Bool.not_false, forall_const, false_implies, Nat.reduceAdd, Nat.reduceEqDiff, Nat.reduceLT, Nat.reduceSub, Nat.reduceMul, Nat.reduceLeDiff, ↓reduceIte, and_true, true_and, and_self, false_and, and_false, reduceCtorEq, env10, ctOf, ctKSub, ctLeast, kindsObj, find_sub, fnv]) | (with_reducible refine run_draw (by kernel_rfl) ?_; simp only [↓guardP_tt, ↓guardP_tf, ↓guardP_ft, ↓guardP_ff, guardP_t, guardP_f, evalQ, evalR, effQ, effR, skipS, opEff, evO, plainV, lkS, lkM, updL, putS, tie_sz, tie_zero, tie_zeroB, tie_fld, tie_ek, tie_int, tie_isb, tie_eq2, tie_f1, tie_ms,  ti_f1, ti_ms, ti_sz, ti_zero, ti_zeroB, ti_fld, ti_ek, ti_int, ti_isb, ti_eq2, binA, binI, intOp, appEff, foldB, foldS, castL_self, K.enc, K.dec, K.zero, K.es, K.bytes, AV.part, AV.setPart, AV.cells, AV.agg, AV.nth, Bool.false_eq_true, callEff, pubs, pub, nilAV, MM.upd, MM.set, argS, gdst, opIds, lids, AV.ids, List.getD_cons_succ, List.getD_cons_zero, List.map, List.tail, List.headD, List.nil_append, List.append_nil, List.cons_append, List.length_nil, List.length_cons, List.zip_cons_cons, List.zip_nil_right, List.set_cons_zero, List.set_cons_succ, List.replicate, Option.isSome_some, Option.map_some, Bool.not_true, Bool.not_false, forall_const, false_implies, Nat.reduceAdd, Nat.reduceEqDiff, Nat.reduceLT, Nat.reduceSub, Nat.reduceMul, Nat.reduceLeDiff, ↓reduceIte, and_true, true_and, and_self, false_and, and_false, reduceCtorEq, env10, ctOf, ctKSub, ctLeast, kindsObj, find_sub, fnv]) | (with_reducible refine run_cond (by with_unfolding_all exact rfl) ?_ ?_ <;> intro hc <;> (try simp only [vb, decide_eq_true_eq, decide_eq_false_iff_not, beq_iff_eq, beq_eq_false_iff_ne, bne_iff_ne, bne_eq_false_iff_eq, Bool.not_eq_true', Bool.not_eq_false', reduceCtorEq] at hc) <;> (try (first | simp (disch := omega) only [wrap64, wrapu64, wrapu32, sh32, fdiv32, Int.tdiv_eq_ediv_of_nonneg, Int.tmod_eq_emod_of_nonneg, tn_add, tn_add1, Int.toNat_natCast, Int.toNat_zero, List.drop_zero] at hc | simp only [wrapu64m, wrapu32m] at hc))) | ((with_reducible refine compat_ok ?_); kernel_rfl) | with_reducible apply And.intro | (first | simp (disch := omega) only [wrap64, wrapu64, wrapu32, sh32, fdiv32, Int.tdiv_eq_ediv_of_nonneg, Int.tmod_eq_emod_of_nonneg, tn_add, tn_add1, Int.toNat_natCast, Int.toNat_zero, List.drop_zero] | simp only [wrapu64m, wrapu32m]) | (with_reducible intro hg; (try simp only [vb, decide_eq_true_eq, decide_eq_false_iff_not, beq_iff_eq, beq_eq_false_iff_ne, bne_iff_ne, bne_eq_false_iff_eq, Bool.not_eq_true', Bool.not_eq_false', reduceCtorEq] at hg); (try (first | simp (disch := omega) only [wrap64, wrapu64, wrapu32, sh32, fdiv32, Int.tdiv_eq_ediv_of_nonneg, Int.tmod_eq_emod_of_nonneg, tn_add, tn_add1, Int.toNat_natCast, Int.toNat_zero, List.drop_zero] at hg | simp only [wrapu64m, wrapu32m] at hg))))
    all_goals try omega
    · exact Int.mul_pos (ofD_pos _) (ofD_pos _)
    · simp only [finR, resAs, resA, resLe, lsLe, lkS, lkM, pubs, pub, tie_sz, ti_sz, tie_ek, ti_ek,  nilAV, MM.upd, MM.set, AV.part, AV.cells, AV.agg, List.tail, List.headD, Nat.reduceAdd, Nat.reduceEqDiff, Nat.reduceLT, ↓reduceIte, and_true, true_and, and_self, reduceCtorEq]
      refine AVle_qq ?_ (by omega) (fun _ => rfl)
      rw [val1, val2, ← of_val n1 d1, ← of_val n2 d2]
      exact rat_sub' (ofD_pos d1) (ofD_pos d2)
  · simp only [kOf_mul, Option.some.injEq, Prod.mk.injEq] at h
    obtain ⟨rfl, rfl⟩ := h
    show Run Try.prog ti env10 24 (finR ti [.cell 6 33] _) _ _ _
    refine run_seq (run_region ?_)
    simp only [↓guardP_tt, ↓guardP_tf, ↓guardP_ft, ↓guardP_ff, guardP_t, guardP_f, evalQ, evalR, effQ, effR, skipS, opEff, evO, plainV, lkS, lkM, updL, putS, tie_sz, tie_zero, tie_zeroB, tie_fld, tie_ek, tie_int, tie_isb, tie_eq2, tie_f1, tie_ms,  ti_f1, ti_ms, ti_sz, ti_zero, ti_zeroB, ti_fld, ti_ek, ti_int, ti_isb, ti_eq2, binA, binI, intOp, appEff, foldB, foldS, castL_self, K.enc, K.dec, K.zero, K.es, K.bytes, AV.part, AV.setPart, AV.cells, AV.agg, AV.nth, Bool.false_eq_true, callEff, pubs, pub, nilAV, MM.upd, MM.set, argS, gdst, opIds, lids, AV.ids, List.getD_cons_succ, List.getD_cons_zero, List.map, List.tail, List.headD, List.nil_append, List.append_nil, List.cons_append, List.length_nil, List.length_cons, List.zip_cons_cons, List.zip_nil_right, List.set_cons_zero, List.set_cons_succ, List.replicate, Option.isSome_some, Option.map_some, Bool.not_true, Bool.not_false, forall_const, false_implies, Nat.reduceAdd, Nat.reduceEqDiff, Nat.reduceLT, Nat.reduceSub, Nat.reduceMul, Nat.reduceLeDiff, ↓reduceIte, and_true, true_and, and_self, false_and, and_false, reduceCtorEq, env10]
    refine step_code (run_seq (run_kinds rfl ?_))
    simp only [↓guardP_tt, ↓guardP_tf, ↓guardP_ft, ↓guardP_ff, guardP_t, guardP_f, evalQ, evalR, effQ, effR, skipS, opEff, evO, plainV, lkS, lkM, updL, putS, tie_sz, tie_zero, tie_zeroB, tie_fld, tie_ek, tie_int, tie_isb, tie_eq2, tie_f1, tie_ms,  ti_f1, ti_ms, ti_sz, ti_zero, ti_zeroB, ti_fld, ti_ek, ti_int, ti_isb, ti_eq2, binA, binI, intOp, appEff, foldB, foldS, castL_self, K.enc, K.dec, K.zero, K.es, K.bytes, AV.part, AV.setPart, AV.cells, AV.agg, AV.nth, Bool.false_eq_true, callEff, pubs, pub, nilAV, MM.upd, MM.set, argS, gdst, opIds, lids, AV.ids, List.getD_cons_succ, List.getD_cons_zero, List.map, List.tail, List.headD, List.nil_append, List.append_nil, List.cons_append, List.length_nil, List.length_cons, List.zip_cons_cons, List.zip_nil_right, List.set_cons_zero, List.set_cons_succ, List.replicate, Option.isSome_some, Option.map_some, Bool.not_true, Bool.not_false, forall_const, false_implies, Nat.reduceAdd, Nat.reduceEqDiff, Nat.reduceLT, Nat.reduceSub, Nat.reduceMul, Nat.reduceLeDiff, ↓reduceIte, and_true, true_and, and_self, false_and, and_false, reduceCtorEq, env10]
    repeat' (first | with_reducible refine run_seq ?_ | with_reducible refine run_block ?_ | with_reducible refine step_code ?_ | with_reducible refine step_blk ?_ | with_reducible refine run_skip ?_ | with_reducible refine run_exit ?_ | with_reducible refine exits_code ?_ | with_reducible refine exits_here ?_ | with_reducible refine exits_blk rfl ?_ | with_reducible refine exits_lp ?_ | with_reducible refine run_ret ?_ | (with_reducible refine run_region ?_; simp only [↓guardP_tt, ↓guardP_tf, ↓guardP_ft, ↓guardP_ff, guardP_t, guardP_f, evalQ, evalR, effQ, effR, skipS, opEff, evO, plainV, lkS, lkM, updL, putS, tie_sz, tie_zero, tie_zeroB, tie_fld, tie_ek, tie_int, tie_isb, tie_eq2, tie_f1, tie_ms,  ti_f1, ti_ms, ti_sz, ti_zero, ti_zeroB, ti_fld, ti_ek, ti_int, ti_isb, ti_eq2, binA, binI, intOp, appEff, foldB, foldS, castL_self, K.enc, K.dec, K.zero, K.es, K.bytes, AV.part, AV.setPart, AV.cells, AV.agg, AV.nth, Bool.false_eq_true, callEff, pubs, pub, nilAV, MM.upd, MM.set, argS, gdst, opIds, lids, AV.ids, List.getD_cons_succ, List.getD_cons_zero, List.map, List.tail, List.headD, List.nil_append, List.append_nil, List.cons_append, List.length_nil, List.length_cons, List.zip_cons_cons, List.zip_nil_right, List.set_cons_zero, List.set_cons_succ, List.replicate, Option.isSome_some, Option.map_some, Bool.not_true, Bool.not_false, forall_const, false_implies, Nat.reduceAdd, Nat.reduceEqDiff, Nat.reduceLT, Nat.reduceSub, Nat.reduceMul, Nat.reduceLeDiff, ↓reduceIte, and_true, true_and, and_self, false_and, and_false, reduceCtorEq, env10, ctOf, ctKMul, ctLeast, kindsObj, find_mul, fnv]) | (with_reducible refine run_draw (by kernel_rfl) ?_; simp only [↓guardP_tt, ↓guardP_tf, ↓guardP_ft, ↓guardP_ff, guardP_t, guardP_f, evalQ, evalR, effQ, effR, skipS, opEff, evO, plainV, lkS, lkM, updL, putS, tie_sz, tie_zero, tie_zeroB, tie_fld, tie_ek, tie_int, tie_isb, tie_eq2, tie_f1, tie_ms,  ti_f1, ti_ms, ti_sz, ti_zero, ti_zeroB, ti_fld, ti_ek, ti_int, ti_isb, ti_eq2, binA, binI, intOp, appEff, foldB, foldS, castL_self, K.enc, K.dec, K.zero, K.es, K.bytes, AV.part, AV.setPart, AV.cells, AV.agg, AV.nth, Bool.false_eq_true, callEff, pubs, pub, nilAV, MM.upd, MM.set, argS, gdst, opIds, lids, AV.ids, List.getD_cons_succ, List.getD_cons_zero, List.map, List.tail, List.headD, List.nil_append, List.append_nil, List.cons_append, List.length_nil, List.length_cons, List.zip_cons_cons, List.zip_nil_right, List.set_cons_zero, List.set_cons_succ, List.replicate, Option.isSome_some, Option.map_some, Bool.not_true, Bool.not_false, forall_const, false_implies, Nat.reduceAdd, Nat.reduceEqDiff, Nat.reduceLT, Nat.reduceSub, Nat.reduceMul, Nat.reduceLeDiff, ↓reduceIte, and_true, true_and, and_self, false_and, and_false, reduceCtorEq, env10, ctOf, ctKMul, ctLeast, kindsObj, find_mul, fnv]) | (with_reducible refine run_cond (by with_unfolding_all exact rfl) ?_ ?_ <;> intro hc <;> (try simp only [vb, decide_eq_true_eq, decide_eq_false_iff_not, beq_iff_eq, beq_eq_false_iff_ne, bne_iff_ne, bne_eq_false_iff_eq, Bool.not_eq_true', Bool.not_eq_false', reduceCtorEq] at hc) <;> (try (first | simp (disch := omega) only [wrap64, wrapu64, wrapu32, sh32, fdiv32, Int.tdiv_eq_ediv_of_nonneg, Int.tmod_eq_emod_of_nonneg, tn_add, tn_add1, Int.toNat_natCast, Int.toNat_zero, List.drop_zero] at hc | simp only [wrapu64m, wrapu32m] at hc))) | ((with_reducible refine compat_ok ?_); kernel_rfl) | with_reducible apply And.intro | (first | simp (disch := omega) only [wrap64, wrapu64, wrapu32, sh32, fdiv32, Int.tdiv_eq_ediv_of_nonneg, Int.tmod_eq_emod_of_nonneg, tn_add, tn_add1, Int.toNat_natCast, Int.toNat_zero, List.drop_zero] | simp only [wrapu64m, wrapu32m]) | (with_reducible intro hg; (try simp only [vb, decide_eq_true_eq, decide_eq_false_iff_not, beq_iff_eq, beq_eq_false_iff_ne, bne_iff_ne, bne_eq_false_iff_eq, Bool.not_eq_true', Bool.not_eq_false', reduceCtorEq] at hg); (try (first | simp (disch := omega) only [wrap64, wrapu64, wrapu32, sh32, fdiv32, Int.tdiv_eq_ediv_of_nonneg, Int.tmod_eq_emod_of_nonneg, tn_add, tn_add1, Int.toNat_natCast, Int.toNat_zero, List.drop_zero] at hg | simp only [wrapu64m, wrapu32m] at hg))))
    all_goals try omega
    · exact Int.mul_pos (ofD_pos _) (ofD_pos _)
    · simp only [finR, resAs, resA, resLe, lsLe, lkS, lkM, pubs, pub, tie_sz, ti_sz, tie_ek, ti_ek,  nilAV, MM.upd, MM.set, AV.part, AV.cells, AV.agg, List.tail, List.headD, Nat.reduceAdd, Nat.reduceEqDiff, Nat.reduceLT, ↓reduceIte, and_true, true_and, and_self, reduceCtorEq]
      refine AVle_qq ?_ (by omega) (fun _ => rfl)
      rw [val1, val2, ← of_val n1 d1, ← of_val n2 d2]
      exact rat_mul' (ofD_pos d1) (ofD_pos d2)
  · simp only [kOf_div, Option.some.injEq, Prod.mk.injEq] at h
    obtain ⟨rfl, rfl⟩ := h
    show Run Try.prog ti env10 24 (finR ti [.cell 6 33] _) _ _ _
    refine run_seq (run_region ?_)
    simp only [↓guardP_tt, ↓guardP_tf, ↓guardP_ft, ↓guardP_ff, guardP_t, guardP_f, evalQ, evalR, effQ, effR, skipS, opEff, evO, plainV, lkS, lkM, updL, putS, tie_sz, tie_zero, tie_zeroB, tie_fld, tie_ek, tie_int, tie_isb, tie_eq2, tie_f1, tie_ms,  ti_f1, ti_ms, ti_sz, ti_zero, ti_zeroB, ti_fld, ti_ek, ti_int, ti_isb, ti_eq2, binA, binI, intOp, appEff, foldB, foldS, castL_self, K.enc, K.dec, K.zero, K.es, K.bytes, AV.part, AV.setPart, AV.cells, AV.agg, AV.nth, Bool.false_eq_true, callEff, pubs, pub, nilAV, MM.upd, MM.set, argS, gdst, opIds, lids, AV.ids, List.getD_cons_succ, List.getD_cons_zero, List.map, List.tail, List.headD, List.nil_append, List.append_nil, List.cons_append, List.length_nil, List.length_cons, List.zip_cons_cons, List.zip_nil_right, List.set_cons_zero, List.set_cons_succ, List.replicate, Option.isSome_some, Option.map_some, Bool.not_true, Bool.not_false, forall_const, false_implies, Nat.reduceAdd, Nat.reduceEqDiff, Nat.reduceLT, Nat.reduceSub, Nat.reduceMul, Nat.reduceLeDiff, ↓reduceIte, and_true, true_and, and_self, false_and, and_false, reduceCtorEq, env10]
    refine step_code (run_seq (run_kinds rfl ?_))
    simp only [↓guardP_tt, ↓guardP_tf, ↓guardP_ft, ↓guardP_ff, guardP_t, guardP_f, evalQ, evalR, effQ, effR, skipS, opEff, evO, plainV, lkS, lkM, updL, putS, tie_sz, tie_zero, tie_zeroB, tie_fld, tie_ek, tie_int, tie_isb, tie_eq2, tie_f1, tie_ms,  ti_f1, ti_ms, ti_sz, ti_zero, ti_zeroB, ti_fld, ti_ek, ti_int, ti_isb, ti_eq2, binA, binI, intOp, appEff, foldB, foldS, castL_self, K.enc, K.dec, K.zero, K.es, K.bytes, AV.part, AV.setPart, AV.cells, AV.agg, AV.nth, Bool.false_eq_true, callEff, pubs, pub, nilAV, MM.upd, MM.set, argS, gdst, opIds, lids, AV.ids, List.getD_cons_succ, List.getD_cons_zero, List.map, List.tail, List.headD, List.nil_append, List.append_nil, List.cons_append, List.length_nil, List.length_cons, List.zip_cons_cons, List.zip_nil_right, List.set_cons_zero, List.set_cons_succ, List.replicate, Option.isSome_some, Option.map_some, Bool.not_true, Bool.not_false, forall_const, false_implies, Nat.reduceAdd, Nat.reduceEqDiff, Nat.reduceLT, Nat.reduceSub, Nat.reduceMul, Nat.reduceLeDiff, ↓reduceIte, and_true, true_and, and_self, false_and, and_false, reduceCtorEq, env10]
    repeat' (first | with_reducible refine run_seq ?_ | with_reducible refine run_block ?_ | with_reducible refine step_code ?_ | with_reducible refine step_blk ?_ | with_reducible refine run_skip ?_ | with_reducible refine run_exit ?_ | with_reducible refine exits_code ?_ | with_reducible refine exits_here ?_ | with_reducible refine exits_blk rfl ?_ | with_reducible refine exits_lp ?_ | with_reducible refine run_ret ?_ | (with_reducible refine run_region ?_; simp only [↓guardP_tt, ↓guardP_tf, ↓guardP_ft, ↓guardP_ff, guardP_t, guardP_f, evalQ, evalR, effQ, effR, skipS, opEff, evO, plainV, lkS, lkM, updL, putS, tie_sz, tie_zero, tie_zeroB, tie_fld, tie_ek, tie_int, tie_isb, tie_eq2, tie_f1, tie_ms,  ti_f1, ti_ms, ti_sz, ti_zero, ti_zeroB, ti_fld, ti_ek, ti_int, ti_isb, ti_eq2, binA, binI, intOp, appEff, foldB, foldS, castL_self, K.enc, K.dec, K.zero, K.es, K.bytes, AV.part, AV.setPart, AV.cells, AV.agg, AV.nth, Bool.false_eq_true, callEff, pubs, pub, nilAV, MM.upd, MM.set, argS, gdst, opIds, lids, AV.ids, List.getD_cons_succ, List.getD_cons_zero, List.map, List.tail, List.headD, List.nil_append, List.append_nil, List.cons_append, List.length_nil, List.length_cons, List.zip_cons_cons, List.zip_nil_right, List.set_cons_zero, List.set_cons_succ, List.replicate, Option.isSome_some, Option.map_some, Bool.not_true, Bool.not_false, forall_const, false_implies, Nat.reduceAdd, Nat.reduceEqDiff, Nat.reduceLT, Nat.reduceSub, Nat.reduceMul, Nat.reduceLeDiff, ↓reduceIte, and_true, true_and, and_self, false_and, and_false, reduceCtorEq, env10, ctOf, ctKDiv, ctLeast, kindsObj, find_div, fnv]) | (with_reducible refine run_draw (by kernel_rfl) ?_; simp only [↓guardP_tt, ↓guardP_tf, ↓guardP_ft, ↓guardP_ff, guardP_t, guardP_f, evalQ, evalR, effQ, effR, skipS, opEff, evO, plainV, lkS, lkM, updL, putS, tie_sz, tie_zero, tie_zeroB, tie_fld, tie_ek, tie_int, tie_isb, tie_eq2, tie_f1, tie_ms,  ti_f1, ti_ms, ti_sz, ti_zero, ti_zeroB, ti_fld, ti_ek, ti_int, ti_isb, ti_eq2, binA, binI, intOp, appEff, foldB, foldS, castL_self, K.enc, K.dec, K.zero, K.es, K.bytes, AV.part, AV.setPart, AV.cells, AV.agg, AV.nth, Bool.false_eq_true, callEff, pubs, pub, nilAV, MM.upd, MM.set, argS, gdst, opIds, lids, AV.ids, List.getD_cons_succ, List.getD_cons_zero, List.map, List.tail, List.headD, List.nil_append, List.append_nil, List.cons_append, List.length_nil, List.length_cons, List.zip_cons_cons, List.zip_nil_right, List.set_cons_zero, List.set_cons_succ, List.replicate, Option.isSome_some, Option.map_some, Bool.not_true, Bool.not_false, forall_const, false_implies, Nat.reduceAdd, Nat.reduceEqDiff, Nat.reduceLT, Nat.reduceSub, Nat.reduceMul, Nat.reduceLeDiff, ↓reduceIte, and_true, true_and, and_self, false_and, and_false, reduceCtorEq, env10, ctOf, ctKDiv, ctLeast, kindsObj, find_div, fnv]) | (with_reducible refine run_cond (by with_unfolding_all exact rfl) ?_ ?_ <;> intro hc <;> (try simp only [vb, decide_eq_true_eq, decide_eq_false_iff_not, beq_iff_eq, beq_eq_false_iff_ne, bne_iff_ne, bne_eq_false_iff_eq, Bool.not_eq_true', Bool.not_eq_false', reduceCtorEq] at hc) <;> (try (first | simp (disch := omega) only [wrap64, wrapu64, wrapu32, sh32, fdiv32, Int.tdiv_eq_ediv_of_nonneg, Int.tmod_eq_emod_of_nonneg, tn_add, tn_add1, Int.toNat_natCast, Int.toNat_zero, List.drop_zero] at hc | simp only [wrapu64m, wrapu32m] at hc))) | ((with_reducible refine compat_ok ?_); kernel_rfl) | with_reducible apply And.intro | (first | simp (disch := omega) only [wrap64, wrapu64, wrapu32, sh32, fdiv32, Int.tdiv_eq_ediv_of_nonneg, Int.tmod_eq_emod_of_nonneg, tn_add, tn_add1, Int.toNat_natCast, Int.toNat_zero, List.drop_zero] | simp only [wrapu64m, wrapu32m]) | (with_reducible intro hg; (try simp only [vb, decide_eq_true_eq, decide_eq_false_iff_not, beq_iff_eq, beq_eq_false_iff_ne, bne_iff_ne, bne_eq_false_iff_eq, Bool.not_eq_true', Bool.not_eq_false', reduceCtorEq] at hg); (try (first | simp (disch := omega) only [wrap64, wrapu64, wrapu32, sh32, fdiv32, Int.tdiv_eq_ediv_of_nonneg, Int.tmod_eq_emod_of_nonneg, tn_add, tn_add1, Int.toNat_natCast, Int.toNat_zero, List.drop_zero] at hg | simp only [wrapu64m, wrapu32m] at hg))))
    all_goals try omega
    · exact ofD_pos _
    · simp only [finR, resAs, resA, resLe, lsLe, lkS, lkM, pubs, pub, tie_sz, ti_sz, tie_ek, ti_ek,  nilAV, MM.upd, MM.set, AV.part, AV.cells, AV.agg, List.tail, List.headD, Nat.reduceAdd, Nat.reduceEqDiff, Nat.reduceLT, ↓reduceIte, and_true, true_and, and_self, reduceCtorEq]
      refine AVle_qq ?_ (by omega) (fun _ => rfl)
      rw [of_val, val1, val2, ← of_val n1 d1, ← of_val n2 d2]
      refine rat_div' (ofD_pos d1) (ofD_pos d2) ?_
      intro h0
      apply hp.2.2
      rw [val2, ← of_val, h0]
      grind
end Go.AE
