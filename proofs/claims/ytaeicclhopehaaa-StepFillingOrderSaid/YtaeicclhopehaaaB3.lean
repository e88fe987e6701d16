/- Plain lemmas: rationals. -/
import Derived.Test.YtaeicclhopehaaaB2
namespace Go.AE
open Go.RowKit
set_option linter.unusedVariables false
set_option linter.unusedSimpArgs false

theorem rat_ne {d : Int} (h : d ≠ 0) : (d : Rat) ≠ 0 := by
  intro e; apply h; exact_mod_cast e
theorem rat_pos {d : Int} (h : 0 < d) : (0 : Rat) < (d : Rat) := by exact_mod_cast h
theorem least_split {n d : Int} (hd : 0 < d) : (0 : Int) < Int.gcd n d ∧ n / Int.gcd n d * Int.gcd n d = n ∧ d / Int.gcd n d * Int.gcd n d = d ∧ 0 < d / Int.gcd n d ∧ Int.gcd (n / Int.gcd n d) (d / Int.gcd n d) = 1 := by
  have h0 : 0 < Int.gcd n d := Int.gcd_pos_of_ne_zero_right _ (by omega)
  have h1 : n / Int.gcd n d * Int.gcd n d = n := Int.ediv_mul_cancel (Int.gcd_dvd_left ..)
  have h2 : d / Int.gcd n d * Int.gcd n d = d := Int.ediv_mul_cancel (Int.gcd_dvd_right ..)
  refine ⟨by omega, h1, h2, ?_, ?_⟩
  · rcases Int.lt_or_le 0 (d / Int.gcd n d) with h | h
    · exact h
    · have := Int.mul_nonpos_of_nonpos_of_nonneg h (show (0 : Int) ≤ Int.gcd n d by omega)
      omega
  · exact Int.gcd_ediv_gcd_ediv_gcd h0
theorem rat_div_of {n d g n' d' : Int} (hg : g ≠ 0) (hd : d ≠ 0) (h1 : n' * g = n) (h2 : d' * g = d) : (n' : Rat) / (d' : Rat) = (n : Rat) / (d : Rat) := by
  subst h1 h2
  have hd' : d' ≠ 0 := by rintro rfl; simp at hd
  have := rat_ne hg
  have := rat_ne hd'
  rw [Rat.intCast_mul, Rat.intCast_mul]
  grind
theorem ofD_pos' (d : Int) : 0 < (if d = 0 then 1 else if d < 0 then -d else d) := by split <;> (try split) <;> omega
end Go.AE
