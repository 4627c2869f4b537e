/- Contracts: the code of two numbers. -/
import Derived.Test.YtjampkjgapkklaaP
namespace Go.Proofs.Ytjampkjgapkklaa
open Go.RowKit
set_option linter.unusedVariables false
set_option linter.unusedSimpArgs false

/-- The code of two values other than 0. -/
def twoCode (a b : Int) : Int := if nzB a then (if nzB b then 0 else 2) else 2
theorem l16Two_any (a b : Int) (w : World) :
    Calls Try.prog 49 #[.int .i64 a, .int .i64 b] w fun e w' => e = .returned (.int .i64 (twoCode a b)) ∧ w = w' := by
  rcases Bool.eq_false_or_eq_true (inB a (-1000000000000) 1000000000000) with ha | ha
  all_goals rcases Bool.eq_false_or_eq_true (inB b (-1000000000000) 1000000000000) with hb | hb
  all_goals rcases Bool.eq_false_or_eq_true (a == 0) with za | za
  all_goals rcases Bool.eq_false_or_eq_true (b == 0) with zb | zb
  all_goals
    have HA := Lib.hid ha; have HB := Lib.hid hb
    have hq : (a != 0) = !(a == 0) := rfl
    have hr : (b != 0) = !(b == 0) := rfl
    have HE : Hid (twoCode a b = if (inB a (-1000000000000) 1000000000000 && !(a == 0)) then (if (inB b (-1000000000000) 1000000000000 && !(b == 0)) then 0 else 2) else 2) := Lib.hid rfl
    clear ha hb hq hr
    go_enter Try.func49, Try.ntmps49
    go_wp2_with (first | (go_at_call 59; ((with_reducible refine (calls_bool (l01Is_any _ _) HA.out).mono ?_); rintro e w' ⟨rfl, rfl⟩)) | (go_at_call 59; ((with_reducible refine (calls_bool (l01Is_any _ _) HB.out).mono ?_); rintro e w' ⟨rfl, rfl⟩)))
    go_ret
    exact ⟨ret_int (by rw [HE.out, HA.out, HB.out, za, zb]; rfl), rfl⟩

end Go.Proofs.Ytjampkjgapkklaa
