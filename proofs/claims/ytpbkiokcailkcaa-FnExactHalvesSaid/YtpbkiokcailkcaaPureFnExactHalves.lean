/- FnExactHalves, as numbers alone: both sides are (n - 2) / 2 where a disk may have n sectors, and 0 elsewhere. No condition. -/
import Derived.Test.YtpbkiokcailkcaaPFnExactHalvesx1
import Derived.Test.YtpbkiokcailkcaaModel
namespace Go.Proofs.Ytpbkiokcailkcaa.KFnExactHalves
open Go.RowKit Go.Proofs.Ytpbkiokcailkcaa.PFnExactHalves Go.Proofs.YtpbkiokcailkcaaW.PrintWords Go.Proofs.YtpbkiokcailkcaaW.PrintLast Go.Proofs.YtpbkiokcailkcaaW.PrintMore Go.Proofs.Ytpbkiokcailkcaa.K
set_option linter.unusedSimpArgs false
set_option linter.unusedVariables false

theorem spec_Halves_ok (n : Int) : spec_Halves.f n = some (halves n) := by
  unfold spec_Halves.f halves
  by_cases h1 : n < 8
  · rw [if_pos h1, if_neg (by omega)]
  · rw [if_neg h1]
    by_cases h2 : n > 200
    · rw [if_pos h2, if_neg (by omega)]
    · rw [if_neg h2, if_pos (by omega), wrap_id (x := n - 2) (by omega) (by omega), Int.tdiv_eq_ediv_of_nonneg (by omega), wrap_id (by omega) (by omega)]
theorem impl_in_ok (a b c : Int) : impl_in.f a b c = some (decide (b ≤ a ∧ a ≤ c)) := by
  unfold impl_in.f
  by_cases h : a ≥ b
  · rw [if_pos h]; simp [show b ≤ a from h]
  · rw [if_neg h]; simp [show ¬ b ≤ a from h]
theorem impl_Halves_ok (n : Int) : impl_Halves.f n = some (halves n) := by
  unfold impl_Halves.f halves
  rw [impl_in_ok]
  simp only [Option.bind_some, decide_eq_true_eq]
  by_cases h : 8 ≤ n ∧ n ≤ 200
  · rw [if_pos h, if_pos h, wrap_id (x := n - 2) (by omega) (by omega), Int.tdiv_eq_ediv_of_nonneg (by omega), wrap_id (by omega) (by omega)]
  · rw [if_neg h, if_neg h]
theorem FnExactHalves_ok : laws_FnExactHalves.Pure := by
  intro a0 _
  unfold laws_FnExactHalves.f
  rw [spec_Halves_ok, impl_Halves_ok]
  simp

end Go.Proofs.Ytpbkiokcailkcaa.KFnExactHalves
namespace Go.Proofs.Ytpbkiokcailkcaa.Pure
open Go.Proofs.Ytpbkiokcailkcaa.PFnExactHalves
theorem FnExactHalves : laws_FnExactHalves.Pure := Go.Proofs.Ytpbkiokcailkcaa.KFnExactHalves.FnExactHalves_ok
end Go.Proofs.Ytpbkiokcailkcaa.Pure
