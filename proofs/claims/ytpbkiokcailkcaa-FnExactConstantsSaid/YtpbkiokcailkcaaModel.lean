/- The document's functions as plain functions on lists and whole numbers. No condition. -/
import Derived.Test.YtpbkiokcailkcaaBase
namespace Go.Proofs.Ytpbkiokcailkcaa.K
open Go.RowKit
set_option linter.unusedSimpArgs false

def halves (n : Int) : Int := if 8 ≤ n ∧ n ≤ 200 then (n - 2) / 2 else 0
/-- An entry's parts of p bytes. -/
def parts (p : Nat) (s : Str) : List Str := if p < s.length ∧ 0 < p then s.take p :: parts p (s.drop p) else [s]
termination_by s.length
decreasing_by simp; omega
theorem parts_gt {p : Nat} {s : Str} (h : p < s.length) (hp : 0 < p) : parts p s = s.take p :: parts p (s.drop p) := by rw [parts, if_pos ⟨h, hp⟩]
theorem parts_le {p : Nat} {s : Str} (h : ¬ p < s.length) : parts p s = [s] := by rw [parts, if_neg (by omega)]
theorem parts_length (p : Nat) (hp : 0 < p) : ∀ (d : Nat) (s : Str), s.length ≤ d → (parts p s).length = max 1 ((s.length + p - 1) / p) := by
  intro d
  induction d with
  | zero =>
    intro s hs
    rw [parts, if_neg (by omega)]
    rw [show s.length = 0 by omega, Nat.zero_add, Nat.div_eq_of_lt (by omega)]
    rfl
  | succ d ih =>
    intro s hs
    rw [parts]
    by_cases h : p < s.length
    · rw [if_pos ⟨h, hp⟩, List.length_cons, ih _ (by simp; omega), List.length_drop]
      have e : s.length + p - 1 = (s.length - 1) + p := by omega
      have e2 : s.length - p + p - 1 = s.length - 1 := by omega
      rw [e, Nat.add_div_right _ hp, e2]
      have : 1 ≤ (s.length - 1) / p := (Nat.le_div_iff_mul_le hp).2 (by omega)
      omega
    · rw [if_neg (by omega), List.length_singleton]
      rcases Nat.eq_zero_or_pos s.length with h0 | h0
      · rw [h0, Nat.zero_add, Nat.div_eq_of_lt (by omega)]; rfl
      · have : (s.length + p - 1) / p = 1 := by
          have e : s.length + p - 1 = (s.length - 1) + p := by omega
          rw [e, Nat.add_div_right _ hp, Nat.div_eq_of_lt (by omega)]
        rw [this]; rfl
def pages (s : Str) (w : Int) : Int := if 1 ≤ w ∧ w ≤ 8 then ((parts (56 - w).toNat s).length : Int) else 0
end Go.Proofs.Ytpbkiokcailkcaa.K
