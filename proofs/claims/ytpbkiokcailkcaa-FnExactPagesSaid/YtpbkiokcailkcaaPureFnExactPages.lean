/- FnExactPages, as numbers alone: the count of the parts that the reference cuts is the program's quotient. No condition. -/
import Derived.Test.YtpbkiokcailkcaaPFnExactPagesx1
import Derived.Test.YtpbkiokcailkcaaModel
namespace Go.Proofs.Ytpbkiokcailkcaa.KFnExactPages
open Go.RowKit Go.Proofs.Ytpbkiokcailkcaa.PFnExactPages Go.Proofs.YtpbkiokcailkcaaW.PrintWords Go.Proofs.YtpbkiokcailkcaaW.PrintLast Go.Proofs.YtpbkiokcailkcaaW.PrintMore Go.Proofs.Ytpbkiokcailkcaa.K
set_option linter.unusedSimpArgs false
set_option linter.unusedVariables false

theorem spec_l1Width_ok (w : Int) : spec_l1Width.f w = some (decide (1 ≤ w ∧ w ≤ 8)) := by
  unfold spec_l1Width.f
  by_cases h : w ≥ 1
  · rw [if_pos h]; simp [show 1 ≤ w from h]
  · rw [if_neg h]; simp [show ¬ 1 ≤ w from h]
theorem spec_l1Part_ok (w : Int) (h : 1 ≤ w ∧ w ≤ 8) : spec_l1Part.f w = some (56 - w) := by
  unfold spec_l1Part.f
  rw [wrap_id (x := 64 - w) (by omega) (by omega), wrap_id (by omega) (by omega)]
  congr 1; omega
theorem spec_l3Parts_l0 (p : Nat) (hp : 0 < p) : ∀ (d : Nat) (s : Str) (acc : List Str), s.length ≤ d → acc.length + s.length < 8796093022208 →
    Ev (fun k => spec_l3Parts.l0 k (B s) (acc.map B) (p : Int)) ((acc ++ parts p s).map B) := by
  intro d
  induction d with
  | zero =>
    intro s acc hs hb
    refine Ev.step (fun _ => spec_l3Parts.l0.eq_2 ..) ?_
    rw [parts_le (by omega)]
    simp only [B_size, List.length_map]
    simp only [if_neg (show ¬ ((s.length : Int) > (p : Int)) by omega), if_pos (show acc.length < 8796093022208 by omega)]
    simpa using Ev.now _
  | succ d ih =>
    intro s acc hs hb
    refine Ev.step (fun _ => spec_l3Parts.l0.eq_2 ..) ?_
    by_cases h : p < s.length
    · rw [parts_gt h hp]
      simp only [B_size, List.length_map, B_extract, Int.toNat_natCast, Nat.sub_zero, List.drop_zero]
      simp only [if_pos (show ((s.length : Int) > (p : Int)) by omega), if_pos (show (0 : Int) ≤ (p : Int) by omega), if_pos (show ((p : Int) ≤ (s.length : Int)) by omega), if_pos (show acc.length < 8796093022208 by omega)]
      have := ih (s.drop p) (acc ++ [s.take p]) (by simp; omega) (by simp; omega)
      rw [List.take_of_length_le (by simp)]
      simpa using this
    · rw [parts_le h]
      simp only [B_size, List.length_map]
      simp only [if_neg (show ¬ ((s.length : Int) > (p : Int)) by omega), if_pos (show acc.length < 8796093022208 by omega)]
      simpa using Ev.now _
theorem spec_l3Parts_ok (s : Str) (w : Int) (h : 1 ≤ w ∧ w ≤ 8) (hs : s.length < 8796093022208) : Ev (fun k => spec_l3Parts.f k (B s) w) ((parts (56 - w).toNat s).map B) := by
  unfold spec_l3Parts.f
  simp only [spec_l1Part_ok w h, Option.bind_some]
  have := spec_l3Parts_l0 (56 - w).toNat (by omega) s.length s [] (Nat.le_refl _) (by simpa using hs)
  rw [Int.toNat_of_nonneg (by omega)] at this
  simpa using this
theorem spec_Pages_ok (s : Str) (w : Int) (hs : s.length < 8796093022208) : Ev (fun k => spec_Pages.f k (B s) w) (pages s w) := by
  unfold spec_Pages.f pages
  simp only [spec_l1Width_ok, Option.bind_some, decide_eq_true_eq]
  by_cases h : 1 ≤ w ∧ w ≤ 8
  · simp only [if_pos h]
    refine Ev.bind (spec_l3Parts_ok s w h hs) ?_
    simpa using Ev.now _
  · simp only [if_neg h]
    exact Ev.now _
theorem impl_in_ok (a b c : Int) : impl_in.f a b c = some (decide (b ≤ a ∧ a ≤ c)) := by
  unfold impl_in.f
  by_cases h : a ≥ b
  · rw [if_pos h]; simp [show b ≤ a from h]
  · rw [if_neg h]; simp [show ¬ b ≤ a from h]
theorem impl_room_ok (w : Int) (h : 1 ≤ w ∧ w ≤ 8) : impl_room.f w = some (56 - w) := by
  unfold impl_room.f
  rw [wrap_id (x := 64 - w) (by omega) (by omega), wrap_id (by omega) (by omega)]
  congr 1; omega
theorem impl_Pages_ok (s : Str) (w : Int) (hs : s.length < 8796093022208) : impl_Pages.f (B s) w = some (pages s w) := by
  unfold impl_Pages.f pages
  rw [impl_in_ok]
  simp only [Option.bind_some, decide_eq_true_eq]
  by_cases h : 1 ≤ w ∧ w ≤ 8
  · rw [if_pos h, if_pos h, impl_room_ok w h]
    simp only [Option.bind_some, B_size]
    rw [if_neg (by omega), wrap_id (x := (s.length : Int) + (56 - w)) (by omega) (by omega), wrap_id (x := (s.length : Int) + (56 - w) - 1) (by omega) (by omega), Int.tdiv_eq_ediv_of_nonneg (by omega)]
    have hp := parts_length (56 - w).toNat (by omega) _ s (Nat.le_refl _)
    rw [hp]
    have e : (((s.length + (56 - w).toNat - 1) / (56 - w).toNat : Nat) : Int) = ((s.length : Int) + (56 - w) - 1) / (56 - w) := by
      rw [Int.natCast_ediv, Int.toNat_of_nonneg (by omega)]
      congr 1
      omega
    have b1 : 0 ≤ ((s.length : Int) + (56 - w) - 1) / (56 - w) := Int.ediv_nonneg (by omega) (by omega)
    have b2 : ((s.length : Int) + (56 - w) - 1) / (56 - w) ≤ (s.length : Int) + (56 - w) - 1 := Int.ediv_le_self _ (by omega)
    rw [← e] at b1 b2 ⊢
    rw [wrap_id (by omega) (by omega)]
    unfold mx
    congr 1
    split <;> omega
  · rw [if_neg h, if_neg h]
theorem FnExactPages_ok : laws_FnExactPages.Pure := by
  intro a0 a1 _ _
  obtain ⟨s, rfl⟩ := exB a0
  refine Ev.rounds ?_
  unfold laws_FnExactPages.f
  simp only [B_size]
  by_cases h : (s.length : Int) > 1048576
  · simp only [if_pos h]; exact Ev.now _
  · simp only [if_neg h]
    refine Ev.bind (spec_Pages_ok s a1 (by omega)) ?_
    simp only [impl_Pages_ok s a1 (by omega), Option.bind_some]
    simpa using Ev.now _

end Go.Proofs.Ytpbkiokcailkcaa.KFnExactPages
namespace Go.Proofs.Ytpbkiokcailkcaa.Pure
open Go.Proofs.Ytpbkiokcailkcaa.PFnExactPages
theorem FnExactPages : laws_FnExactPages.Pure := Go.Proofs.Ytpbkiokcailkcaa.KFnExactPages.FnExactPages_ok
end Go.Proofs.Ytpbkiokcailkcaa.Pure
