/- FnExactSum, as numbers alone: both sides are the last bytes of one sum of 64 bits. No condition. -/
import Derived.Test.YtpbkiokcailkcaaPFnExactSumx1
import Derived.Test.YtpbkiokcailkcaaModel
namespace Go.Proofs.Ytpbkiokcailkcaa.KFnExactSum
open Go.RowKit Go.Proofs.Ytpbkiokcailkcaa.PFnExactSum Go.Proofs.YtpbkiokcailkcaaW.PrintWords Go.Proofs.YtpbkiokcailkcaaW.PrintLast Go.Proofs.YtpbkiokcailkcaaW.PrintMore Go.Proofs.Ytpbkiokcailkcaa.K
set_option linter.unusedSimpArgs false
set_option linter.unusedVariables false

theorem spec_l1Width_ok (w : Int) : spec_l1Width.f w = some (decide (1 ≤ w ∧ w ≤ 8)) := by
  unfold spec_l1Width.f
  by_cases h : w ≥ 1
  · rw [if_pos h]; simp [show 1 ≤ w from h]
  · rw [if_neg h]; simp [show ¬ 1 ≤ w from h]
theorem spec_Sum_l1 (w : Int) (hw : 1 ≤ w ∧ w ≤ 8) : ∀ (d : Nat) (j v : Int) (out : Str), 0 ≤ j → j + d = w → (out.length : Int) ≤ j → 0 ≤ v → v < 18446744073709551616 →
    Ev (fun k => spec_Sum.l1 k w v (B out) j) (B (be d v ++ out)) := by
  intro d
  induction d with
  | zero =>
    intro j v out h0 hj _ _ _
    refine Ev.step (fun _ => spec_Sum.l1.eq_2 ..) ?_
    simp only [if_neg (show ¬ j < w by omega)]
    simpa [be] using Ev.now _
  | succ d ih =>
    intro j v out h0 hj ho hv hv2
    refine Ev.step (fun _ => spec_Sum.l1.eq_2 ..) ?_
    simp only [if_pos (show j < w by omega), Option.bind_some, str_nums', B_size, List.length_map, List.length_singleton]
    simp only [if_pos (show 1 + out.length ≤ 9223372036854775807 by omega), B_app]
    have e1 : IntKind.u64.wrap (Int.tdiv v 256) = v / 256 := by
      rw [wrap_u64, Int.tdiv_eq_ediv_of_nonneg hv, Int.emod_eq_of_lt (by omega) (by omega)]
    have e2 : (Int.tmod v 256) % 256 = v % 256 := by
      rw [Int.tmod_eq_emod_of_nonneg hv]; omega
    rw [e1, e2, wrap_id (by omega) (by omega)]
    have := ih (j + 1) (v / 256) ([ib (v % 256)] ++ out) (by omega) (by omega) (by simp; omega) (by omega) (by omega)
    simpa [be] using this
theorem spec_Sum_l0 (t : Str) (w : Int) (hw : 1 ≤ w ∧ w ≤ 8) (ht : t.length < 9223372036854775807) : ∀ (d i : Nat) (v : Int), i + d = t.length → 0 ≤ v → v < 18446744073709551616 →
    Ev (fun k => spec_Sum.l0 k (B t) w v (i : Int)) (B (be w.toNat ((t.drop i).foldl (fun v b => IntKind.u64.wrap ((Go.bits .xor .u64 v (IntKind.u64.wrap (bi b))) * 1099511628211)) v))) := by
  intro d
  induction d with
  | zero =>
    intro i v hi h0 h1
    refine Ev.step (fun _ => spec_Sum.l0.eq_2 ..) ?_
    simp only [B_size, if_neg (show ¬ (i : Int) < (t.length : Int) by omega)]
    rw [List.drop_of_length_le (by omega)]
    have := spec_Sum_l1 w hw w.toNat 0 v [] (by omega) (by omega) (by simp) h0 h1
    simpa [B_empty] using this
  | succ d ih =>
    intro i v hi h0 h1
    refine Ev.step (fun _ => spec_Sum.l0.eq_2 ..) ?_
    simp only [B_size, if_pos (show (i : Int) < (t.length : Int) by omega), if_pos (show (0 : Int) ≤ (i : Int) by omega)]
    rw [bt_B t i (by omega), wrap_id (x := (i : Int) + 1) (by omega) (by omega)]
    have r := wrap_u64_range ((Go.bits .xor .u64 v (IntKind.u64.wrap (bi t[i]))) * 1099511628211)
    have := ih (i + 1) _ (by omega) r.1 r.2
    rw [List.drop_eq_getElem_cons (by omega : i < t.length), List.foldl_cons]
    exact this
theorem spec_Sum_ok (t : Str) (w : Int) (ht : t.length < 9223372036854775807) : Ev (fun k => spec_Sum.f k (B t) w) (B (sum t w)) := by
  unfold spec_Sum.f sum
  simp only [spec_l1Width_ok, Option.bind_some, decide_eq_true_eq]
  by_cases h : 1 ≤ w ∧ w ≤ 8
  · simp only [if_pos h]
    have := spec_Sum_l0 t w h ht t.length 0 14695981039346656037 (by omega) (by omega) (by omega)
    simpa [fnv] using this
  · simp only [if_neg h]
    exact Ev.now _
theorem impl_in_ok (a b c : Int) : impl_in.f a b c = some (decide (b ≤ a ∧ a ≤ c)) := by
  unfold impl_in.f
  by_cases h : a ≥ b
  · rw [if_pos h]; simp [show b ≤ a from h]
  · rw [if_neg h]; simp [show ¬ b ≤ a from h]
theorem impl_be_l0 : ∀ (i : Nat) (v : Int) (tail : Str), i ≤ 4096 →
    Ev (fun k => impl_be.l0 k v (List.replicate i 0 ++ tail.map bi) ((i : Int) - 1)) (B (be i v ++ tail)) := by
  intro i
  induction i with
  | zero =>
    intro v tail _
    refine Ev.step (fun _ => impl_be.l0.eq_2 ..) ?_
    simp only [if_neg (show ¬ (((0 : Nat) : Int) - 1 ≥ 0) by omega)]
    simp only [List.replicate_zero, List.nil_append, be, str_nums]
    exact Ev.now _
  | succ i ih =>
    intro v tail hi
    refine Ev.step (fun _ => impl_be.l0.eq_2 ..) ?_
    have e : ((i + 1 : Nat) : Int) - 1 = (i : Int) := by omega
    rw [e]
    simp only [if_pos (show ((i : Int) ≥ 0) by omega), if_pos (show (0 : Int) ≤ (i : Int) by omega), List.length_append, List.length_replicate, List.length_map]
    simp only [if_pos (show (i : Int) < ((i + 1 + tail.length : Nat) : Int) by omega), Int.toNat_natCast]
    rw [wrap_id (by omega) (by omega)]
    have h := ih (v / 256) (ib (v % 256) :: tail) (by omega)
    have e2 : (List.replicate (i + 1) (0 : Int) ++ tail.map bi).set i (v % 256) = List.replicate i 0 ++ (ib (v % 256) :: tail).map bi := by
      rw [List.replicate_succ', List.append_assoc, List.set_append_right _ _ (by simp)]
      simp [bi_ib _ (Int.emod_nonneg v (by omega)) (Int.emod_lt_of_pos v (by omega))]
    rw [e2]
    simpa [be] using h
theorem impl_be_ok (v : Int) (n : Nat) (hn : n ≤ 4096) : Ev (fun k => impl_be.f k v (n : Int)) (B (be n v)) := by
  unfold impl_be.f
  simp only [if_pos (show (0 : Int) ≤ (n : Int) by omega), Int.toNat_natCast, if_pos (show n ≤ 281474976710656 by omega)]
  rw [wrap_id (by omega) (by omega)]
  have := impl_be_l0 n v [] hn
  simpa using this
theorem impl_Sum_l0 (t : Str) (w : Int) (hw : 1 ≤ w ∧ w ≤ 8) (ht : t.length < 9223372036854775807) : ∀ (d i : Nat) (v : Int), i + d = t.length → 0 ≤ v → v < 18446744073709551616 →
    Ev (fun k => impl_Sum.l0 k (B t) w v (i : Int)) (B (be w.toNat ((t.drop i).foldl (fun v b => IntKind.u64.wrap ((Go.bits .xor .u64 v (IntKind.u64.wrap (bi b))) * 1099511628211)) v))) := by
  intro d
  induction d with
  | zero =>
    intro i v hi h0 h1
    refine Ev.step (fun _ => impl_Sum.l0.eq_2 ..) ?_
    simp only [B_size, if_neg (show ¬ (i : Int) < (t.length : Int) by omega)]
    rw [List.drop_of_length_le (by omega)]
    refine Ev.bind (impl_be_ok (wrap64 v) 8 (by omega)) ?_
    rw [wrap_id (x := 8 - w) (by omega) (by omega)]
    simp only [B_size, be_length, if_pos (show (0 : Int) ≤ 8 - w by omega), if_pos (show 8 - w ≤ ((8 : Nat) : Int) by omega)]
    simp only [B_extract]
    rw [List.take_of_length_le (by simp)]
    obtain ⟨n, rfl⟩ := Int.eq_ofNat_of_zero_le (show 0 ≤ w by omega)
    have e : be 8 (wrap64 v) = be 8 v := be_mod 8 _ _ (by unfold wrap64; omega)
    have e3 : (8 : Nat) = (8 - n) + n := by omega
    have e2 := be_drop (8 - n) n v
    rw [← e3] at e2
    rw [e, show (8 - (n : Int)).toNat = 8 - n by omega, e2]
    simpa using Ev.now _
  | succ d ih =>
    intro i v hi h0 h1
    refine Ev.step (fun _ => impl_Sum.l0.eq_2 ..) ?_
    simp only [B_size, if_pos (show (i : Int) < (t.length : Int) by omega), if_pos (show (0 : Int) ≤ (i : Int) by omega)]
    rw [bt_B t i (by omega), wrap_id (x := (i : Int) + 1) (by omega) (by omega)]
    have r := wrap_u64_range ((Go.bits .xor .u64 v (IntKind.u64.wrap (bi t[i]))) * 1099511628211)
    have := ih (i + 1) _ (by omega) r.1 r.2
    rw [List.drop_eq_getElem_cons (by omega : i < t.length), List.foldl_cons]
    exact this
theorem impl_Sum_ok (t : Str) (w : Int) (ht : t.length < 9223372036854775807) : Ev (fun k => impl_Sum.f k (B t) w) (B (sum t w)) := by
  unfold impl_Sum.f sum
  simp only [impl_in_ok, Option.bind_some, decide_eq_true_eq]
  by_cases h : 1 ≤ w ∧ w ≤ 8
  · simp only [if_pos h]
    have := impl_Sum_l0 t w h ht t.length 0 14695981039346656037 (by omega) (by omega) (by omega)
    simpa [fnv] using this
  · simp only [if_neg h]
    exact Ev.now _
theorem FnExactSum_ok : laws_FnExactSum.Pure := by
  intro a0 a1 _ _
  obtain ⟨s, rfl⟩ := exB a0
  refine Ev.rounds ?_
  unfold laws_FnExactSum.f
  simp only [B_size]
  by_cases h : (s.length : Int) > 1048576
  · simp only [if_pos h]; exact Ev.now _
  · simp only [if_neg h]
    refine Ev.bind (spec_Sum_ok s a1 (by omega)) ?_
    refine Ev.bind (impl_Sum_ok s a1 (by omega)) ?_
    simpa using Ev.now _

end Go.Proofs.Ytpbkiokcailkcaa.KFnExactSum
namespace Go.Proofs.Ytpbkiokcailkcaa.Pure
open Go.Proofs.Ytpbkiokcailkcaa.PFnExactSum
theorem FnExactSum : laws_FnExactSum.Pure := Go.Proofs.Ytpbkiokcailkcaa.KFnExactSum.FnExactSum_ok
end Go.Proofs.Ytpbkiokcailkcaa.Pure
