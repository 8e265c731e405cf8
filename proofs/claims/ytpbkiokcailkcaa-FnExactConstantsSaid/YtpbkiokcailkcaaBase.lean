/- Texts as lists of bytes, and whole numbers: what the pure statements of this seat are proved with. No condition. -/
import Derived.Laws.BytesArg
import Derived.Laws.Strings
import Derived.Lib.Strings
import Derived.Lib.IndexBytes
import Derived.WideShapes
import Derived.RowKit
import Derived.Test.YtpbkiokcailkcaaWWords
import Derived.Test.YtpbkiokcailkcaaWMore
namespace Go.Proofs.Ytpbkiokcailkcaa.K
open Go.RowKit Go.Proofs.YtpbkiokcailkcaaW.PrintWords
set_option linter.unusedSimpArgs false

abbrev Str := List UInt8
/-- A text as Go's string. -/
def B (l : Str) : ByteArray := ⟨l.toArray⟩
theorem exB (s : ByteArray) : ∃ l, s = B l := ⟨s.data.toList, by simp [B]⟩
theorem exBs (xs : List ByteArray) : ∃ l : List Str, xs = l.map B := ⟨xs.map fun s => s.data.toList, by simp [B, Function.comp_def]⟩
@[simp] theorem B_size (l : Str) : (B l).size = l.length := by simp [B, ByteArray.size]
@[simp] theorem B_data (l : Str) : (B l).data.toList = l := by simp [B]
@[simp] theorem B_toList (l : Str) : (B l).toList = l := ByteArray.toList_mk l
theorem B_ext {a b : ByteArray} (h : a.data.toList = b.data.toList) : a = b := WideShapes.bytes_inj h
@[simp] theorem B_app (a b : Str) : B a ++ B b = B (a ++ b) := by
  refine B_ext ?_
  rw [ByteArray.data_append]
  simp
@[simp] theorem B_extract (l : Str) (i j : Nat) : (B l).extract i j = B ((l.drop i).take (j - i)) := by
  refine B_ext ?_
  rw [Lib.extract_data]
  simp
theorem B_inj {a b : Str} (h : B a = B b) : a = b := by have := congrArg (fun s => s.data.toList) h; simpa using this
@[simp] theorem B_eq {a b : Str} : B a = B b ↔ a = b := ⟨B_inj, fun h => by rw [h]⟩
theorem B_empty : (⟨#[]⟩ : ByteArray) = B [] := rfl
@[simp] theorem B_from (l : Str) (i : Nat) : (B l).extract i (B l).size = B (l.drop i) := by
  rw [B_extract, B_size, List.take_of_length_le (by simp)]
@[simp] theorem B_from' (l : Str) (i n : Nat) (h : n = l.length) : (B l).extract i n = B (l.drop i) := by
  subst h
  rw [B_extract, List.take_of_length_le (by simp)]
@[simp] theorem B_to (l : Str) (j : Nat) : (B l).extract 0 j = B (l.take j) := by rw [B_extract]; simp
theorem bt_B (l : Str) (i : Nat) (h : i < l.length) : bt (B l) (i : Int) = (l[i].toNat : Int) := by
  unfold bt
  rw [dif_pos (by simpa using h)]
  rfl
theorem bt_B' (l : Str) (i : Int) (h0 : 0 ≤ i) (h : i.toNat < l.length) : bt (B l) i = (l[i.toNat].toNat : Int) := by
  obtain ⟨n, rfl⟩ := Int.eq_ofNat_of_zero_le h0
  exact bt_B l n (by simpa using h)

/-- A byte as a whole number, and back. -/
def bi (b : UInt8) : Int := (b.toNat : Int)
def ib (n : Int) : UInt8 := UInt8.ofNat n.toNat
theorem bi_range (b : UInt8) : 0 ≤ bi b ∧ bi b ≤ 255 := by have := b.toNat_lt; unfold bi; omega
@[simp] theorem ib_bi (b : UInt8) : ib (bi b) = b := by simp [ib, bi]
theorem bi_ib (n : Int) (h0 : 0 ≤ n) (h : n < 256) : bi (ib n) = n := by
  unfold ib bi
  rw [UInt8.toNat_ofNat_of_lt' (by show n.toNat < 256; omega)]
  omega
theorem str_nums (l : Str) : strOfNums (l.map bi) = B l := by
  show (⟨((l.map bi).map fun n => UInt8.ofNat n.toNat).toArray⟩ : ByteArray) = ⟨l.toArray⟩
  rw [List.map_map]
  congr
  have : (fun n : Int => UInt8.ofNat n.toNat) ∘ bi = id := by funext b; exact ib_bi b
  rw [this, List.map_id]
theorem str_nums' (xs : List Int) : strOfNums xs = B (xs.map ib) := rfl

theorem wrap_id {x : Int} (h1 : -9223372036854775808 ≤ x) (h2 : x ≤ 9223372036854775807) : wrap64 x = x := by unfold wrap64; omega
theorem wf_i64 {x : Int} (h : (Lit.int .i64 x).wf = true) : -9223372036854775808 ≤ x ∧ x ≤ 9223372036854775807 := by
  simpa [Lit.wf, IntKind.min, IntKind.max, IntKind.signed, IntKind.bits] using h
theorem wrap_u64 (x : Int) : IntKind.u64.wrap x = x % 18446744073709551616 := by simp [IntKind.wrap, IntKind.signed, IntKind.bits]
theorem wrap_u64_range (x : Int) : 0 ≤ IntKind.u64.wrap x ∧ IntKind.u64.wrap x < 18446744073709551616 := by rw [wrap_u64]; omega

/-- A number in n bytes, the highest first. -/
def be : Nat → Int → Str
  | 0, _ => []
  | n + 1, v => be n (v / 256) ++ [ib (v % 256)]
@[simp] theorem be_length (n : Nat) (v : Int) : (be n v).length = n := by
  induction n generalizing v with
  | zero => rfl
  | succ n ih => simp [be, ih]
theorem be_mod (n : Nat) : ∀ (u v : Int), u % 256 ^ n = v % 256 ^ n → be n u = be n v := by
  induction n with
  | zero => intros; rfl
  | succ n ih =>
    intro u v h
    have hp : (256 : Int) ^ (n + 1) = 256 * 256 ^ n := by rw [Int.pow_succ]; exact Int.mul_comm _ _
    have hpos : (0 : Int) < 256 ^ n := Int.pow_pos (by omega)
    rw [hp] at h
    have key : ∀ u : Int, u % (256 * 256 ^ n) = 256 * ((u / 256) % 256 ^ n) + u % 256 := by
      intro u
      generalize (256 : Int) ^ n = P at hpos ⊢
      have e : u = (256 * ((u / 256) % P) + u % 256) + (256 * P) * ((u / 256) / P) := by
        have a1 := Int.mul_ediv_add_emod u 256
        have a2 := Int.mul_ediv_add_emod (u / 256) P
        rw [Int.mul_assoc]
        omega
      have b1 := Int.emod_nonneg (u / 256) (show P ≠ 0 by omega)
      have b2 := Int.emod_lt_of_pos (u / 256) hpos
      conv => lhs; rw [e, Int.add_mul_emod_self_left]
      exact Int.emod_eq_of_lt (by omega) (by omega)
    rw [key u, key v] at h
    have h1 : u % 256 = v % 256 := by omega
    have h2 : (u / 256) % 256 ^ n = (v / 256) % 256 ^ n := by omega
    simp only [be]
    rw [ih _ _ h2, h1]
theorem be_drop (n m : Nat) (v : Int) : (be (n + m) v).drop n = be m v := by
  induction m generalizing v with
  | zero => simp [be]
  | succ m ih =>
    show (be (n + m + 1) v).drop n = be (m + 1) v
    simp only [be]
    rw [List.drop_append_of_le_length (by simp), ih]

/-- The sum of 64 bits of a text. -/
def fnv (t : Str) : Int := t.foldl (fun v b => IntKind.u64.wrap ((Go.bits .xor .u64 v (IntKind.u64.wrap (bi b))) * 1099511628211)) 14695981039346656037
def sum (t : Str) (w : Int) : Str := if 1 ≤ w ∧ w ≤ 8 then be w.toNat (fnv t) else []
end Go.Proofs.Ytpbkiokcailkcaa.K
