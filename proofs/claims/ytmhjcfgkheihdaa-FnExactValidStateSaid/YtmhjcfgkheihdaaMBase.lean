/- Words that the models use. No condition. -/
import Derived.Test.YtmhjcfgkheihdaaRBld
namespace Go.Proofs.Ytmhjcfgkheihdaa.V
open Go Go.Proofs.Ytmhjcfgkheihdaa.R
abbrev Pg := Int × Int × Int × ByteArray × Unit
abbrev Wr := Int × ByteArray × Unit
abbrev Dk := List ByteArray × List Wr × Unit
abbrev Opn := Bool × Int × ByteArray × Unit
abbrev Scd := List ByteArray × Int × Int × Unit
abbrev Pr2 := ByteArray × ByteArray × Unit
abbrev Stt := List Pr2 × Unit
abbrev Chg := ByteArray × ByteArray × Bool × Unit
abbrev Rt := Int × Int × Int × Int × Unit
abbrev Sto := Int × Int × Int × Rt × Int × Int × Stt × Unit
abbrev Don := Int × Sto × List Opn × Unit
abbrev Wld := Int × Dk × Bool × Sto × List Stt × List ByteArray × Unit
abbrev Evt := Int × List Chg × Int × List Int × Unit
/-- How much data it is: a slice's elements, a text's bytes. -/
def wt : (t : Ty) → t.D → Nat
  | .int _, _ => 0
  | .bool, _ => 0
  | .str, s => ByteArray.size s
  | .sl t, xs => List.length xs + (List.map (wt t) xs).sum
  | .unit, _ => 0
  | .pair a b, x => wt a x.1 + wt b x.2
/-- No size is out of reach. -/
def fineB : (t : Ty) → t.D → Bool
  | .int _, _ => true
  | .bool, _ => true
  | .str, s => decide (ByteArray.size s < 1152921504606846976)
  | .sl t, xs => decide (List.length xs < 1152921504606846976) && List.all xs (fineB t)
  | .unit, _ => true
  | .pair a b, x => fineB a x.1 && fineB b x.2
/-- All slices are small. -/
def smallB : (t : Ty) → t.D → Bool
  | .int _, _ => true
  | .bool, _ => true
  | .str, _ => true
  | .sl t, xs => decide (List.length xs ≤ 1048576) && List.all xs (smallB t)
  | .unit, _ => true
  | .pair a b, x => smallB a x.1 && smallB b x.2
def eqL {α : Type} (f : α → α → Bool) : List α → List α → Bool
  | [], [] => true
  | a :: r, b :: q => f a b && eqL f r q
  | _, _ => false
def eqI (a b : Int) : Bool := decide (a = b)
def eqO (a b : Bool) : Bool := a == b
def eqS (a b : ByteArray) : Bool := ByteArray.toList a == ByteArray.toList b
def eqB : (t : Ty) → t.D → t.D → Bool
  | .int _, a, b => eqI a b
  | .bool, a, b => eqO a b
  | .str, a, b => eqS a b
  | .sl t, xs, ys => eqL (eqB t) xs ys
  | .unit, _, _ => true
  | .pair a b, x, y => eqB a x.1 y.1 && eqB b x.2 y.2
def szM (t : Ty) (x : t.D) (left : Int) : Option Int :=
  if (fineB t x && decide (0 ≤ left) && decide (left ≤ 1048576)) = true then some (if left - (wt t x : Int) < 0 then -1 else left - (wt t x : Int)) else none
def toM (t : Ty) (x : t.D) : Option t.D := if smallB t x = true then some x else none
def eqM (t : Ty) (x y : t.D) : Option Bool := if (fineB t x && fineB t y) = true then some (eqB t x y) else none
/-- The decimal digits of a number, behind those that are there. -/
def digsGo : Nat → Int → ByteArray → ByteArray
  | 0, _, out => out
  | m + 1, k, out => if k > 0 then digsGo m (k / 10) (strOfNums [48 + k % 10] ++ out) else out
def mkT (k : Int) : ByteArray := if k ≤ 0 then ⟨#[109, 48]⟩ else ⟨#[109]⟩ ++ digsGo 20 k ⟨#[]⟩
/-- What stands in an element that is marked, and the next mark. -/
def mkE : (t : Ty) → Int → t.D × Int
  | .int _, k => (k, k + 1)
  | .bool, k => (decide (k % 3 = 0), k + 1)
  | .str, k => (mkT k, k + 1)
  | .sl _, k => ([], k)
  | .unit, k => ((), k)
  | .pair a b, k => (((mkE a k).1, (mkE b (mkE a k).2).1), (mkE b (mkE a k).2).2)
def gL {α : Type} (e : Int → α) (c : Nat) : Nat → Int → List α
  | 0, _ => []
  | n + 1, k => e k :: gL e c n (k + c)
/-- How many marks an element takes. -/
def mkN : Ty → Nat
  | .unit => 0
  | .pair a b => mkN a + mkN b
  | .sl _ => 0
  | _ => 1
def mkL (t : Ty) (n : Nat) (k : Int) : List t.D := gL (fun k => (mkE t k).1) (mkN t) n k
def markM (t : Ty) (xs : List t.D) (k : Int) : Option (Int × List t.D) :=
  if (decide (1 ≤ k) && decide (k ≤ 1125899906842624) && decide (xs.length ≤ 1125899906842624)) = true then some (k + xs.length * mkN t, mkL t xs.length k) else none
def heldM (t : Ty) (xs : List t.D) (k : Int) : Option Int :=
  if (decide (1 ≤ k) && decide (k ≤ 1125899906842624) && decide (xs.length ≤ 1125899906842624)) = true then some (if eqB (.sl t) xs (mkL t xs.length k) = true then k + xs.length * mkN t else -1) else none
/-! ### The map -/
def inB (v lo hi : Int) : Bool := decide (lo ≤ v) && decide (v ≤ hi)
def keyOk (k : ByteArray) : Bool := inB (k.size : Int) 1 20
def bl (a b : ByteArray) : Bool := Op.bytesLess (ByteArray.toList a) (ByteArray.toList b)
def z0 : ByteArray := ⟨#[]⟩
def zP : Pr2 := (⟨#[]⟩, ⟨#[]⟩, ())
def okPairAt (xs : List Pr2) (i : Nat) : Bool := keyOk (xs.getD i zP).1 && (decide ((xs.getD i zP).2.1.size ≤ 100) && (i == 0 || bl (xs.getD (i - 1) zP).1 (xs.getD i zP).1))
def validState (s : Stt) : Bool := decide (s.1.length ≤ 100) && (List.range' 0 s.1.length).all (okPairAt s.1)
def okChg (c : Chg) : Bool := keyOk c.1 && (decide (c.2.1.size ≤ 100) && !(c.2.2.1 && !(c.2.1.toList == [])))
def zC : Chg := (⟨#[]⟩, ⟨#[]⟩, false, ())
def validBatch (b : List Chg) : Bool := inB (b.length : Int) 1 20 && (List.range' 0 b.length).all fun i => okChg (b.getD i zC)
def getGo (k : ByteArray) : List Pr2 → ByteArray × Bool
  | [] => (⟨#[]⟩, false)
  | p :: r => if (p.1.toList == k.toList) = true then (p.2.1, true) else getGo k r
def getD' (s : Stt) (k : ByteArray) : ByteArray × Bool := if validState s = true then getGo k s.1 else (⟨#[]⟩, false)
/-! ### Disks -/
def zW : Wr := (0, ⟨#[]⟩, ())
def okWr (n : Nat) (w : Wr) : Bool := decide (0 ≤ w.1) && (decide (w.1 < (n : Int)) && decide (w.2.1.size = 64))
def validDisk (d : Dk) : Bool := inB (d.1.length : Int) 8 200 && (decide (d.2.1.length ≤ 300) && ((List.range' 0 d.1.length).all (fun i => decide ((d.1.getD i z0).size = 64)) && (List.range' 0 d.2.1.length).all fun i => okWr d.1.length (d.2.1.getD i zW)))
end Go.Proofs.Ytmhjcfgkheihdaa.V
