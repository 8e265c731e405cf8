/- Words that the models use. No condition. -/
import Derived.Test.YtjoiklaecelalaaRBld
namespace Go.Proofs.Ytjoiklaecelalaa.V
open Go Go.Proofs.Ytjoiklaecelalaa.R
abbrev Pg := Int × Int × Int × ByteArray × Unit
abbrev Wr := Int × ByteArray × Unit
abbrev Dk := List ByteArray × List Wr × Unit
abbrev Opn := Bool × Int × ByteArray × Unit
abbrev Scd := List ByteArray × Int × Int × Unit
abbrev Pr2 := ByteArray × ByteArray × Unit
abbrev Stt := List Pr2 × Unit
abbrev Chg := ByteArray × ByteArray × Bool × Unit
abbrev Rt := Int × Int × Int × Int × Unit
abbrev Sto := Int × Int × Int × Rt × Int × Int × Stt × Unit
abbrev Don := Int × Sto × List Opn × Unit
abbrev Wld := Int × Dk × Bool × Sto × List Stt × List ByteArray × Unit
abbrev Evt := Int × List Chg × Int × List Int × Unit
/-- How much data it is: a slice's elements, a text's bytes. -/
def wt : (t : Ty) → t.D → Nat
  | .int _, _ => 0
  | .bool, _ => 0
  | .str, s => ByteArray.size s
  | .sl t, xs => List.length xs + (List.map (wt t) xs).sum
  | .unit, _ => 0
  | .pair a b, x => wt a x.1 + wt b x.2
/-- No size is out of reach. -/
def fineB : (t : Ty) → t.D → Bool
  | .int _, _ => true
  | .bool, _ => true
  | .str, s => decide (ByteArray.size s < 1152921504606846976)
  | .sl t, xs => decide (List.length xs < 1152921504606846976) && List.all xs (fineB t)
  | .unit, _ => true
  | .pair a b, x => fineB a x.1 && fineB b x.2
/-- All slices are small. -/
def smallB : (t : Ty) → t.D → Bool
  | .int _, _ => true
  | .bool, _ => true
  | .str, _ => true
  | .sl t, xs => decide (List.length xs ≤ 1048576) && List.all xs (smallB t)
  | .unit, _ => true
  | .pair a b, x => smallB a x.1 && smallB b x.2
def eqL {α : Type} (f : α → α → Bool) : List α → List α → Bool
  | [], [] => true
  | a :: r, b :: q => f a b && eqL f r q
  | _, _ => false
def eqI (a b : Int) : Bool := decide (a = b)
def eqO (a b : Bool) : Bool := a == b
def eqS (a b : ByteArray) : Bool := ByteArray.toList a == ByteArray.toList b
def eqB : (t : Ty) → t.D → t.D → Bool
  | .int _, a, b => eqI a b
  | .bool, a, b => eqO a b
  | .str, a, b => eqS a b
  | .sl t, xs, ys => eqL (eqB t) xs ys
  | .unit, _, _ => true
  | .pair a b, x, y => eqB a x.1 y.1 && eqB b x.2 y.2
def szM (t : Ty) (x : t.D) (left : Int) : Option Int :=
  if (fineB t x && decide (0 ≤ left) && decide (left ≤ 1048576)) = true then some (if left - (wt t x : Int) < 0 then -1 else left - (wt t x : Int)) else none
def toM (t : Ty) (x : t.D) : Option t.D := if smallB t x = true then some x else none
def eqM (t : Ty) (x y : t.D) : Option Bool := if (fineB t x && fineB t y) = true then some (eqB t x y) else none
/-- The decimal digits of a number, behind those that are there. -/
def digsGo : Nat → Int → ByteArray → ByteArray
  | 0, _, out => out
  | m + 1, k, out => if k > 0 then digsGo m (k / 10) (strOfNums [48 + k % 10] ++ out) else out
def mkT (k : Int) : ByteArray := if k ≤ 0 then ⟨#[109, 48]⟩ else ⟨#[109]⟩ ++ digsGo 20 k ⟨#[]⟩
/-- What stands in an element that is marked, and the next mark. -/
def mkE : (t : Ty) → Int → t.D × Int
  | .int _, k => (k, k + 1)
  | .bool, k => (decide (k % 3 = 0), k + 1)
  | .str, k => (mkT k, k + 1)
  | .sl _, k => ([], k)
  | .unit, k => ((), k)
  | .pair a b, k => (((mkE a k).1, (mkE b (mkE a k).2).1), (mkE b (mkE a k).2).2)
def gL {α : Type} (e : Int → α) (c : Nat) : Nat → Int → List α
  | 0, _ => []
  | n + 1, k => e k :: gL e c n (k + c)
/-- How many marks an element takes. -/
def mkN : Ty → Nat
  | .unit => 0
  | .pair a b => mkN a + mkN b
  | .sl _ => 0
  | _ => 1
def mkL (t : Ty) (n : Nat) (k : Int) : List t.D := gL (fun k => (mkE t k).1) (mkN t) n k
def markM (t : Ty) (xs : List t.D) (k : Int) : Option (Int × List t.D) :=
  if (decide (1 ≤ k) && decide (k ≤ 1125899906842624) && decide (xs.length ≤ 1125899906842624)) = true then some (k + xs.length * mkN t, mkL t xs.length k) else none
def heldM (t : Ty) (xs : List t.D) (k : Int) : Option Int :=
  if (decide (1 ≤ k) && decide (k ≤ 1125899906842624) && decide (xs.length ≤ 1125899906842624)) = true then some (if eqB (.sl t) xs (mkL t xs.length k) = true then k + xs.length * mkN t else -1) else none
/-! ### The map -/
def inB (v lo hi : Int) : Bool := decide (lo ≤ v) && decide (v ≤ hi)
def keyOk (k : ByteArray) : Bool := inB (k.size : Int) 1 20
def bl (a b : ByteArray) : Bool := Op.bytesLess (ByteArray.toList a) (ByteArray.toList b)
def z0 : ByteArray := ⟨#[]⟩
def zP : Pr2 := (⟨#[]⟩, ⟨#[]⟩, ())
def okPairAt (xs : List Pr2) (i : Nat) : Bool := keyOk (xs.getD i zP).1 && (decide ((xs.getD i zP).2.1.size ≤ 100) && (i == 0 || bl (xs.getD (i - 1) zP).1 (xs.getD i zP).1))
def validState (s : Stt) : Bool := decide (s.1.length ≤ 100) && (List.range' 0 s.1.length).all (okPairAt s.1)
def okChg (c : Chg) : Bool := keyOk c.1 && (decide (c.2.1.size ≤ 100) && !(c.2.2.1 && !(c.2.1.toList == [])))
def zC : Chg := (⟨#[]⟩, ⟨#[]⟩, false, ())
def validBatch (b : List Chg) : Bool := inB (b.length : Int) 1 20 && (List.range' 0 b.length).all fun i => okChg (b.getD i zC)
/-- The first that is meant. -/
def findGo {α E : Type} (p : α → Bool) (out : α → E) (ok : E) : List α → E
  | [] => ok
  | x :: r => bif p x then out x else findGo p out ok r
def getGo (k : ByteArray) (l : List Pr2) : ByteArray × Bool := findGo (fun p => p.1.toList == k.toList) (fun p => (p.2.1, true)) (⟨#[]⟩, false) l
def getD' (s : Stt) (k : ByteArray) : ByteArray × Bool := bif validState s then getGo k s.1 else (⟨#[]⟩, false)
/-! ### Disks -/
def zW : Wr := (0, ⟨#[]⟩, ())
def okWr (n : Nat) (w : Wr) : Bool := decide (0 ≤ w.1) && (decide (w.1 < (n : Int)) && decide (w.2.1.size = 64))
def validDisk (d : Dk) : Bool := inB (d.1.length : Int) 8 200 && (decide (d.2.1.length ≤ 300) && ((List.range' 0 d.1.length).all (fun i => decide ((d.1.getD i z0).size = 64)) && (List.range' 0 d.2.1.length).all fun i => okWr d.1.length (d.2.1.getD i zW)))
/-- One after the other, with their places. -/
def foldI {α σ : Type} (step : Nat → α → σ → σ) : Nat → List α → σ → σ
  | _, [], s => s
  | i, x :: r, s => foldI step (i + 1) r (step i x s)
def syncS (sec : List ByteArray) (ws : List Wr) : List ByteArray := foldI (fun _ w s => s.set w.1.toNat w.2.1) 0 ws sec
def syncD (d : Dk) : Dk := (syncS d.1 d.2.1, [], ())
def seeD (d : Dk) (a : Int) : ByteArray := findGo (fun w => w.1 == a) (fun w => w.2.1) (d.1.getD a.toNat z0) d.2.1.reverse
def sectorD (d : Dk) (a : Int) : ByteArray := bif validDisk d && (decide (0 ≤ a) && decide (a < (d.1.length : Int))) then seeD d a else z0
def inSec (n : Nat) (w : Wr) : Bool := decide (0 ≤ w.1) && decide (w.1 < (n : Int))
def zS : ByteArray := strOfNums (List.replicate 64 0)
def newDisk (n : Int) : Dk := bif inB n 8 200 then (List.replicate n.toNat zS, [], ()) else ([], [], ())
def clampZ (f : Int) : Int := if f < 0 then 0 else if f > 64 then 64 else f
def fateAt (f : List Int) (i : Nat) : Int := if i < f.length then clampZ (f.getD i 0) else 0
def mixS (a b : ByteArray) (k : Int) : ByteArray := cutOf a 0 k ++ cutOf b k (nI b.size)
def tearS (f : List Int) (sec : List ByteArray) (ws : List Wr) : List ByteArray := foldI (fun i w s => s.set w.1.toNat (mixS w.2.1 (s.getD w.1.toNat z0) (fateAt f i))) 0 ws sec
def powerLoss (d : Dk) (f : List Int) : Dk := bif validDisk d then (tearS f d.1 d.2.1, [], ()) else ([], [], ())
/-! ### Pages -/
/-- The last digits to the base 256. -/
def digL (v : Int) : Nat → List Int
  | 0 => []
  | n + 1 => digL (v / 256) n ++ [v % 256]
def beS (v : Int) (n : Nat) : ByteArray := strOfNums (digL v n)
def numGo (s : ByteArray) : Nat → Nat → Int → Int
  | 0, _, v => v
  | k + 1, i, v => numGo s k (i + 1) (v * 256 + byteAt s i)
def numS (s : ByteArray) : Int := numGo s s.size 0 0
def hashStep (h b : Int) : Int := IntKind.wrap IntKind.u64 (IntKind.wrap IntKind.u64 (nI (BitVec.toNat (BitVec.ofInt 64 h ^^^ BitVec.ofInt 64 (IntKind.wrap IntKind.u64 b)))) * 1099511628211)
/-- So many rounds from a number on. -/
def iter {σ : Type} (f : Nat → σ → σ) : Nat → Nat → σ → σ
  | 0, _, s => s
  | k + 1, i, s => iter f k (i + 1) (f i s)
def hashGo (s : ByteArray) (k i : Nat) (h : Int) : Int := iter (fun i h => hashStep h (byteAt s i)) k i h
def sumS (s : ByteArray) (w : Int) : ByteArray := bif inB w 1 8 then beS (hashGo s s.size 0 14695981039346656037) w.toNat else ⟨#[]⟩
def pageOk (p : Pg) (w : Int) : Bool := inB w 1 8 && (inB p.1 1 4 && (inB p.2.1 1 60000 && (inB p.2.2.1 1 1000000000 && (decide ((p.2.2.2.1.size : Int) ≤ 56 - w) && (p.1 != 3 || (p.2.2.2.1.toList == []))))))
def bodyS (p : Pg) (w : Int) : ByteArray := beS p.1 1 ++ beS p.2.1 2 ++ beS p.2.2.1 4 ++ beS p.2.2.2.1.size 1 ++ p.2.2.2.1 ++ strOfNums (List.replicate (56 - w - p.2.2.2.1.size).toNat 0)
def pageS (p : Pg) (w : Int) : ByteArray := bif pageOk p w then sumS (bodyS p w) w ++ bodyS p w else ⟨#[]⟩
def zPg : Pg := (0, 0, 0, ⟨#[]⟩, ())
def rawB (b : ByteArray) : Pg := (byteAt b 0, numS (cutOf b 1 3), numS (cutOf b 3 7), cutOf b 8 (8 + byteAt b 7), ())
def rawP (s : ByteArray) (w : Int) : Pg := rawB (cutOf s w (nI s.size))
def readP (s : ByteArray) (w : Int) : Pg × Bool :=
  bif nI s.size != 64 then (zPg, false)
  else bif !inB w 1 8 then (zPg, false)
  else bif decide (byteAt (cutOf s w (nI s.size)) 7 > 56 - w) then (zPg, false)
  else bif !((pageS (rawP s w) w).toList == s.toList) then (zPg, false) else (rawP s w, true)
def rootOk (r : Rt) : Bool := inB r.2.1 0 1 && inB r.2.2.1 1 999999000
def rootS (r : Rt) (w : Int) : ByteArray := bif rootOk r then pageS (4, r.2.2.2.1, r.1, beS r.2.1 1 ++ beS r.2.2.1 4, ()) w else ⟨#[]⟩
/-! ### A batch as a text -/
def chgL (c : Chg) : List Int := bif c.2.2.1 then [1, nI c.1.size] ++ bytesOfStr c.1 else [0, nI c.1.size] ++ bytesOfStr c.1 ++ [nI c.2.1.size] ++ bytesOfStr c.2.1
def batchL (b : List Chg) : List Int := (b.map chgL).flatten
def formB (b : List Chg) : ByteArray := bif validBatch b then strOfNums (batchL b) else ⟨#[]⟩
/-- A size and so many bytes from the front. -/
def pieceS (s : ByteArray) : ByteArray × ByteArray × Bool := if (s.size : Int) < 1 ∨ (s.size : Int) < 1 + byteAt s 0 then (⟨#[]⟩, s, false) else (cutOf s 1 (1 + byteAt s 0), cutOf s (1 + byteAt s 0) (nI s.size), true)
def stepB (strict : Bool) (s : ByteArray) : Option (Chg × ByteArray) :=
  bif strict && decide (byteAt s 0 > 1) then none
  else bif !(pieceS (cutOf s 1 (nI s.size))).2.2 then none
  else bif byteAt s 0 == 1 then some (((pieceS (cutOf s 1 (nI s.size))).1, ⟨#[]⟩, true, ()), (pieceS (cutOf s 1 (nI s.size))).2.1)
  else bif !(pieceS (pieceS (cutOf s 1 (nI s.size))).2.1).2.2 then none
  else some (((pieceS (cutOf s 1 (nI s.size))).1, (pieceS (pieceS (cutOf s 1 (nI s.size))).2.1).1, false, ()), (pieceS (pieceS (cutOf s 1 (nI s.size))).2.1).2.1)
def parseB (strict : Bool) : Nat → List Chg → ByteArray → Option (List Chg × ByteArray)
  | 0, r, s => some (r, s)
  | f + 1, r, s => bif decide (s.size > 0) && decide (r.length ≤ 20) then (match stepB strict s with | none => none | some (c, t) => parseB strict f (r ++ [c]) t) else some (r, s)
def readB (s : ByteArray) : List Chg × Bool := match parseB true 22 [] s with
  | none => ([], false)
  | some (b, t) => bif decide (t.size > 0) || !validBatch b then ([], false) else (b, true)
def readL (s : ByteArray) : List Chg × Bool := match parseB false 22 [] s with
  | none => ([], false)
  | some (b, _) => bif s.size == 0 || !((formB b).toList == s.toList) then ([], false) else (b, true)
/-! ### Entries in parts -/
/-- A text in parts of so many bytes. -/
def partsGo (n : Nat) : Nat → ByteArray → List ByteArray
  | 0, s => [s]
  | f + 1, s => if s.size > n then cutOf s 0 n :: partsGo n f (cutOf s n (nI s.size)) else [s]
def partsS (s : ByteArray) (w : Int) : List ByteArray := partsGo (56 - w).toNat s.size s
/-- How many pages a text takes. -/
def pagesN (n : Nat) (w : Int) : Int := bif inB w 1 8 then (if ((n : Int) + (56 - w) - 1) / (56 - w) > 1 then ((n : Int) + (56 - w) - 1) / (56 - w) else 1) else 0
def cutGo (life w : Int) : Int → List ByteArray → List ByteArray
  | _, [] => []
  | k, [p] => [pageS (2, life, k, p, ()) w]
  | k, p :: q :: r => pageS (1, life, k, p, ()) w :: cutGo life w (k + 1) (q :: r)
def cutS (e : ByteArray) (life first w : Int) : List ByteArray := bif inB w 1 8 && (inB life 1 60000 && (decide (1 ≤ first) && decide (first ≤ 1000000000 - pagesN e.size w + 1))) then cutGo life w first (partsS e w) else []
/-! ### A disk's ops -/
def opS (d : Dk) (o : Opn) : Dk := bif o.1 then syncD d else bif okWr d.1.length (o.2.1, o.2.2.1, ()) && decide (d.2.1.length < 300) then (d.1, d.2.1 ++ [(o.2.1, o.2.2.1, ())], ()) else d
def performS (d : Dk) (ops : List Opn) (n : Int) : Dk := bif validDisk d then (ops.take n.toNat).foldl opS d else ([], [], ())
/-! ### Roots on a disk -/
def rootOf (p : Pg) : Rt := (p.2.2.1, byteAt p.2.2.2.1 0, numS (cutOf p.2.2.2.1 1 (nI p.2.2.2.1.size)), p.2.1, ())
def pickRoot (s : ByteArray) (w at' : Int) (best : Rt) : Rt :=
  bif (readP s w).2 && ((readP s w).1.1 == 4) && decide ((readP s w).1.2.2.2.1.size = 5) && ((readP s w).1.2.2.1 % 2 == at') && rootOk (rootOf (readP s w).1) && decide ((readP s w).1.2.2.1 > best.1) then rootOf (readP s w).1 else best
def findRoot (d : Dk) (w : Int) : Rt := bif validDisk d && inB w 1 8 then pickRoot (seeD d 1) w 1 (pickRoot (seeD d 0) w 0 (0, 0, 1, 0, ())) else (0, 0, 0, 0, ())
/-! ### A state as batches -/
def setC (p : Pr2) : Chg := (p.1, p.2.1, false, ())
def snapStep (i : Nat) (p : Pr2) (r : List (List Chg) × Bool × List Chg) : List (List Chg) × Bool × List Chg := bif i % 20 == 0 then (appL r.2.1 r.1 r.2.2, true, [setC p]) else (r.1, r.2.1, r.2.2 ++ [setC p])
def snapGo (i : Nat) (l : List Pr2) (r : List (List Chg) × Bool × List Chg) : List (List Chg) × Bool × List Chg := foldI snapStep i l r
def snapS (s : Stt) : List (List Chg) := bif validState s then (let r := snapGo 0 s.1 ([], false, []); appL r.2.1 r.1 r.2.2) else []
end Go.Proofs.Ytjoiklaecelalaa.V
