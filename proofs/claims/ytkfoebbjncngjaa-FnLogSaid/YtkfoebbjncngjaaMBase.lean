/- Words that the models use. No condition. -/
import Derived.Test.YtkfoebbjncngjaaRGen
namespace Go.Proofs.Ytkfoebbjncngjaa.V
open Go Go.Proofs.Ytkfoebbjncngjaa.R
abbrev Pg := Int × Int × Int × ByteArray × Unit
abbrev Wr := Int × ByteArray × Unit
abbrev Dk := List ByteArray × List Wr × Unit
abbrev Opn := Bool × Int × ByteArray × Unit
abbrev Scd := List ByteArray × Int × Int × Unit
abbrev Pr2 := ByteArray × ByteArray × Unit
abbrev Stt := List Pr2 × Unit
abbrev Chg := ByteArray × ByteArray × Bool × Unit
abbrev Rt := Int × Int × Int × Int × Unit
abbrev Sto := Int × Int × Int × Rt × Int × Int × Stt × Unit
abbrev tI : Ty := .int .i64
abbrev yPg : Ty := .pair tI (.pair tI (.pair tI (.pair .str .unit)))
abbrev Hm : Ty := .pair tI (.pair .str .unit)
abbrev yDk : Ty := .pair (.sl .str) (.pair (.sl Hm) .unit)
abbrev Aa3 : Ty := .pair .bool (.pair tI (.pair .str .unit))
abbrev Vu : Ty := .pair .str (.pair .str (.pair .bool .unit))
def eqL {α : Type} (f : α → α → Bool) : List α → List α → Bool
 | [], [] => true
 | a :: r, b :: q => f a b && eqL f r q
 | _, _ => false
def eqI (a b : Int) : Bool := decide (a = b)
def eqO (a b : Bool) : Bool := a == b
def eqS (a b : ByteArray) : Bool := ByteArray.toList a == ByteArray.toList b
def eqB : (t : Ty) → t.D → t.D → Bool
 | .int _, a, b => eqI a b
 | .bool, a, b => eqO a b
 | .str, a, b => eqS a b
 | .sl t, xs, ys => eqL (eqB t) xs ys
 | .unit, _, _ => true
 | .pair a b, x, y => eqB a x.1 y.1 && eqB b x.2 y.2
def Cb (v lo hi : Int) : Bool := decide (lo ≤ v) && decide (v ≤ hi)
def m7 (k : ByteArray) : Bool := Cb (k.size : Int) 1 20
def bl (a b : ByteArray) : Bool := Op.bytesLess (ByteArray.toList a) (ByteArray.toList b)
def z0 : ByteArray := ⟨#[]⟩
def Mk (c : Chg) : Bool := m7 c.1 && (decide (c.2.1.size ≤ 100) && !(c.2.2.1 && !(c.2.1.toList == [])))
abbrev zC : Chg := (⟨#[]⟩, ⟨#[]⟩, false, ())
def D7 (b : List Chg) : Bool := Cb (b.length : Int) 1 20 && (List.range' 0 b.length).all fun i => Mk (b.getD i zC)
def Ml {α E : Type} (p : α → Bool) (out : α → E) (ok : E) : List α → E
 | [] => ok
 | x :: r => bif p x then out x else Ml p out ok r
def zW : Wr := (0, ⟨#[]⟩, ())
def m8 (n : Nat) (w : Wr) : Bool := decide (0 ≤ w.1) && (decide (w.1 < (n : Int)) && decide (w.2.1.size = 64))
def Dv (d : Dk) : Bool := Cb (d.1.length : Int) 8 200 && (decide (d.2.1.length ≤ 300) && ((List.range' 0 d.1.length).all (fun i => decide ((d.1.getD i z0).size = 64)) && (List.range' 0 d.2.1.length).all fun i => m8 d.1.length (d.2.1.getD i zW)))
def Ym {α σ : Type} (step : Nat → α → σ → σ) : Nat → List α → σ → σ
 | _, [], s => s
 | i, x :: r, s => Ym step (i + 1) r (step i x s)
def Yn (sec : List ByteArray) (ws : List Wr) : List ByteArray := Ym (fun _ w s => s.set w.1.toNat w.2.1) 0 ws sec
def Aho (d : Dk) : Dk := (Yn d.1 d.2.1, [], ())
def Z4 (d : Dk) (a : Int) : ByteArray := Ml (fun w => w.1 == a) (fun w => w.2.1) (d.1.getD a.toNat z0) d.2.1.reverse
def zS : ByteArray := strOfNums (List.replicate 64 0)
def K9 (n : Int) : Dk := bif Cb n 8 200 then (List.replicate n.toNat zS, [], ()) else ([], [], ())
def G0 (v : Int) : Nat → List Int
 | 0 => []
 | n + 1 => G0 (v / 256) n ++ [v % 256]
def Ch (v : Int) (n : Nat) : ByteArray := strOfNums (G0 v n)
def Aca (s : ByteArray) : Nat → Nat → Int → Int
 | 0, _, v => v
 | k + 1, i, v => Aca s k (i + 1) (v * 256 + Av s i)
def m9 (s : ByteArray) : Int := Aca s s.size 0 0
def Mm (h b : Int) : Int := IntKind.wrap IntKind.u64 (IntKind.wrap IntKind.u64 (nI (BitVec.toNat (BitVec.ofInt 64 h ^^^ BitVec.ofInt 64 (IntKind.wrap IntKind.u64 b)))) * 1099511628211)
def iter {σ : Type} (f : Nat → σ → σ) : Nat → Nat → σ → σ
 | 0, _, s => s
 | k + 1, i, s => iter f k (i + 1) (f i s)
def Rp (s : ByteArray) (k i : Nat) (h : Int) : Int := iter (fun i h => Mm h (Av s i)) k i h
def Qf (s : ByteArray) (w : Int) : ByteArray := bif Cb w 1 8 then Ch (Rp s s.size 0 14695981039346656037) w.toNat else ⟨#[]⟩
def Bk (p : Pg) (w : Int) : Bool := Cb w 1 8 && (Cb p.1 1 4 && (Cb p.2.1 1 60000 && (Cb p.2.2.1 1 1000000000 && (decide ((p.2.2.2.1.size : Int) ≤ 56 - w) && (p.1 != 3 || (p.2.2.2.1.toList == []))))))
def Cr (p : Pg) (w : Int) : ByteArray := Ch p.1 1 ++ Ch p.2.1 2 ++ Ch p.2.2.1 4 ++ Ch p.2.2.2.1.size 1 ++ p.2.2.2.1 ++ strOfNums (List.replicate (56 - w - p.2.2.2.1.size).toNat 0)
def A8 (p : Pg) (w : Int) : ByteArray := bif Bk p w then Qf (Cr p w) w ++ Cr p w else ⟨#[]⟩
abbrev zPg : Pg := (0, 0, 0, ⟨#[]⟩, ())
def Ae2 (b : ByteArray) : Pg := (Av b 0, m9 (Ad b 1 3), m9 (Ad b 3 7), Ad b 8 (8 + Av b 7), ())
def Adc (s : ByteArray) (w : Int) : Pg := Ae2 (Ad s w (nI s.size))
def Je (s : ByteArray) (w : Int) : Pg × Bool :=
 bif nI s.size != 64 then (zPg, false)
 else bif !Cb w 1 8 then (zPg, false)
 else bif decide (Av (Ad s w (nI s.size)) 7 > 56 - w) then (zPg, false)
 else bif !((A8 (Adc s w) w).toList == s.toList) then (zPg, false) else (Adc s w, true)
def Z5 (c : Chg) : List Int := bif c.2.2.1 then [1, nI c.1.size] ++ Ah c.1 else [0, nI c.1.size] ++ Ah c.1 ++ [nI c.2.1.size] ++ Ah c.2.1
def Rq (b : List Chg) : List Int := (b.map Z5).flatten
def Mn (b : List Chg) : ByteArray := bif D7 b then strOfNums (Rq b) else ⟨#[]⟩
def Jv (s : ByteArray) : ByteArray × ByteArray × Bool := if (s.size : Int) < 1 ∨ (s.size : Int) < 1 + Av s 0 then (⟨#[]⟩, s, false) else (Ad s 1 (1 + Av s 0), Ad s (1 + Av s 0) (nI s.size), true)
def Aiw (strict : Bool) (s : ByteArray) : Option (Chg × ByteArray) :=
 bif strict && decide (Av s 0 > 1) then none
 else bif !(Jv (Ad s 1 (nI s.size))).2.2 then none
 else bif Av s 0 == 1 then some (((Jv (Ad s 1 (nI s.size))).1, ⟨#[]⟩, true, ()), (Jv (Ad s 1 (nI s.size))).2.1)
 else bif !(Jv (Jv (Ad s 1 (nI s.size))).2.1).2.2 then none
 else some (((Jv (Ad s 1 (nI s.size))).1, (Jv (Jv (Ad s 1 (nI s.size))).2.1).1, false, ()), (Jv (Jv (Ad s 1 (nI s.size))).2.1).2.1)
def Ae3 (strict : Bool) : Nat → List Chg → ByteArray → Option (List Chg × ByteArray)
 | 0, r, s => some (r, s)
 | f + 1, r, s => bif decide (s.size > 0) && decide (r.length ≤ 20) then (match Aiw strict s with | none => none | some (c, t) => Ae3 strict f (r ++ [c]) t) else some (r, s)
def Ab9 (s : ByteArray) : List Chg × Bool := match Ae3 true 22 [] s with
 | none => ([], false)
 | some (b, t) => bif decide (t.size > 0) || !D7 b then ([], false) else (b, true)
def Bb (n : Nat) : Nat → ByteArray → List ByteArray
 | 0, s => [s]
 | f + 1, s => if s.size > n then Ad s 0 n :: Bb n f (Ad s n (nI s.size)) else [s]
def Ag (s : ByteArray) (w : Int) : List ByteArray := Bb (56 - w).toNat s.size s
def Cl (n : Nat) (w : Int) : Int := bif Cb w 1 8 then (if ((n : Int) + (56 - w) - 1) / (56 - w) > 1 then ((n : Int) + (56 - w) - 1) / (56 - w) else 1) else 0
def Ep (life w : Int) : Int → List ByteArray → List ByteArray
 | _, [] => []
 | k, [p] => [A8 (2, life, k, p, ()) w]
 | k, p :: q :: r => A8 (1, life, k, p, ()) w :: Ep life w (k + 1) (q :: r)
def Lw (e : ByteArray) (life first w : Int) : List ByteArray := bif Cb w 1 8 && (Cb life 1 60000 && (decide (1 ≤ first) && decide (first ≤ 1000000000 - Cl e.size w + 1))) then Ep life w first (Ag e w) else []
def opS (d : Dk) (o : Opn) : Dk := bif o.1 then Aho d else bif m8 d.1.length (o.2.1, o.2.2.1, ()) && decide (d.2.1.length < 300) then (d.1, d.2.1 ++ [(o.2.1, o.2.2.1, ())], ()) else d
def Ka (d : Dk) (ops : List Opn) (n : Int) : Dk := bif Dv d then (ops.take n.toNat).foldl opS d else ([], [], ())
def Aix (p : Pr2) : Chg := (p.1, p.2.1, false, ())
def n0 (i : Nat) (p : Pr2) (r : List (List Chg) × Bool × List Chg) : List (List Chg) × Bool × List Chg := bif i % 20 == 0 then (Lv r.2.1 r.1 r.2.2, true, [Aix p]) else (r.1, r.2.1, r.2.2 ++ [Aix p])
end Go.Proofs.Ytkfoebbjncngjaa.V

