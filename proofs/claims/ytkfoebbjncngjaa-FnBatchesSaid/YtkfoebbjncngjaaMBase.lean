/- Words that the models use. No condition. -/
import Derived.Test.YtkfoebbjncngjaaRGen
namespace Go.Proofs.Ytkfoebbjncngjaa.V
open Go Go.Proofs.Ytkfoebbjncngjaa.R
abbrev Pg := Int × Int × Int × ByteArray × Unit
abbrev Wr := Int × ByteArray × Unit
abbrev Dk := List ByteArray × List Wr × Unit
abbrev Opn := Bool × Int × ByteArray × Unit
abbrev Pr2 := ByteArray × ByteArray × Unit
abbrev Stt := List Pr2 × Unit
abbrev Chg := ByteArray × ByteArray × Bool × Unit
abbrev Rt := Int × Int × Int × Int × Unit
abbrev Sto := Int × Int × Int × Rt × Int × Int × Stt × Unit
abbrev tI : Ty := .int .i64
abbrev Bs : Ty := .pair .str (.pair .str (.pair .bool .unit))
def Zf {α : Type} (f : α → α → Bool) : List α → List α → Bool
 | [], [] => true
 | a :: r, b :: q => f a b && Zf f r q
 | _, _ => false
def eqI (a b : Int) : Bool := decide (a = b)
def eqO (a b : Bool) : Bool := a == b
def eqS (a b : ByteArray) : Bool := ByteArray.toList a == ByteArray.toList b
def Xb : (t : Ty) → t.D → t.D → Bool
 | .int _, a, b => eqI a b
 | .bool, a, b => eqO a b
 | .str, a, b => eqS a b
 | .sl t, xs, ys => Zf (Xb t) xs ys
 | .unit, _, _ => true
 | .pair a b, x, y => Xb a x.1 y.1 && Xb b x.2 y.2
def Of (v lo hi : Int) : Bool := decide (lo ≤ v) && decide (v ≤ hi)
def Og (k : ByteArray) : Bool := Of (k.size : Int) 1 20
def bl (a b : ByteArray) : Bool := Op.bytesLess (ByteArray.toList a) (ByteArray.toList b)
def z0 : ByteArray := ⟨#[]⟩
def Eo (c : Chg) : Bool := Og c.1 && (decide (c.2.1.size ≤ 100) && !(c.2.2.1 && !(c.2.1.toList == [])))
abbrev zC : Chg := (⟨#[]⟩, ⟨#[]⟩, false, ())
def Am (b : List Chg) : Bool := Of (b.length : Int) 1 20 && (List.range' 0 b.length).all fun i => Eo (b.getD i zC)
def g9 {α E : Type} (p : α → Bool) (out : α → E) (ok : E) : List α → E
 | [] => ok
 | x :: r => bif p x then out x else g9 p out ok r
def zW : Wr := (0, ⟨#[]⟩, ())
def Aba (n : Nat) (w : Wr) : Bool := decide (0 ≤ w.1) && (decide (w.1 < (n : Int)) && decide (w.2.1.size = 64))
def h8 {α σ : Type} (step : Nat → α → σ → σ) : Nat → List α → σ → σ
 | _, [], s => s
 | i, x :: r, s => h8 step (i + 1) r (step i x s)
def V4 (sec : List ByteArray) (ws : List Wr) : List ByteArray := h8 (fun _ w s => s.set w.1.toNat w.2.1) 0 ws sec
def x6 (d : Dk) : Dk := (V4 d.1 d.2.1, [], ())
def Abo (d : Dk) (a : Int) : ByteArray := g9 (fun w => w.1 == a) (fun w => w.2.1) (d.1.getD a.toNat z0) d.2.1.reverse
def Xc (v : Int) : Nat → List Int
 | 0 => []
 | n + 1 => Xc (v / 256) n ++ [v % 256]
def Jk (v : Int) (n : Nat) : ByteArray := strOfNums (Xc v n)
def h9 (h b : Int) : Int := IntKind.wrap IntKind.u64 (IntKind.wrap IntKind.u64 (nI (BitVec.toNat (BitVec.ofInt 64 h ^^^ BitVec.ofInt 64 (IntKind.wrap IntKind.u64 b)))) * 1099511628211)
def iter {σ : Type} (f : Nat → σ → σ) : Nat → Nat → σ → σ
 | 0, _, s => s
 | k + 1, i, s => iter f k (i + 1) (f i s)
def Aan (s : ByteArray) (k i : Nat) (h : Int) : Int := iter (fun i h => h9 h (Af s i)) k i h
def Abp (s : ByteArray) (w : Int) : ByteArray := bif Of w 1 8 then Jk (Aan s s.size 0 14695981039346656037) w.toNat else ⟨#[]⟩
def Aao (p : Pg) (w : Int) : Bool := Of w 1 8 && (Of p.1 1 4 && (Of p.2.1 1 60000 && (Of p.2.2.1 1 1000000000 && (decide ((p.2.2.2.1.size : Int) ≤ 56 - w) && (p.1 != 3 || (p.2.2.2.1.toList == []))))))
def x7 (p : Pg) (w : Int) : ByteArray := Jk p.1 1 ++ Jk p.2.1 2 ++ Jk p.2.2.1 4 ++ Jk p.2.2.2.1.size 1 ++ p.2.2.2.1 ++ strOfNums (List.replicate (56 - w - p.2.2.2.1.size).toNat 0)
def Oh (p : Pg) (w : Int) : ByteArray := bif Aao p w then Abp (x7 p w) w ++ x7 p w else ⟨#[]⟩
def Fg (c : Chg) : List Int := bif c.2.2.1 then [1, nI c.1.size] ++ Aa c.1 else [0, nI c.1.size] ++ Aa c.1 ++ [nI c.2.1.size] ++ Aa c.2.1
def Bo (b : List Chg) : List Int := (b.map Fg).flatten
def Bi (b : List Chg) : ByteArray := bif Am b then strOfNums (Bo b) else ⟨#[]⟩
def Ah (s : ByteArray) : ByteArray × ByteArray × Bool := if (s.size : Int) < 1 ∨ (s.size : Int) < 1 + Af s 0 then (⟨#[]⟩, s, false) else (Ab s 1 (1 + Af s 0), Ab s (1 + Af s 0) (nI s.size), true)
def Oi (strict : Bool) (s : ByteArray) : Option (Chg × ByteArray) :=
 bif strict && decide (Af s 0 > 1) then none
 else bif !(Ah (Ab s 1 (nI s.size))).2.2 then none
 else bif Af s 0 == 1 then some (((Ah (Ab s 1 (nI s.size))).1, ⟨#[]⟩, true, ()), (Ah (Ab s 1 (nI s.size))).2.1)
 else bif !(Ah (Ah (Ab s 1 (nI s.size))).2.1).2.2 then none
 else some (((Ah (Ab s 1 (nI s.size))).1, (Ah (Ah (Ab s 1 (nI s.size))).2.1).1, false, ()), (Ah (Ah (Ab s 1 (nI s.size))).2.1).2.1)
def Dr (strict : Bool) : Nat → List Chg → ByteArray → Option (List Chg × ByteArray)
 | 0, r, s => some (r, s)
 | f + 1, r, s => bif decide (s.size > 0) && decide (r.length ≤ 20) then (match Oi strict s with | none => none | some (c, t) => Dr strict f (r ++ [c]) t) else some (r, s)
def D6 (s : ByteArray) : List Chg × Bool := match Dr true 22 [] s with
 | none => ([], false)
 | some (b, t) => bif decide (t.size > 0) || !Am b then ([], false) else (b, true)
def Q8 (s : ByteArray) : List Chg × Bool := match Dr false 22 [] s with
 | none => ([], false)
 | some (b, _) => bif s.size == 0 || !((Bi b).toList == s.toList) then ([], false) else (b, true)
def J9 (n : Nat) : Nat → ByteArray → List ByteArray
 | 0, s => [s]
 | f + 1, s => if s.size > n then Ab s 0 n :: J9 n f (Ab s n (nI s.size)) else [s]
def Up (s : ByteArray) (w : Int) : List ByteArray := J9 (56 - w).toNat s.size s
def Jl (n : Nat) (w : Int) : Int := bif Of w 1 8 then (if ((n : Int) + (56 - w) - 1) / (56 - w) > 1 then ((n : Int) + (56 - w) - 1) / (56 - w) else 1) else 0
def Yj (life w : Int) : Int → List ByteArray → List ByteArray
 | _, [] => []
 | k, [p] => [Oh (2, life, k, p, ()) w]
 | k, p :: q :: r => Oh (1, life, k, p, ()) w :: Yj life w (k + 1) (q :: r)
def Aap (e : ByteArray) (life first w : Int) : List ByteArray := bif Of w 1 8 && (Of life 1 60000 && (decide (1 ≤ first) && decide (first ≤ 1000000000 - Jl e.size w + 1))) then Yj life w first (Up e w) else []
def opS (d : Dk) (o : Opn) : Dk := bif o.1 then x6 d else bif Aba d.1.length (o.2.1, o.2.2.1, ()) && decide (d.2.1.length < 300) then (d.1, d.2.1 ++ [(o.2.1, o.2.2.1, ())], ()) else d
def Abb (p : Pr2) : Chg := (p.1, p.2.1, false, ())
def V5 (i : Nat) (p : Pr2) (r : List (List Chg) × Bool × List Chg) : List (List Chg) × Bool × List Chg := bif i % 20 == 0 then (It r.2.1 r.1 r.2.2, true, [Abb p]) else (r.1, r.2.1, r.2.2 ++ [Abb p])
end Go.Proofs.Ytkfoebbjncngjaa.V

