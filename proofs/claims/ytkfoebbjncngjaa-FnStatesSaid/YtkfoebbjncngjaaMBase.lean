/- Words that the models use. No condition. -/
import Derived.Test.YtkfoebbjncngjaaRGen
namespace Go.Proofs.Ytkfoebbjncngjaa.V
open Go Go.Proofs.Ytkfoebbjncngjaa.R
abbrev Pg := Int × Int × Int × ByteArray × Unit
abbrev Wr := Int × ByteArray × Unit
abbrev Dk := List ByteArray × List Wr × Unit
abbrev Opn := Bool × Int × ByteArray × Unit
abbrev Pr2 := ByteArray × ByteArray × Unit
abbrev Stt := List Pr2 × Unit
abbrev Chg := ByteArray × ByteArray × Bool × Unit
abbrev Rt := Int × Int × Int × Int × Unit
abbrev Sto := Int × Int × Int × Rt × Int × Int × Stt × Unit
abbrev tI : Ty := .int .i64
abbrev An : Ty := .pair .str (.pair .str .unit)
abbrev Uw : Ty := .pair (.sl An) .unit
abbrev Cs : Ty := .pair .str (.pair .str (.pair .bool .unit))
def eqL {α : Type} (f : α → α → Bool) : List α → List α → Bool
 | [], [] => true
 | a :: r, b :: q => f a b && eqL f r q
 | _, _ => false
def eqI (a b : Int) : Bool := decide (a = b)
def eqO (a b : Bool) : Bool := a == b
def eqS (a b : ByteArray) : Bool := ByteArray.toList a == ByteArray.toList b
def m5 : (t : Ty) → t.D → t.D → Bool
 | .int _, a, b => eqI a b
 | .bool, a, b => eqO a b
 | .str, a, b => eqS a b
 | .sl t, xs, ys => eqL (m5 t) xs ys
 | .unit, _, _ => true
 | .pair a b, x, y => m5 a x.1 y.1 && m5 b x.2 y.2
def M8 (v lo hi : Int) : Bool := decide (lo ≤ v) && decide (v ≤ hi)
def Fm (k : ByteArray) : Bool := M8 (k.size : Int) 1 20
def bl (a b : ByteArray) : Bool := Op.bytesLess (ByteArray.toList a) (ByteArray.toList b)
def z0 : ByteArray := ⟨#[]⟩
abbrev zP : Pr2 := (⟨#[]⟩, ⟨#[]⟩, ())
def Em (xs : List Pr2) (i : Nat) : Bool := Fm (xs.getD i zP).1 && (decide ((xs.getD i zP).2.1.size ≤ 100) && (i == 0 || bl (xs.getD (i - 1) zP).1 (xs.getD i zP).1))
def Af (s : Stt) : Bool := decide (s.1.length ≤ 100) && (List.range' 0 s.1.length).all (Em s.1)
def F3 (c : Chg) : Bool := Fm c.1 && (decide (c.2.1.size ≤ 100) && !(c.2.2.1 && !(c.2.1.toList == [])))
abbrev zC : Chg := (⟨#[]⟩, ⟨#[]⟩, false, ())
def Av (b : List Chg) : Bool := M8 (b.length : Int) 1 20 && (List.range' 0 b.length).all fun i => F3 (b.getD i zC)
def Jc {α E : Type} (p : α → Bool) (out : α → E) (ok : E) : List α → E
 | [] => ok
 | x :: r => bif p x then out x else Jc p out ok r
def R5 (k : ByteArray) (l : List Pr2) : ByteArray × Bool := Jc (fun p => p.1.toList == k.toList) (fun p => (p.2.1, true)) (⟨#[]⟩, false) l
def Aa2 (s : Stt) (k : ByteArray) : ByteArray × Bool := bif Af s then R5 k s.1 else (⟨#[]⟩, false)
def zW : Wr := (0, ⟨#[]⟩, ())
def Ahc (n : Nat) (w : Wr) : Bool := decide (0 ≤ w.1) && (decide (w.1 < (n : Int)) && decide (w.2.1.size = 64))
def Ck {α σ : Type} (step : Nat → α → σ → σ) : Nat → List α → σ → σ
 | _, [], s => s
 | i, x :: r, s => Ck step (i + 1) r (step i x s)
def g5 (sec : List ByteArray) (ws : List Wr) : List ByteArray := Ck (fun _ w s => s.set w.1.toNat w.2.1) 0 ws sec
def Af5 (d : Dk) : Dk := (g5 d.1 d.2.1, [], ())
def Aht (d : Dk) (a : Int) : ByteArray := Jc (fun w => w.1 == a) (fun w => w.2.1) (d.1.getD a.toNat z0) d.2.1.reverse
def u6 (v : Int) : Nat → List Int
 | 0 => []
 | n + 1 => u6 (v / 256) n ++ [v % 256]
def L8 (v : Int) (n : Nat) : ByteArray := strOfNums (u6 v n)
def Adv (h b : Int) : Int := IntKind.wrap IntKind.u64 (IntKind.wrap IntKind.u64 (nI (BitVec.toNat (BitVec.ofInt 64 h ^^^ BitVec.ofInt 64 (IntKind.wrap IntKind.u64 b)))) * 1099511628211)
def iter {σ : Type} (f : Nat → σ → σ) : Nat → Nat → σ → σ
 | 0, _, s => s
 | k + 1, i, s => iter f k (i + 1) (f i s)
def Ags (s : ByteArray) (k i : Nat) (h : Int) : Int := iter (fun i h => Adv h (Lq s i)) k i h
def Ahu (s : ByteArray) (w : Int) : ByteArray := bif M8 w 1 8 then L8 (Ags s s.size 0 14695981039346656037) w.toNat else ⟨#[]⟩
def Agt (p : Pg) (w : Int) : Bool := M8 w 1 8 && (M8 p.1 1 4 && (M8 p.2.1 1 60000 && (M8 p.2.2.1 1 1000000000 && (decide ((p.2.2.2.1.size : Int) ≤ 56 - w) && (p.1 != 3 || (p.2.2.2.1.toList == []))))))
def Af6 (p : Pg) (w : Int) : ByteArray := L8 p.1 1 ++ L8 p.2.1 2 ++ L8 p.2.2.1 4 ++ L8 p.2.2.2.1.size 1 ++ p.2.2.2.1 ++ strOfNums (List.replicate (56 - w - p.2.2.2.1.size).toNat 0)
def R6 (p : Pg) (w : Int) : ByteArray := bif Agt p w then Ahu (Af6 p w) w ++ Af6 p w else ⟨#[]⟩
def Ux (c : Chg) : List Int := bif c.2.2.1 then [1, nI c.1.size] ++ Aj c.1 else [0, nI c.1.size] ++ Aj c.1 ++ [nI c.2.1.size] ++ Aj c.2.1
def K1 (b : List Chg) : List Int := (b.map Ux).flatten
def Ed (b : List Chg) : ByteArray := bif Av b then strOfNums (K1 b) else ⟨#[]⟩
def Jd (s : ByteArray) : ByteArray × ByteArray × Bool := if (s.size : Int) < 1 ∨ (s.size : Int) < 1 + Lq s 0 then (⟨#[]⟩, s, false) else (Ag s 1 (1 + Lq s 0), Ag s (1 + Lq s 0) (nI s.size), true)
def Ahd (strict : Bool) (s : ByteArray) : Option (Chg × ByteArray) :=
 bif strict && decide (Lq s 0 > 1) then none
 else bif !(Jd (Ag s 1 (nI s.size))).2.2 then none
 else bif Lq s 0 == 1 then some (((Jd (Ag s 1 (nI s.size))).1, ⟨#[]⟩, true, ()), (Jd (Ag s 1 (nI s.size))).2.1)
 else bif !(Jd (Jd (Ag s 1 (nI s.size))).2.1).2.2 then none
 else some (((Jd (Ag s 1 (nI s.size))).1, (Jd (Jd (Ag s 1 (nI s.size))).2.1).1, false, ()), (Jd (Jd (Ag s 1 (nI s.size))).2.1).2.1)
def Adw (strict : Bool) : Nat → List Chg → ByteArray → Option (List Chg × ByteArray)
 | 0, r, s => some (r, s)
 | f + 1, r, s => bif decide (s.size > 0) && decide (r.length ≤ 20) then (match Ahd strict s with | none => none | some (c, t) => Adw strict f (r ++ [c]) t) else some (r, s)
def Aa0 (s : ByteArray) : List Chg × Bool := match Adw true 22 [] s with
 | none => ([], false)
 | some (b, t) => bif decide (t.size > 0) || !Av b then ([], false) else (b, true)
def M9 (n : Nat) : Nat → ByteArray → List ByteArray
 | 0, s => [s]
 | f + 1, s => if s.size > n then Ag s 0 n :: M9 n f (Ag s n (nI s.size)) else [s]
def Zb (s : ByteArray) (w : Int) : List ByteArray := M9 (56 - w).toNat s.size s
def C8 (n : Nat) (w : Int) : Int := bif M8 w 1 8 then (if ((n : Int) + (56 - w) - 1) / (56 - w) > 1 then ((n : Int) + (56 - w) - 1) / (56 - w) else 1) else 0
def Aa3 (life w : Int) : Int → List ByteArray → List ByteArray
 | _, [] => []
 | k, [p] => [R6 (2, life, k, p, ()) w]
 | k, p :: q :: r => R6 (1, life, k, p, ()) w :: Aa3 life w (k + 1) (q :: r)
def Agu (e : ByteArray) (life first w : Int) : List ByteArray := bif M8 w 1 8 && (M8 life 1 60000 && (decide (1 ≤ first) && decide (first ≤ 1000000000 - C8 e.size w + 1))) then Aa3 life w first (Zb e w) else []
def opS (d : Dk) (o : Opn) : Dk := bif o.1 then Af5 d else bif Ahc d.1.length (o.2.1, o.2.2.1, ()) && decide (d.2.1.length < 300) then (d.1, d.2.1 ++ [(o.2.1, o.2.2.1, ())], ()) else d
def setC (p : Pr2) : Chg := (p.1, p.2.1, false, ())
def D6 (i : Nat) (p : Pr2) (r : List (List Chg) × Bool × List Chg) : List (List Chg) × Bool × List Chg := bif i % 20 == 0 then (Hn r.2.1 r.1 r.2.2, true, [setC p]) else (r.1, r.2.1, r.2.2 ++ [setC p])
def Uy (i : Nat) (l : List Pr2) (r : List (List Chg) × Bool × List Chg) : List (List Chg) × Bool × List Chg := Ck D6 i l r
def Cx (s : Stt) : List (List Chg) := bif Af s then (let r := Uy 0 s.1 ([], false, []); Hn r.2.1 r.1 r.2.2) else []
end Go.Proofs.Ytkfoebbjncngjaa.V

