/- Words that the models use. No condition. -/
import Derived.Test.YteaoabdlcefkhaaGreatRGen
namespace Go.Proofs.YteaoabdlcefkhaaGreat.V
open Go Go.Proofs.YteaoabdlcefkhaaGreat.R
abbrev Pg := Int × Int × Int × ByteArray × Unit
abbrev Wr := Int × ByteArray × Unit
abbrev Dk := List ByteArray × List Wr × Unit
abbrev Opn := Bool × Int × ByteArray × Unit
abbrev Scd := List ByteArray × Int × Int × Unit
abbrev Pr2 := ByteArray × ByteArray × Unit
abbrev Stt := List Pr2 × Unit
abbrev Chg := ByteArray × ByteArray × Bool × Unit
abbrev Rt := Int × Int × Int × Int × Unit
abbrev Sto := Int × Int × Int × Rt × Int × Int × Stt × Unit
abbrev Don := Int × Sto × List Opn × Unit
abbrev Wld := Int × Dk × Bool × Sto × List Stt × List ByteArray × Unit
abbrev tI : Ty := .int .i64
abbrev yPg : Ty := .pair tI (.pair tI (.pair tI (.pair .str .unit)))
abbrev Ey : Ty := .pair tI (.pair .str .unit)
abbrev P3 : Ty := .pair (.sl .str) (.pair (.sl Ey) .unit)
abbrev Mb : Ty := .pair .bool (.pair tI (.pair .str .unit))
abbrev Ak : Ty := .pair .str (.pair .str .unit)
abbrev Bd : Ty := .pair (.sl Ak) .unit
abbrev D8 : Ty := .pair .str (.pair .str (.pair .bool .unit))
abbrev yRt : Ty := .pair tI (.pair tI (.pair tI (.pair tI .unit)))
abbrev Il : Ty := .pair tI (.pair tI (.pair tI (.pair yRt (.pair tI (.pair tI (.pair Bd .unit))))))
abbrev Un : Ty := .pair tI (.pair P3 (.pair .bool (.pair Il (.pair (.sl Bd) (.pair (.sl .str) .unit)))))
def wt : (t : Ty) → t.D → Nat
 | .int _, _ => 0
 | .bool, _ => 0
 | .str, s => ByteArray.size s
 | .sl t, xs => List.length xs + (List.map (wt t) xs).sum
 | .unit, _ => 0
 | .pair a b, x => wt a x.1 + wt b x.2
def A2 : (t : Ty) → t.D → Bool
 | .int _, _ => true
 | .bool, _ => true
 | .str, s => decide (ByteArray.size s < 1152921504606846976)
 | .sl t, xs => decide (List.length xs < 1152921504606846976) && List.all xs (A2 t)
 | .unit, _ => true
 | .pair a b, x => A2 a x.1 && A2 b x.2
def D0 : (t : Ty) → t.D → Bool
 | .int _, _ => true
 | .bool, _ => true
 | .str, _ => true
 | .sl t, xs => decide (List.length xs ≤ 1048576) && List.all xs (D0 t)
 | .unit, _ => true
 | .pair a b, x => D0 a x.1 && D0 b x.2
def eqL {α : Type} (f : α → α → Bool) : List α → List α → Bool
 | [], [] => true
 | a :: r, b :: q => f a b && eqL f r q
 | _, _ => false
def Xq (a b : Int) : Bool := decide (a = b)
def eqO (a b : Bool) : Bool := a == b
def eqS (a b : ByteArray) : Bool := ByteArray.toList a == ByteArray.toList b
def Mc : (t : Ty) → t.D → t.D → Bool
 | .int _, a, b => Xq a b
 | .bool, a, b => eqO a b
 | .str, a, b => eqS a b
 | .sl t, xs, ys => eqL (Mc t) xs ys
 | .unit, _, _ => true
 | .pair a b, x, y => Mc a x.1 y.1 && Mc b x.2 y.2
def szM (t : Ty) (x : t.D) (left : Int) : Option Int :=
 if (A2 t x && decide (0 ≤ left) && decide (left ≤ 1048576)) = true then some (if left - (wt t x : Int) < 0 then -1 else left - (wt t x : Int)) else none
def toM (t : Ty) (x : t.D) : Option t.D := if D0 t x = true then some x else none
def eqM (t : Ty) (x y : t.D) : Option Bool := if (A2 t x && A2 t y) = true then some (Mc t x y) else none
def Eo (v lo hi : Int) : Bool := decide (lo ≤ v) && decide (v ≤ hi)
def M3 (k : ByteArray) : Bool := Eo (k.size : Int) 1 20
def bl (a b : ByteArray) : Bool := Op.bytesLess (ByteArray.toList a) (ByteArray.toList b)
def z0 : ByteArray := ⟨#[]⟩
abbrev zP : Pr2 := (⟨#[]⟩, ⟨#[]⟩, ())
def Km (xs : List Pr2) (i : Nat) : Bool := M3 (xs.getD i zP).1 && (decide ((xs.getD i zP).2.1.size ≤ 100) && (i == 0 || bl (xs.getD (i - 1) zP).1 (xs.getD i zP).1))
def Aq (s : Stt) : Bool := decide (s.1.length ≤ 100) && (List.range' 0 s.1.length).all (Km s.1)
def Nk (c : Chg) : Bool := M3 c.1 && (decide (c.2.1.size ≤ 100) && !(c.2.2.1 && !(c.2.1.toList == [])))
abbrev zC : Chg := (⟨#[]⟩, ⟨#[]⟩, false, ())
def Bg (b : List Chg) : Bool := Eo (b.length : Int) 1 20 && (List.range' 0 b.length).all fun i => Nk (b.getD i zC)
def Uo {α E : Type} (p : α → Bool) (out : α → E) (ok : E) : List α → E
 | [] => ok
 | x :: r => bif p x then out x else Uo p out ok r
def zW : Wr := (0, ⟨#[]⟩, ())
def Aic (n : Nat) (w : Wr) : Bool := decide (0 ≤ w.1) && (decide (w.1 < (n : Int)) && decide (w.2.1.size = 64))
def Bp (d : Dk) : Bool := Eo (d.1.length : Int) 8 200 && (decide (d.2.1.length ≤ 300) && ((List.range' 0 d.1.length).all (fun i => decide ((d.1.getD i z0).size = 64)) && (List.range' 0 d.2.1.length).all fun i => Aic d.1.length (d.2.1.getD i zW)))
def Fb {α σ : Type} (step : Nat → α → σ → σ) : Nat → List α → σ → σ
 | _, [], s => s
 | i, x :: r, s => Fb step (i + 1) r (step i x s)
def Lg (sec : List ByteArray) (ws : List Wr) : List ByteArray := Fb (fun _ w s => s.set w.1.toNat w.2.1) 0 ws sec
def Auu (d : Dk) : Dk := (Lg d.1 d.2.1, [], ())
def Rd (d : Dk) (a : Int) : ByteArray := Uo (fun w => w.1 == a) (fun w => w.2.1) (d.1.getD a.toNat z0) d.2.1.reverse
def Na (v : Int) : Nat → List Int
 | 0 => []
 | n + 1 => Na (v / 256) n ++ [v % 256]
def C1 (v : Int) (n : Nat) : ByteArray := strOfNums (Na v n)
def Auv (s : ByteArray) : Nat → Nat → Int → Int
 | 0, _, v => v
 | k + 1, i, v => Auv s k (i + 1) (v * 256 + Ae s i)
def Zh (s : ByteArray) : Int := Auv s s.size 0 0
def Zi (h b : Int) : Int := IntKind.wrap IntKind.u64 (IntKind.wrap IntKind.u64 (nI (BitVec.toNat (BitVec.ofInt 64 h ^^^ BitVec.ofInt 64 (IntKind.wrap IntKind.u64 b)))) * 1099511628211)
def iter {σ : Type} (f : Nat → σ → σ) : Nat → Nat → σ → σ
 | 0, _, s => s
 | k + 1, i, s => iter f k (i + 1) (f i s)
def Afc (s : ByteArray) (k i : Nat) (h : Int) : Int := iter (fun i h => Zi h (Ae s i)) k i h
def Acv (s : ByteArray) (w : Int) : ByteArray := bif Eo w 1 8 then C1 (Afc s s.size 0 14695981039346656037) w.toNat else ⟨#[]⟩
def Jh (p : Pg) (w : Int) : Bool := Eo w 1 8 && (Eo p.1 1 4 && (Eo p.2.1 1 60000 && (Eo p.2.2.1 1 1000000000 && (decide ((p.2.2.2.1.size : Int) ≤ 56 - w) && (p.1 != 3 || (p.2.2.2.1.toList == []))))))
def Gj (p : Pg) (w : Int) : ByteArray := C1 p.1 1 ++ C1 p.2.1 2 ++ C1 p.2.2.1 4 ++ C1 p.2.2.2.1.size 1 ++ p.2.2.2.1 ++ strOfNums (List.replicate (56 - w - p.2.2.2.1.size).toNat 0)
def D1 (p : Pg) (w : Int) : ByteArray := bif Jh p w then Acv (Gj p w) w ++ Gj p w else ⟨#[]⟩
abbrev zPg : Pg := (0, 0, 0, ⟨#[]⟩, ())
def Axg (b : ByteArray) : Pg := (Ae b 0, Zh (Ah b 1 3), Zh (Ah b 3 7), Ah b 8 (8 + Ae b 7), ())
def Axh (s : ByteArray) (w : Int) : Pg := Axg (Ah s w (nI s.size))
def Cw (s : ByteArray) (w : Int) : Pg × Bool :=
 bif nI s.size != 64 then (zPg, false)
 else bif !Eo w 1 8 then (zPg, false)
 else bif decide (Ae (Ah s w (nI s.size)) 7 > 56 - w) then (zPg, false)
 else bif !((D1 (Axh s w) w).toList == s.toList) then (zPg, false) else (Axh s w, true)
def Me (r : Rt) : Bool := Eo r.2.1 0 1 && Eo r.2.2.1 1 999999000
def Vd (r : Rt) (w : Int) : ByteArray := bif Me r then D1 (4, r.2.2.2.1, r.1, C1 r.2.1 1 ++ C1 r.2.2.1 4, ()) w else ⟨#[]⟩
def Re (c : Chg) : List Int := bif c.2.2.1 then [1, nI c.1.size] ++ Aa c.1 else [0, nI c.1.size] ++ Aa c.1 ++ [nI c.2.1.size] ++ Aa c.2.1
def Gp (b : List Chg) : List Int := (b.map Re).flatten
def F4 (b : List Chg) : ByteArray := bif Bg b then strOfNums (Gp b) else ⟨#[]⟩
def A0 (s : ByteArray) : ByteArray × ByteArray × Bool := if (s.size : Int) < 1 ∨ (s.size : Int) < 1 + Ae s 0 then (⟨#[]⟩, s, false) else (Ah s 1 (1 + Ae s 0), Ah s (1 + Ae s 0) (nI s.size), true)
def Ahh (strict : Bool) (s : ByteArray) : Option (Chg × ByteArray) :=
 bif strict && decide (Ae s 0 > 1) then none
 else bif !(A0 (Ah s 1 (nI s.size))).2.2 then none
 else bif Ae s 0 == 1 then some (((A0 (Ah s 1 (nI s.size))).1, ⟨#[]⟩, true, ()), (A0 (Ah s 1 (nI s.size))).2.1)
 else bif !(A0 (A0 (Ah s 1 (nI s.size))).2.1).2.2 then none
 else some (((A0 (Ah s 1 (nI s.size))).1, (A0 (A0 (Ah s 1 (nI s.size))).2.1).1, false, ()), (A0 (A0 (Ah s 1 (nI s.size))).2.1).2.1)
def Mf (strict : Bool) : Nat → List Chg → ByteArray → Option (List Chg × ByteArray)
 | 0, r, s => some (r, s)
 | f + 1, r, s => bif decide (s.size > 0) && decide (r.length ≤ 20) then (match Ahh strict s with | none => none | some (c, t) => Mf strict f (r ++ [c]) t) else some (r, s)
def Kb (s : ByteArray) : List Chg × Bool := match Mf true 22 [] s with
 | none => ([], false)
 | some (b, t) => bif decide (t.size > 0) || !Bg b then ([], false) else (b, true)
def Al1 (s : ByteArray) : List Chg × Bool := match Mf false 22 [] s with
 | none => ([], false)
 | some (b, _) => bif s.size == 0 || !((F4 b).toList == s.toList) then ([], false) else (b, true)
def Fi (n : Nat) : Nat → ByteArray → List ByteArray
 | 0, s => [s]
 | f + 1, s => if s.size > n then Ah s 0 n :: Fi n f (Ah s n (nI s.size)) else [s]
def Cs (s : ByteArray) (w : Int) : List ByteArray := Fi (56 - w).toNat s.size s
def Fg (n : Nat) (w : Int) : Int := bif Eo w 1 8 then (if ((n : Int) + (56 - w) - 1) / (56 - w) > 1 then ((n : Int) + (56 - w) - 1) / (56 - w) else 1) else 0
def Aqy (life w : Int) : Int → List ByteArray → List ByteArray
 | _, [] => []
 | k, [p] => [D1 (2, life, k, p, ()) w]
 | k, p :: q :: r => D1 (1, life, k, p, ()) w :: Aqy life w (k + 1) (q :: r)
def Al2 (e : ByteArray) (life first w : Int) : List ByteArray := bif Eo w 1 8 && (Eo life 1 60000 && (decide (1 ≤ first) && decide (first ≤ 1000000000 - Fg e.size w + 1))) then Aqy life w first (Cs e w) else []
def opS (d : Dk) (o : Opn) : Dk := bif o.1 then Auu d else bif Aic d.1.length (o.2.1, o.2.2.1, ()) && decide (d.2.1.length < 300) then (d.1, d.2.1 ++ [(o.2.1, o.2.2.1, ())], ()) else d
def J9 (p : Pg) : Rt := (p.2.2.1, Ae p.2.2.2.1 0, Zh (Ah p.2.2.2.1 1 (nI p.2.2.2.1.size)), p.2.1, ())
def F5 (s : ByteArray) (w at' : Int) (best : Rt) : Rt :=
 bif (Cw s w).2 && ((Cw s w).1.1 == 4) && decide ((Cw s w).1.2.2.2.1.size = 5) && ((Cw s w).1.2.2.1 % 2 == at') && Me (J9 (Cw s w).1) && decide ((Cw s w).1.2.2.1 > best.1) then J9 (Cw s w).1 else best
def A7 (d : Dk) (w : Int) : Rt := bif Bp d && Eo w 1 8 then F5 (Rd d 1) w 1 (F5 (Rd d 0) w 0 (0, 0, 1, 0, ())) else (0, 0, 0, 0, ())
def A49 (p : Pr2) : Chg := (p.1, p.2.1, false, ())
def P4 (i : Nat) (p : Pr2) (r : List (List Chg) × Bool × List Chg) : List (List Chg) × Bool × List Chg := bif i % 20 == 0 then (Wj r.2.1 r.1 r.2.2, true, [A49 p]) else (r.1, r.2.1, r.2.2 ++ [A49 p])
def Al3 (i : Nat) (l : List Pr2) (r : List (List Chg) × Bool × List Chg) : List (List Chg) × Bool × List Chg := Fb P4 i l r
def Dg (s : Stt) : List (List Chg) := bif Aq s then (let r := Al3 0 s.1 ([], false, []); Wj r.2.1 r.1 r.2.2) else []
end Go.Proofs.YteaoabdlcefkhaaGreat.V

