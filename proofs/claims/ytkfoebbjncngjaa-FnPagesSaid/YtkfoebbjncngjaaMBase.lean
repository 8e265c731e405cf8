/- Words that the models use. No condition. -/
import Derived.Test.YtkfoebbjncngjaaRGen
namespace Go.Proofs.Ytkfoebbjncngjaa.V
open Go Go.Proofs.Ytkfoebbjncngjaa.R
abbrev Pg := Int × Int × Int × ByteArray × Unit
abbrev Wr := Int × ByteArray × Unit
abbrev Dk := List ByteArray × List Wr × Unit
abbrev Opn := Bool × Int × ByteArray × Unit
abbrev Scd := List ByteArray × Int × Int × Unit
abbrev Pr2 := ByteArray × ByteArray × Unit
abbrev Stt := List Pr2 × Unit
abbrev Chg := ByteArray × ByteArray × Bool × Unit
abbrev Rt := Int × Int × Int × Int × Unit
abbrev Sto := Int × Int × Int × Rt × Int × Int × Stt × Unit
abbrev tI : Ty := .int .i64
abbrev yPg : Ty := .pair tI (.pair tI (.pair tI (.pair .str .unit)))
def p9 : Nat → Int → ByteArray → ByteArray
 | 0, _, out => out
 | m + 1, k, out => if k > 0 then p9 m (k / 10) (strOfNums [48 + k % 10] ++ out) else out
def mkT (k : Int) : ByteArray := if k ≤ 0 then ⟨#[109, 48]⟩ else ⟨#[109]⟩ ++ p9 20 k ⟨#[]⟩
def Cs (v lo hi : Int) : Bool := decide (lo ≤ v) && decide (v ≤ hi)
def Ac1 (k : ByteArray) : Bool := Cs (k.size : Int) 1 20
def bl (a b : ByteArray) : Bool := Op.bytesLess (ByteArray.toList a) (ByteArray.toList b)
def z0 : ByteArray := ⟨#[]⟩
def Ow (c : Chg) : Bool := Ac1 c.1 && (decide (c.2.1.size ≤ 100) && !(c.2.2.1 && !(c.2.1.toList == [])))
abbrev zC : Chg := (⟨#[]⟩, ⟨#[]⟩, false, ())
def F8 (b : List Chg) : Bool := Cs (b.length : Int) 1 20 && (List.range' 0 b.length).all fun i => Ow (b.getD i zC)
def X9 {α E : Type} (p : α → Bool) (out : α → E) (ok : E) : List α → E
 | [] => ok
 | x :: r => bif p x then out x else X9 p out ok r
def zW : Wr := (0, ⟨#[]⟩, ())
def q9 (n : Nat) (w : Wr) : Bool := decide (0 ≤ w.1) && (decide (w.1 < (n : Int)) && decide (w.2.1.size = 64))
def J6 (d : Dk) : Bool := Cs (d.1.length : Int) 8 200 && (decide (d.2.1.length ≤ 300) && ((List.range' 0 d.1.length).all (fun i => decide ((d.1.getD i z0).size = 64)) && (List.range' 0 d.2.1.length).all fun i => q9 d.1.length (d.2.1.getD i zW)))
def s4 {α σ : Type} (step : Nat → α → σ → σ) : Nat → List α → σ → σ
 | _, [], s => s
 | i, x :: r, s => s4 step (i + 1) r (step i x s)
def Wg (sec : List ByteArray) (ws : List Wr) : List ByteArray := s4 (fun _ w s => s.set w.1.toNat w.2.1) 0 ws sec
def Abv (d : Dk) : Dk := (Wg d.1 d.2.1, [], ())
def Aaw (d : Dk) (a : Int) : ByteArray := X9 (fun w => w.1 == a) (fun w => w.2.1) (d.1.getD a.toNat z0) d.2.1.reverse
def zS : ByteArray := strOfNums (List.replicate 64 0)
def Uz (n : Int) : Dk := bif Cs n 8 200 then (List.replicate n.toNat zS, [], ()) else ([], [], ())
def E1 (v : Int) : Nat → List Int
 | 0 => []
 | n + 1 => E1 (v / 256) n ++ [v % 256]
def Bn (v : Int) (n : Nat) : ByteArray := strOfNums (E1 v n)
def Wh (s : ByteArray) : Nat → Nat → Int → Int
 | 0, _, v => v
 | k + 1, i, v => Wh s k (i + 1) (v * 256 + Ah s i)
def Ra (s : ByteArray) : Int := Wh s s.size 0 0
def I5 (h b : Int) : Int := IntKind.wrap IntKind.u64 (IntKind.wrap IntKind.u64 (nI (BitVec.toNat (BitVec.ofInt 64 h ^^^ BitVec.ofInt 64 (IntKind.wrap IntKind.u64 b)))) * 1099511628211)
def iter {σ : Type} (f : Nat → σ → σ) : Nat → Nat → σ → σ
 | 0, _, s => s
 | k + 1, i, s => iter f k (i + 1) (f i s)
def Nq (s : ByteArray) (k i : Nat) (h : Int) : Int := iter (fun i h => I5 h (Ah s i)) k i h
def Ia (s : ByteArray) (w : Int) : ByteArray := bif Cs w 1 8 then Bn (Nq s s.size 0 14695981039346656037) w.toNat else ⟨#[]⟩
def Be (p : Pg) (w : Int) : Bool := Cs w 1 8 && (Cs p.1 1 4 && (Cs p.2.1 1 60000 && (Cs p.2.2.1 1 1000000000 && (decide ((p.2.2.2.1.size : Int) ≤ 56 - w) && (p.1 != 3 || (p.2.2.2.1.toList == []))))))
def Bc (p : Pg) (w : Int) : ByteArray := Bn p.1 1 ++ Bn p.2.1 2 ++ Bn p.2.2.1 4 ++ Bn p.2.2.2.1.size 1 ++ p.2.2.2.1 ++ strOfNums (List.replicate (56 - w - p.2.2.2.1.size).toNat 0)
def An (p : Pg) (w : Int) : ByteArray := bif Be p w then Ia (Bc p w) w ++ Bc p w else ⟨#[]⟩
abbrev zPg : Pg := (0, 0, 0, ⟨#[]⟩, ())
def Ya (b : ByteArray) : Pg := (Ah b 0, Ra (Ac b 1 3), Ra (Ac b 3 7), Ac b 8 (8 + Ah b 7), ())
def Yb (s : ByteArray) (w : Int) : Pg := Ya (Ac s w (nI s.size))
def Ea (s : ByteArray) (w : Int) : Pg × Bool :=
 bif nI s.size != 64 then (zPg, false)
 else bif !Cs w 1 8 then (zPg, false)
 else bif decide (Ah (Ac s w (nI s.size)) 7 > 56 - w) then (zPg, false)
 else bif !((An (Yb s w) w).toList == s.toList) then (zPg, false) else (Yb s w, true)
def b4 (c : Chg) : List Int := bif c.2.2.1 then [1, nI c.1.size] ++ Ab c.1 else [0, nI c.1.size] ++ Ab c.1 ++ [nI c.2.1.size] ++ Ab c.2.1
def Nr (b : List Chg) : List Int := (b.map b4).flatten
def Mo (b : List Chg) : ByteArray := bif F8 b then strOfNums (Nr b) else ⟨#[]⟩
def G4 (s : ByteArray) : ByteArray × ByteArray × Bool := if (s.size : Int) < 1 ∨ (s.size : Int) < 1 + Ah s 0 then (⟨#[]⟩, s, false) else (Ac s 1 (1 + Ah s 0), Ac s (1 + Ah s 0) (nI s.size), true)
def Ac2 (strict : Bool) (s : ByteArray) : Option (Chg × ByteArray) :=
 bif strict && decide (Ah s 0 > 1) then none
 else bif !(G4 (Ac s 1 (nI s.size))).2.2 then none
 else bif Ah s 0 == 1 then some (((G4 (Ac s 1 (nI s.size))).1, ⟨#[]⟩, true, ()), (G4 (Ac s 1 (nI s.size))).2.1)
 else bif !(G4 (G4 (Ac s 1 (nI s.size))).2.1).2.2 then none
 else some (((G4 (Ac s 1 (nI s.size))).1, (G4 (G4 (Ac s 1 (nI s.size))).2.1).1, false, ()), (G4 (G4 (Ac s 1 (nI s.size))).2.1).2.1)
def s5 (strict : Bool) : Nat → List Chg → ByteArray → Option (List Chg × ByteArray)
 | 0, r, s => some (r, s)
 | f + 1, r, s => bif decide (s.size > 0) && decide (r.length ≤ 20) then (match Ac2 strict s with | none => none | some (c, t) => s5 strict f (r ++ [c]) t) else some (r, s)
def Zd (s : ByteArray) : List Chg × Bool := match s5 true 22 [] s with
 | none => ([], false)
 | some (b, t) => bif decide (t.size > 0) || !F8 b then ([], false) else (b, true)
def Do (n : Nat) : Nat → ByteArray → List ByteArray
 | 0, s => [s]
 | f + 1, s => if s.size > n then Ac s 0 n :: Do n f (Ac s n (nI s.size)) else [s]
def A3 (s : ByteArray) (w : Int) : List ByteArray := Do (56 - w).toNat s.size s
def I6 (n : Nat) (w : Int) : Int := bif Cs w 1 8 then (if ((n : Int) + (56 - w) - 1) / (56 - w) > 1 then ((n : Int) + (56 - w) - 1) / (56 - w) else 1) else 0
def Hg (life w : Int) : Int → List ByteArray → List ByteArray
 | _, [] => []
 | k, [p] => [An (2, life, k, p, ()) w]
 | k, p :: q :: r => An (1, life, k, p, ()) w :: Hg life w (k + 1) (q :: r)
def Ach (e : ByteArray) (life first w : Int) : List ByteArray := bif Cs w 1 8 && (Cs life 1 60000 && (decide (1 ≤ first) && decide (first ≤ 1000000000 - I6 e.size w + 1))) then Hg life w first (A3 e w) else []
def opS (d : Dk) (o : Opn) : Dk := bif o.1 then Abv d else bif q9 d.1.length (o.2.1, o.2.2.1, ()) && decide (d.2.1.length < 300) then (d.1, d.2.1 ++ [(o.2.1, o.2.2.1, ())], ()) else d
def Mp (d : Dk) (ops : List Opn) (n : Int) : Dk := bif J6 d then (ops.take n.toNat).foldl opS d else ([], [], ())
def Ac3 (p : Pr2) : Chg := (p.1, p.2.1, false, ())
def Wi (i : Nat) (p : Pr2) (r : List (List Chg) × Bool × List Chg) : List (List Chg) × Bool × List Chg := bif i % 20 == 0 then (Ih r.2.1 r.1 r.2.2, true, [Ac3 p]) else (r.1, r.2.1, r.2.2 ++ [Ac3 p])
end Go.Proofs.Ytkfoebbjncngjaa.V

