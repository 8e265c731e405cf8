/- Words that the models use. No condition. -/
import Derived.Test.YtkfoebbjncngjaaRGen
namespace Go.Proofs.Ytkfoebbjncngjaa.V
open Go Go.Proofs.Ytkfoebbjncngjaa.R
abbrev Pg := Int × Int × Int × ByteArray × Unit
abbrev Wr := Int × ByteArray × Unit
abbrev Dk := List ByteArray × List Wr × Unit
abbrev Opn := Bool × Int × ByteArray × Unit
abbrev Pr2 := ByteArray × ByteArray × Unit
abbrev Stt := List Pr2 × Unit
abbrev Chg := ByteArray × ByteArray × Bool × Unit
abbrev Rt := Int × Int × Int × Int × Unit
abbrev Sto := Int × Int × Int × Rt × Int × Int × Stt × Unit
abbrev Wld := Int × Dk × Bool × Sto × List Stt × List ByteArray × Unit
abbrev tI : Ty := .int .i64
abbrev Df : Ty := .pair tI (.pair .str .unit)
abbrev Y9 : Ty := .pair (.sl .str) (.pair (.sl Df) .unit)
abbrev B8 : Ty := .pair .str (.pair .str .unit)
abbrev Cc : Ty := .pair (.sl B8) .unit
abbrev yRt : Ty := .pair tI (.pair tI (.pair tI (.pair tI .unit)))
abbrev Nz : Ty := .pair tI (.pair tI (.pair tI (.pair yRt (.pair tI (.pair tI (.pair Cc .unit))))))
abbrev Za : Ty := .pair tI (.pair Y9 (.pair .bool (.pair Nz (.pair (.sl Cc) (.pair (.sl .str) .unit)))))
def An : (t : Ty) → t.D → Bool
 | .int _, _ => true
 | .bool, _ => true
 | .str, s => decide (ByteArray.size s < 1152921504606846976)
 | .sl t, xs => decide (List.length xs < 1152921504606846976) && List.all xs (An t)
 | .unit, _ => true
 | .pair a b, x => An a x.1 && An b x.2
def Lw {α : Type} (f : α → α → Bool) : List α → List α → Bool
 | [], [] => true
 | a :: r, b :: q => f a b && Lw f r q
 | _, _ => false
def I0 (a b : Int) : Bool := decide (a = b)
def eqO (a b : Bool) : Bool := a == b
def Lc (a b : ByteArray) : Bool := ByteArray.toList a == ByteArray.toList b
def D1 : (t : Ty) → t.D → t.D → Bool
 | .int _, a, b => I0 a b
 | .bool, a, b => eqO a b
 | .str, a, b => Lc a b
 | .sl t, xs, ys => Lw (D1 t) xs ys
 | .unit, _, _ => true
 | .pair a b, x, y => D1 a x.1 y.1 && D1 b x.2 y.2
def Yb (t : Ty) (x y : t.D) : Option Bool := if (An t x && An t y) = true then some (D1 t x y) else none
def Km : Nat → Int → ByteArray → ByteArray
 | 0, _, out => out
 | m + 1, k, out => if k > 0 then Km m (k / 10) (strOfNums [48 + k % 10] ++ out) else out
def Dl (k : Int) : ByteArray := if k ≤ 0 then ⟨#[109, 48]⟩ else ⟨#[109]⟩ ++ Km 20 k ⟨#[]⟩
def Yc : (t : Ty) → Int → t.D × Int
 | .int _, k => (k, k + 1)
 | .bool, k => (decide (k % 3 = 0), k + 1)
 | .str, k => (Dl k, k + 1)
 | .sl _, k => ([], k)
 | .unit, k => ((), k)
 | .pair a b, k => (((Yc a k).1, (Yc b (Yc a k).2).1), (Yc b (Yc a k).2).2)
def gL {α : Type} (e : Int → α) (c : Nat) : Nat → Int → List α
 | 0, _ => []
 | n + 1, k => e k :: gL e c n (k + c)
def i5 : Ty → Nat
 | .unit => 0
 | .pair a b => i5 a + i5 b
 | .sl _ => 0
 | _ => 1
def mkL (t : Ty) (n : Nat) (k : Int) : List t.D := gL (fun k => (Yc t k).1) (i5 t) n k
def Kn (t : Ty) (xs : List t.D) (k : Int) : Option (Int × List t.D) :=
 if (decide (1 ≤ k) && decide (k ≤ 1125899906842624) && decide (xs.length ≤ 1125899906842624)) = true then some (k + xs.length * i5 t, mkL t xs.length k) else none
def Ff (t : Ty) (xs : List t.D) (k : Int) : Option Int :=
 if (decide (1 ≤ k) && decide (k ≤ 1125899906842624) && decide (xs.length ≤ 1125899906842624)) = true then some (if D1 (.sl t) xs (mkL t xs.length k) = true then k + xs.length * i5 t else -1) else none
def J0 (v lo hi : Int) : Bool := decide (lo ≤ v) && decide (v ≤ hi)
def Acr (k : ByteArray) : Bool := J0 (k.size : Int) 1 20
def bl (a b : ByteArray) : Bool := Op.bytesLess (ByteArray.toList a) (ByteArray.toList b)
def z0 : ByteArray := ⟨#[]⟩
def Qn (c : Chg) : Bool := Acr c.1 && (decide (c.2.1.size ≤ 100) && !(c.2.2.1 && !(c.2.1.toList == [])))
abbrev zC : Chg := (⟨#[]⟩, ⟨#[]⟩, false, ())
def G4 (b : List Chg) : Bool := J0 (b.length : Int) 1 20 && (List.range' 0 b.length).all fun i => Qn (b.getD i zC)
def w8 {α E : Type} (p : α → Bool) (out : α → E) (ok : E) : List α → E
 | [] => ok
 | x :: r => bif p x then out x else w8 p out ok r
def zW : Wr := (0, ⟨#[]⟩, ())
def Acs (n : Nat) (w : Wr) : Bool := decide (0 ≤ w.1) && (decide (w.1 < (n : Int)) && decide (w.2.1.size = 64))
def w9 {α σ : Type} (step : Nat → α → σ → σ) : Nat → List α → σ → σ
 | _, [], s => s
 | i, x :: r, s => w9 step (i + 1) r (step i x s)
def X4 (sec : List ByteArray) (ws : List Wr) : List ByteArray := w9 (fun _ w s => s.set w.1.toNat w.2.1) 0 ws sec
def Abl (d : Dk) : Dk := (X4 d.1 d.2.1, [], ())
def Ade (d : Dk) (a : Int) : ByteArray := w8 (fun w => w.1 == a) (fun w => w.2.1) (d.1.getD a.toNat z0) d.2.1.reverse
def zS : ByteArray := strOfNums (List.replicate 64 0)
def Eb (n : Int) : Dk := bif J0 n 8 200 then (List.replicate n.toNat zS, [], ()) else ([], [], ())
def Acu (v : Int) : Nat → List Int
 | 0 => []
 | n + 1 => Acu (v / 256) n ++ [v % 256]
def beS (v : Int) (n : Nat) : ByteArray := strOfNums (Acu v n)
def x3 (h b : Int) : Int := IntKind.wrap IntKind.u64 (IntKind.wrap IntKind.u64 (nI (BitVec.toNat (BitVec.ofInt 64 h ^^^ BitVec.ofInt 64 (IntKind.wrap IntKind.u64 b)))) * 1099511628211)
def iter {σ : Type} (f : Nat → σ → σ) : Nat → Nat → σ → σ
 | 0, _, s => s
 | k + 1, i, s => iter f k (i + 1) (f i s)
def Ab8 (s : ByteArray) (k i : Nat) (h : Int) : Int := iter (fun i h => x3 h (J8 s i)) k i h
def Adf (s : ByteArray) (w : Int) : ByteArray := bif J0 w 1 8 then beS (Ab8 s s.size 0 14695981039346656037) w.toNat else ⟨#[]⟩
def Ab9 (p : Pg) (w : Int) : Bool := J0 w 1 8 && (J0 p.1 1 4 && (J0 p.2.1 1 60000 && (J0 p.2.2.1 1 1000000000 && (decide ((p.2.2.2.1.size : Int) ≤ 56 - w) && (p.1 != 3 || (p.2.2.2.1.toList == []))))))
def Abm (p : Pg) (w : Int) : ByteArray := beS p.1 1 ++ beS p.2.1 2 ++ beS p.2.2.1 4 ++ beS p.2.2.2.1.size 1 ++ p.2.2.2.1 ++ strOfNums (List.replicate (56 - w - p.2.2.2.1.size).toNat 0)
def Qo (p : Pg) (w : Int) : ByteArray := bif Ab9 p w then Adf (Abm p w) w ++ Abm p w else ⟨#[]⟩
def i6 (c : Chg) : List Int := bif c.2.2.1 then [1, nI c.1.size] ++ Aq c.1 else [0, nI c.1.size] ++ Aq c.1 ++ [nI c.2.1.size] ++ Aq c.2.1
def Pl (b : List Chg) : List Int := (b.map i6).flatten
def N0 (b : List Chg) : ByteArray := bif G4 b then strOfNums (Pl b) else ⟨#[]⟩
def Ib (s : ByteArray) : ByteArray × ByteArray × Bool := if (s.size : Int) < 1 ∨ (s.size : Int) < 1 + J8 s 0 then (⟨#[]⟩, s, false) else (Fb s 1 (1 + J8 s 0), Fb s (1 + J8 s 0) (nI s.size), true)
def Acw (strict : Bool) (s : ByteArray) : Option (Chg × ByteArray) :=
 bif strict && decide (J8 s 0 > 1) then none
 else bif !(Ib (Fb s 1 (nI s.size))).2.2 then none
 else bif J8 s 0 == 1 then some (((Ib (Fb s 1 (nI s.size))).1, ⟨#[]⟩, true, ()), (Ib (Fb s 1 (nI s.size))).2.1)
 else bif !(Ib (Ib (Fb s 1 (nI s.size))).2.1).2.2 then none
 else some (((Ib (Fb s 1 (nI s.size))).1, (Ib (Ib (Fb s 1 (nI s.size))).2.1).1, false, ()), (Ib (Ib (Fb s 1 (nI s.size))).2.1).2.1)
def x4 (strict : Bool) : Nat → List Chg → ByteArray → Option (List Chg × ByteArray)
 | 0, r, s => some (r, s)
 | f + 1, r, s => bif decide (s.size > 0) && decide (r.length ≤ 20) then (match Acw strict s with | none => none | some (c, t) => x4 strict f (r ++ [c]) t) else some (r, s)
def b6 (s : ByteArray) : List Chg × Bool := match x4 true 22 [] s with
 | none => ([], false)
 | some (b, t) => bif decide (t.size > 0) || !G4 b then ([], false) else (b, true)
def Ld (n : Nat) : Nat → ByteArray → List ByteArray
 | 0, s => [s]
 | f + 1, s => if s.size > n then Fb s 0 n :: Ld n f (Fb s n (nI s.size)) else [s]
def Wt (s : ByteArray) (w : Int) : List ByteArray := Ld (56 - w).toNat s.size s
def Ko (n : Nat) (w : Int) : Int := bif J0 w 1 8 then (if ((n : Int) + (56 - w) - 1) / (56 - w) > 1 then ((n : Int) + (56 - w) - 1) / (56 - w) else 1) else 0
def b7 (life w : Int) : Int → List ByteArray → List ByteArray
 | _, [] => []
 | k, [p] => [Qo (2, life, k, p, ()) w]
 | k, p :: q :: r => Qo (1, life, k, p, ()) w :: b7 life w (k + 1) (q :: r)
def Aca (e : ByteArray) (life first w : Int) : List ByteArray := bif J0 w 1 8 && (J0 life 1 60000 && (decide (1 ≤ first) && decide (first ≤ 1000000000 - Ko e.size w + 1))) then b7 life w first (Wt e w) else []
def opS (d : Dk) (o : Opn) : Dk := bif o.1 then Abl d else bif Acs d.1.length (o.2.1, o.2.2.1, ()) && decide (d.2.1.length < 300) then (d.1, d.2.1 ++ [(o.2.1, o.2.2.1, ())], ()) else d
def Acx (p : Pr2) : Chg := (p.1, p.2.1, false, ())
def X5 (i : Nat) (p : Pr2) (r : List (List Chg) × Bool × List Chg) : List (List Chg) × Bool × List Chg := bif i % 20 == 0 then (Jv r.2.1 r.1 r.2.2, true, [Acx p]) else (r.1, r.2.1, r.2.2 ++ [Acx p])
end Go.Proofs.Ytkfoebbjncngjaa.V

