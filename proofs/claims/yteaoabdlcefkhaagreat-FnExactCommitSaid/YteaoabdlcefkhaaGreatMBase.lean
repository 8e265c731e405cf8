/- Words that the models use. No condition. -/
import Derived.Test.YteaoabdlcefkhaaGreatRGen
namespace Go.Proofs.YteaoabdlcefkhaaGreat.V
open Go Go.Proofs.YteaoabdlcefkhaaGreat.R
abbrev Pg := Int × Int × Int × ByteArray × Unit
abbrev Wr := Int × ByteArray × Unit
abbrev Dk := List ByteArray × List Wr × Unit
abbrev Opn := Bool × Int × ByteArray × Unit
abbrev Pr2 := ByteArray × ByteArray × Unit
abbrev Stt := List Pr2 × Unit
abbrev Chg := ByteArray × ByteArray × Bool × Unit
abbrev Rt := Int × Int × Int × Int × Unit
abbrev Sto := Int × Int × Int × Rt × Int × Int × Stt × Unit
abbrev Don := Int × Sto × List Opn × Unit
abbrev tI : Ty := .int .i64
abbrev yPg : Ty := .pair tI (.pair tI (.pair tI (.pair .str .unit)))
abbrev B0 : Ty := .pair .bool (.pair tI (.pair .str .unit))
abbrev Af : Ty := .pair .str (.pair .str .unit)
abbrev Gi : Ty := .pair (.sl Af) .unit
abbrev A2 : Ty := .pair .str (.pair .str (.pair .bool .unit))
abbrev yRt : Ty := .pair tI (.pair tI (.pair tI (.pair tI .unit)))
abbrev Jz : Ty := .pair tI (.pair tI (.pair tI (.pair yRt (.pair tI (.pair tI (.pair Gi .unit))))))
abbrev Alr : Ty := .pair tI (.pair Jz (.pair (.sl B0) .unit))
def wt : (t : Ty) → t.D → Nat
 | .int _, _ => 0
 | .bool, _ => 0
 | .str, s => ByteArray.size s
 | .sl t, xs => List.length xs + (List.map (wt t) xs).sum
 | .unit, _ => 0
 | .pair a b, x => wt a x.1 + wt b x.2
def Al : (t : Ty) → t.D → Bool
 | .int _, _ => true
 | .bool, _ => true
 | .str, s => decide (ByteArray.size s < 1152921504606846976)
 | .sl t, xs => decide (List.length xs < 1152921504606846976) && List.all xs (Al t)
 | .unit, _ => true
 | .pair a b, x => Al a x.1 && Al b x.2
def Dl : (t : Ty) → t.D → Bool
 | .int _, _ => true
 | .bool, _ => true
 | .str, _ => true
 | .sl t, xs => decide (List.length xs ≤ 1048576) && List.all xs (Dl t)
 | .unit, _ => true
 | .pair a b, x => Dl a x.1 && Dl b x.2
def j5 {α : Type} (f : α → α → Bool) : List α → List α → Bool
 | [], [] => true
 | a :: r, b :: q => f a b && j5 f r q
 | _, _ => false
def Pu (a b : Int) : Bool := decide (a = b)
def eqO (a b : Bool) : Bool := a == b
def Zc (a b : ByteArray) : Bool := ByteArray.toList a == ByteArray.toList b
def J2 : (t : Ty) → t.D → t.D → Bool
 | .int _, a, b => Pu a b
 | .bool, a, b => eqO a b
 | .str, a, b => Zc a b
 | .sl t, xs, ys => j5 (J2 t) xs ys
 | .unit, _, _ => true
 | .pair a b, x, y => J2 a x.1 y.1 && J2 b x.2 y.2
def szM (t : Ty) (x : t.D) (left : Int) : Option Int :=
 if (Al t x && decide (0 ≤ left) && decide (left ≤ 1048576)) = true then some (if left - (wt t x : Int) < 0 then -1 else left - (wt t x : Int)) else none
def toM (t : Ty) (x : t.D) : Option t.D := if Dl t x = true then some x else none
def eqM (t : Ty) (x y : t.D) : Option Bool := if (Al t x && Al t y) = true then some (J2 t x y) else none
def R9 : Nat → Int → ByteArray → ByteArray
 | 0, _, out => out
 | m + 1, k, out => if k > 0 then R9 m (k / 10) (strOfNums [48 + k % 10] ++ out) else out
def Hu (k : Int) : ByteArray := if k ≤ 0 then ⟨#[109, 48]⟩ else ⟨#[109]⟩ ++ R9 20 k ⟨#[]⟩
def mkE : (t : Ty) → Int → t.D × Int
 | .int _, k => (k, k + 1)
 | .bool, k => (decide (k % 3 = 0), k + 1)
 | .str, k => (Hu k, k + 1)
 | .sl _, k => ([], k)
 | .unit, k => ((), k)
 | .pair a b, k => (((mkE a k).1, (mkE b (mkE a k).2).1), (mkE b (mkE a k).2).2)
def gL {α : Type} (e : Int → α) (c : Nat) : Nat → Int → List α
 | 0, _ => []
 | n + 1, k => e k :: gL e c n (k + c)
def mkN : Ty → Nat
 | .unit => 0
 | .pair a b => mkN a + mkN b
 | .sl _ => 0
 | _ => 1
def mkL (t : Ty) (n : Nat) (k : Int) : List t.D := gL (fun k => (mkE t k).1) (mkN t) n k
def Hs (t : Ty) (xs : List t.D) (k : Int) : Option (Int × List t.D) :=
 if (decide (1 ≤ k) && decide (k ≤ 1125899906842624) && decide (xs.length ≤ 1125899906842624)) = true then some (k + xs.length * mkN t, mkL t xs.length k) else none
def I4 (t : Ty) (xs : List t.D) (k : Int) : Option Int :=
 if (decide (1 ≤ k) && decide (k ≤ 1125899906842624) && decide (xs.length ≤ 1125899906842624)) = true then some (if J2 (.sl t) xs (mkL t xs.length k) = true then k + xs.length * mkN t else -1) else none
def Fp (v lo hi : Int) : Bool := decide (lo ≤ v) && decide (v ≤ hi)
def Iu (k : ByteArray) : Bool := Fp (k.size : Int) 1 20
def bl (a b : ByteArray) : Bool := Op.bytesLess (ByteArray.toList a) (ByteArray.toList b)
def z0 : ByteArray := ⟨#[]⟩
abbrev zP : Pr2 := (⟨#[]⟩, ⟨#[]⟩, ())
def Gj (xs : List Pr2) (i : Nat) : Bool := Iu (xs.getD i zP).1 && (decide ((xs.getD i zP).2.1.size ≤ 100) && (i == 0 || bl (xs.getD (i - 1) zP).1 (xs.getD i zP).1))
def A3 (s : Stt) : Bool := decide (s.1.length ≤ 100) && (List.range' 0 s.1.length).all (Gj s.1)
def Lo (c : Chg) : Bool := Iu c.1 && (decide (c.2.1.size ≤ 100) && !(c.2.2.1 && !(c.2.1.toList == [])))
abbrev zC : Chg := (⟨#[]⟩, ⟨#[]⟩, false, ())
def A4 (b : List Chg) : Bool := Fp (b.length : Int) 1 20 && (List.range' 0 b.length).all fun i => Lo (b.getD i zC)
def Apz {α E : Type} (p : α → Bool) (out : α → E) (ok : E) : List α → E
 | [] => ok
 | x :: r => bif p x then out x else Apz p out ok r
def zW : Wr := (0, ⟨#[]⟩, ())
def Atg (n : Nat) (w : Wr) : Bool := decide (0 ≤ w.1) && (decide (w.1 < (n : Int)) && decide (w.2.1.size = 64))
def Fw {α σ : Type} (step : Nat → α → σ → σ) : Nat → List α → σ → σ
 | _, [], s => s
 | i, x :: r, s => Fw step (i + 1) r (step i x s)
def Ajp (sec : List ByteArray) (ws : List Wr) : List ByteArray := Fw (fun _ w s => s.set w.1.toNat w.2.1) 0 ws sec
def Ar7 (d : Dk) : Dk := (Ajp d.1 d.2.1, [], ())
def At2 (d : Dk) (a : Int) : ByteArray := Apz (fun w => w.1 == a) (fun w => w.2.1) (d.1.getD a.toNat z0) d.2.1.reverse
def Me (v : Int) : Nat → List Int
 | 0 => []
 | n + 1 => Me (v / 256) n ++ [v % 256]
def Cl (v : Int) (n : Nat) : ByteArray := strOfNums (Me v n)
def Sa (h b : Int) : Int := IntKind.wrap IntKind.u64 (IntKind.wrap IntKind.u64 (nI (BitVec.toNat (BitVec.ofInt 64 h ^^^ BitVec.ofInt 64 (IntKind.wrap IntKind.u64 b)))) * 1099511628211)
def iter {σ : Type} (f : Nat → σ → σ) : Nat → Nat → σ → σ
 | 0, _, s => s
 | k + 1, i, s => iter f k (i + 1) (f i s)
def Zd (s : ByteArray) (k i : Nat) (h : Int) : Int := iter (fun i h => Sa h (J5 s i)) k i h
def Wz (s : ByteArray) (w : Int) : ByteArray := bif Fp w 1 8 then Cl (Zd s s.size 0 14695981039346656037) w.toNat else ⟨#[]⟩
def I5 (p : Pg) (w : Int) : Bool := Fp w 1 8 && (Fp p.1 1 4 && (Fp p.2.1 1 60000 && (Fp p.2.2.1 1 1000000000 && (decide ((p.2.2.2.1.size : Int) ≤ 56 - w) && (p.1 != 3 || (p.2.2.2.1.toList == []))))))
def Hx (p : Pg) (w : Int) : ByteArray := Cl p.1 1 ++ Cl p.2.1 2 ++ Cl p.2.2.1 4 ++ Cl p.2.2.2.1.size 1 ++ p.2.2.2.1 ++ strOfNums (List.replicate (56 - w - p.2.2.2.1.size).toNat 0)
def F7 (p : Pg) (w : Int) : ByteArray := bif I5 p w then Wz (Hx p w) w ++ Hx p w else ⟨#[]⟩
def Ace (r : Rt) : Bool := Fp r.2.1 0 1 && Fp r.2.2.1 1 999999000
def W0 (c : Chg) : List Int := bif c.2.2.1 then [1, nI c.1.size] ++ Ag c.1 else [0, nI c.1.size] ++ Ag c.1 ++ [nI c.2.1.size] ++ Ag c.2.1
def Qn (b : List Chg) : List Int := (b.map W0).flatten
def F8 (b : List Chg) : ByteArray := bif A4 b then strOfNums (Qn b) else ⟨#[]⟩
def Og (s : ByteArray) : ByteArray × ByteArray × Bool := if (s.size : Int) < 1 ∨ (s.size : Int) < 1 + J5 s 0 then (⟨#[]⟩, s, false) else (Cj s 1 (1 + J5 s 0), Cj s (1 + J5 s 0) (nI s.size), true)
def Ath (strict : Bool) (s : ByteArray) : Option (Chg × ByteArray) :=
 bif strict && decide (J5 s 0 > 1) then none
 else bif !(Og (Cj s 1 (nI s.size))).2.2 then none
 else bif J5 s 0 == 1 then some (((Og (Cj s 1 (nI s.size))).1, ⟨#[]⟩, true, ()), (Og (Cj s 1 (nI s.size))).2.1)
 else bif !(Og (Og (Cj s 1 (nI s.size))).2.1).2.2 then none
 else some (((Og (Cj s 1 (nI s.size))).1, (Og (Og (Cj s 1 (nI s.size))).2.1).1, false, ()), (Og (Og (Cj s 1 (nI s.size))).2.1).2.1)
def Ap0 (strict : Bool) : Nat → List Chg → ByteArray → Option (List Chg × ByteArray)
 | 0, r, s => some (r, s)
 | f + 1, r, s => bif decide (s.size > 0) && decide (r.length ≤ 20) then (match Ath strict s with | none => none | some (c, t) => Ap0 strict f (r ++ [c]) t) else some (r, s)
def Am7 (s : ByteArray) : List Chg × Bool := match Ap0 true 22 [] s with
 | none => ([], false)
 | some (b, t) => bif decide (t.size > 0) || !A4 b then ([], false) else (b, true)
def Df (n : Nat) : Nat → ByteArray → List ByteArray
 | 0, s => [s]
 | f + 1, s => if s.size > n then Cj s 0 n :: Df n f (Cj s n (nI s.size)) else [s]
def Bu (s : ByteArray) (w : Int) : List ByteArray := Df (56 - w).toNat s.size s
def C2 (n : Nat) (w : Int) : Int := bif Fp w 1 8 then (if ((n : Int) + (56 - w) - 1) / (56 - w) > 1 then ((n : Int) + (56 - w) - 1) / (56 - w) else 1) else 0
def j6 (life w : Int) : Int → List ByteArray → List ByteArray
 | _, [] => []
 | k, [p] => [F7 (2, life, k, p, ()) w]
 | k, p :: q :: r => F7 (1, life, k, p, ()) w :: j6 life w (k + 1) (q :: r)
def Aek (e : ByteArray) (life first w : Int) : List ByteArray := bif Fp w 1 8 && (Fp life 1 60000 && (decide (1 ≤ first) && decide (first ≤ 1000000000 - C2 e.size w + 1))) then j6 life w first (Bu e w) else []
def opS (d : Dk) (o : Opn) : Dk := bif o.1 then Ar7 d else bif Atg d.1.length (o.2.1, o.2.2.1, ()) && decide (d.2.1.length < 300) then (d.1, d.2.1 ++ [(o.2.1, o.2.2.1, ())], ()) else d
def Ati (p : Pr2) : Chg := (p.1, p.2.1, false, ())
def Kz (i : Nat) (p : Pr2) (r : List (List Chg) × Bool × List Chg) : List (List Chg) × Bool × List Chg := bif i % 20 == 0 then (Pz r.2.1 r.1 r.2.2, true, [Ati p]) else (r.1, r.2.1, r.2.2 ++ [Ati p])
def Acf (i : Nat) (l : List Pr2) (r : List (List Chg) × Bool × List Chg) : List (List Chg) × Bool × List Chg := Fw Kz i l r
def Cy (s : Stt) : List (List Chg) := bif A3 s then (let r := Acf 0 s.1 ([], false, []); Pz r.2.1 r.1 r.2.2) else []
end Go.Proofs.YteaoabdlcefkhaaGreat.V

