/- Words that the models use. No condition. -/
import Derived.Test.YteaoabdlcefkhaaGreatRGen
namespace Go.Proofs.YteaoabdlcefkhaaGreat.V
open Go Go.Proofs.YteaoabdlcefkhaaGreat.R
abbrev Pg := Int × Int × Int × ByteArray × Unit
abbrev Wr := Int × ByteArray × Unit
abbrev Dk := List ByteArray × List Wr × Unit
abbrev Opn := Bool × Int × ByteArray × Unit
abbrev Scd := List ByteArray × Int × Int × Unit
abbrev Pr2 := ByteArray × ByteArray × Unit
abbrev Stt := List Pr2 × Unit
abbrev Chg := ByteArray × ByteArray × Bool × Unit
abbrev Rt := Int × Int × Int × Int × Unit
abbrev Sto := Int × Int × Int × Rt × Int × Int × Stt × Unit
abbrev Don := Int × Sto × List Opn × Unit
abbrev tI : Ty := .int .i64
abbrev yPg : Ty := .pair tI (.pair tI (.pair tI (.pair .str .unit)))
abbrev Eb : Ty := .pair tI (.pair .str .unit)
abbrev yDk : Ty := .pair (.sl .str) (.pair (.sl Eb) .unit)
abbrev B7 : Ty := .pair .bool (.pair tI (.pair .str .unit))
abbrev Aq : Ty := .pair .str (.pair .str .unit)
abbrev Py : Ty := .pair (.sl Aq) .unit
abbrev Du : Ty := .pair .str (.pair .str (.pair .bool .unit))
abbrev yRt : Ty := .pair tI (.pair tI (.pair tI (.pair tI .unit)))
abbrev m7 : Ty := .pair tI (.pair tI (.pair tI (.pair yRt (.pair tI (.pair tI (.pair Py .unit))))))
abbrev Auy : Ty := .pair tI (.pair m7 (.pair (.sl B7) .unit))
def wt : (t : Ty) → t.D → Nat
 | .int _, _ => 0
 | .bool, _ => 0
 | .str, s => ByteArray.size s
 | .sl t, xs => List.length xs + (List.map (wt t) xs).sum
 | .unit, _ => 0
 | .pair a b, x => wt a x.1 + wt b x.2
def A4 : (t : Ty) → t.D → Bool
 | .int _, _ => true
 | .bool, _ => true
 | .str, s => decide (ByteArray.size s < 1152921504606846976)
 | .sl t, xs => decide (List.length xs < 1152921504606846976) && List.all xs (A4 t)
 | .unit, _ => true
 | .pair a b, x => A4 a x.1 && A4 b x.2
def Ie : (t : Ty) → t.D → Bool
 | .int _, _ => true
 | .bool, _ => true
 | .str, _ => true
 | .sl t, xs => decide (List.length xs ≤ 1048576) && List.all xs (Ie t)
 | .unit, _ => true
 | .pair a b, x => Ie a x.1 && Ie b x.2
def eqL {α : Type} (f : α → α → Bool) : List α → List α → Bool
 | [], [] => true
 | a :: r, b :: q => f a b && eqL f r q
 | _, _ => false
def R6 (a b : Int) : Bool := decide (a = b)
def eqO (a b : Bool) : Bool := a == b
def eqS (a b : ByteArray) : Bool := ByteArray.toList a == ByteArray.toList b
def Lv : (t : Ty) → t.D → t.D → Bool
 | .int _, a, b => R6 a b
 | .bool, a, b => eqO a b
 | .str, a, b => eqS a b
 | .sl t, xs, ys => eqL (Lv t) xs ys
 | .unit, _, _ => true
 | .pair a b, x, y => Lv a x.1 y.1 && Lv b x.2 y.2
def szM (t : Ty) (x : t.D) (left : Int) : Option Int :=
 if (A4 t x && decide (0 ≤ left) && decide (left ≤ 1048576)) = true then some (if left - (wt t x : Int) < 0 then -1 else left - (wt t x : Int)) else none
def toM (t : Ty) (x : t.D) : Option t.D := if Ie t x = true then some x else none
def eqM (t : Ty) (x y : t.D) : Option Bool := if (A4 t x && A4 t y) = true then some (Lv t x y) else none
def Xv : Nat → Int → ByteArray → ByteArray
 | 0, _, out => out
 | m + 1, k, out => if k > 0 then Xv m (k / 10) (strOfNums [48 + k % 10] ++ out) else out
def Kl (k : Int) : ByteArray := if k ≤ 0 then ⟨#[109, 48]⟩ else ⟨#[109]⟩ ++ Xv 20 k ⟨#[]⟩
def mkE : (t : Ty) → Int → t.D × Int
 | .int _, k => (k, k + 1)
 | .bool, k => (decide (k % 3 = 0), k + 1)
 | .str, k => (Kl k, k + 1)
 | .sl _, k => ([], k)
 | .unit, k => ((), k)
 | .pair a b, k => (((mkE a k).1, (mkE b (mkE a k).2).1), (mkE b (mkE a k).2).2)
def gL {α : Type} (e : Int → α) (c : Nat) : Nat → Int → List α
 | 0, _ => []
 | n + 1, k => e k :: gL e c n (k + c)
def mkN : Ty → Nat
 | .unit => 0
 | .pair a b => mkN a + mkN b
 | .sl _ => 0
 | _ => 1
def mkL (t : Ty) (n : Nat) (k : Int) : List t.D := gL (fun k => (mkE t k).1) (mkN t) n k
def If (t : Ty) (xs : List t.D) (k : Int) : Option (Int × List t.D) :=
 if (decide (1 ≤ k) && decide (k ≤ 1125899906842624) && decide (xs.length ≤ 1125899906842624)) = true then some (k + xs.length * mkN t, mkL t xs.length k) else none
def L7 (t : Ty) (xs : List t.D) (k : Int) : Option Int :=
 if (decide (1 ≤ k) && decide (k ≤ 1125899906842624) && decide (xs.length ≤ 1125899906842624)) = true then some (if Lv (.sl t) xs (mkL t xs.length k) = true then k + xs.length * mkN t else -1) else none
def E9 (v lo hi : Int) : Bool := decide (lo ≤ v) && decide (v ≤ hi)
def Lw (k : ByteArray) : Bool := E9 (k.size : Int) 1 20
def bl (a b : ByteArray) : Bool := Op.bytesLess (ByteArray.toList a) (ByteArray.toList b)
def z0 : ByteArray := ⟨#[]⟩
abbrev zP : Pr2 := (⟨#[]⟩, ⟨#[]⟩, ())
def Ja (xs : List Pr2) (i : Nat) : Bool := Lw (xs.getD i zP).1 && (decide ((xs.getD i zP).2.1.size ≤ 100) && (i == 0 || bl (xs.getD (i - 1) zP).1 (xs.getD i zP).1))
def Bf (s : Stt) : Bool := decide (s.1.length ≤ 100) && (List.range' 0 s.1.length).all (Ja s.1)
def L8 (c : Chg) : Bool := Lw c.1 && (decide (c.2.1.size ≤ 100) && !(c.2.2.1 && !(c.2.1.toList == [])))
abbrev zC : Chg := (⟨#[]⟩, ⟨#[]⟩, false, ())
def Bd (b : List Chg) : Bool := E9 (b.length : Int) 1 20 && (List.range' 0 b.length).all fun i => L8 (b.getD i zC)
def S9 {α E : Type} (p : α → Bool) (out : α → E) (ok : E) : List α → E
 | [] => ok
 | x :: r => bif p x then out x else S9 p out ok r
def zW : Wr := (0, ⟨#[]⟩, ())
def Agr (n : Nat) (w : Wr) : Bool := decide (0 ≤ w.1) && (decide (w.1 < (n : Int)) && decide (w.2.1.size = 64))
def B8 (d : Dk) : Bool := E9 (d.1.length : Int) 8 200 && (decide (d.2.1.length ≤ 300) && ((List.range' 0 d.1.length).all (fun i => decide ((d.1.getD i z0).size = 64)) && (List.range' 0 d.2.1.length).all fun i => Agr d.1.length (d.2.1.getD i zW)))
def Eu {α σ : Type} (step : Nat → α → σ → σ) : Nat → List α → σ → σ
 | _, [], s => s
 | i, x :: r, s => Eu step (i + 1) r (step i x s)
def Kk (sec : List ByteArray) (ws : List Wr) : List ByteArray := Eu (fun _ w s => s.set w.1.toNat w.2.1) 0 ws sec
def Ase (d : Dk) : Dk := (Kk d.1 d.2.1, [], ())
def Pz (d : Dk) (a : Int) : ByteArray := S9 (fun w => w.1 == a) (fun w => w.2.1) (d.1.getD a.toNat z0) d.2.1.reverse
def L1 (v : Int) : Nat → List Int
 | 0 => []
 | n + 1 => L1 (v / 256) n ++ [v % 256]
def Cv (v : Int) (n : Nat) : ByteArray := strOfNums (L1 v n)
def Asf (s : ByteArray) : Nat → Nat → Int → Int
 | 0, _, v => v
 | k + 1, i, v => Asf s k (i + 1) (v * 256 + Af s i)
def Xw (s : ByteArray) : Int := Asf s s.size 0 0
def Xx (h b : Int) : Int := IntKind.wrap IntKind.u64 (IntKind.wrap IntKind.u64 (nI (BitVec.toNat (BitVec.ofInt 64 h ^^^ BitVec.ofInt 64 (IntKind.wrap IntKind.u64 b)))) * 1099511628211)
def iter {σ : Type} (f : Nat → σ → σ) : Nat → Nat → σ → σ
 | 0, _, s => s
 | k + 1, i, s => iter f k (i + 1) (f i s)
def Adm (s : ByteArray) (k i : Nat) (h : Int) : Int := iter (fun i h => Xx h (Af s i)) k i h
def Aap (s : ByteArray) (w : Int) : ByteArray := bif E9 w 1 8 then Cv (Adm s s.size 0 14695981039346656037) w.toNat else ⟨#[]⟩
def Ig (p : Pg) (w : Int) : Bool := E9 w 1 8 && (E9 p.1 1 4 && (E9 p.2.1 1 60000 && (E9 p.2.2.1 1 1000000000 && (decide ((p.2.2.2.1.size : Int) ≤ 56 - w) && (p.1 != 3 || (p.2.2.2.1.toList == []))))))
def Fv (p : Pg) (w : Int) : ByteArray := Cv p.1 1 ++ Cv p.2.1 2 ++ Cv p.2.2.1 4 ++ Cv p.2.2.2.1.size 1 ++ p.2.2.2.1 ++ strOfNums (List.replicate (56 - w - p.2.2.2.1.size).toNat 0)
def Db (p : Pg) (w : Int) : ByteArray := bif Ig p w then Aap (Fv p w) w ++ Fv p w else ⟨#[]⟩
abbrev zPg : Pg := (0, 0, 0, ⟨#[]⟩, ())
def Auz (b : ByteArray) : Pg := (Af b 0, Xw (Ag b 1 3), Xw (Ag b 3 7), Ag b 8 (8 + Af b 7), ())
def Au0 (s : ByteArray) (w : Int) : Pg := Auz (Ag s w (nI s.size))
def Cm (s : ByteArray) (w : Int) : Pg × Bool :=
 bif nI s.size != 64 then (zPg, false)
 else bif !E9 w 1 8 then (zPg, false)
 else bif decide (Af (Ag s w (nI s.size)) 7 > 56 - w) then (zPg, false)
 else bif !((Db (Au0 s w) w).toList == s.toList) then (zPg, false) else (Au0 s w, true)
def L9 (r : Rt) : Bool := E9 r.2.1 0 1 && E9 r.2.2.1 1 999999000
def Qk (r : Rt) (w : Int) : ByteArray := bif L9 r then Db (4, r.2.2.2.1, r.1, Cv r.2.1 1 ++ Cv r.2.2.1 4, ()) w else ⟨#[]⟩
def P0 (c : Chg) : List Int := bif c.2.2.1 then [1, nI c.1.size] ++ Aa c.1 else [0, nI c.1.size] ++ Aa c.1 ++ [nI c.2.1.size] ++ Aa c.2.1
def F1 (b : List Chg) : List Int := (b.map P0).flatten
def Ff (b : List Chg) : ByteArray := bif Bd b then strOfNums (F1 b) else ⟨#[]⟩
def Av (s : ByteArray) : ByteArray × ByteArray × Bool := if (s.size : Int) < 1 ∨ (s.size : Int) < 1 + Af s 0 then (⟨#[]⟩, s, false) else (Ag s 1 (1 + Af s 0), Ag s (1 + Af s 0) (nI s.size), true)
def Afu (strict : Bool) (s : ByteArray) : Option (Chg × ByteArray) :=
 bif strict && decide (Af s 0 > 1) then none
 else bif !(Av (Ag s 1 (nI s.size))).2.2 then none
 else bif Af s 0 == 1 then some (((Av (Ag s 1 (nI s.size))).1, ⟨#[]⟩, true, ()), (Av (Ag s 1 (nI s.size))).2.1)
 else bif !(Av (Av (Ag s 1 (nI s.size))).2.1).2.2 then none
 else some (((Av (Ag s 1 (nI s.size))).1, (Av (Av (Ag s 1 (nI s.size))).2.1).1, false, ()), (Av (Av (Ag s 1 (nI s.size))).2.1).2.1)
def Lc (strict : Bool) : Nat → List Chg → ByteArray → Option (List Chg × ByteArray)
 | 0, r, s => some (r, s)
 | f + 1, r, s => bif decide (s.size > 0) && decide (r.length ≤ 20) then (match Afu strict s with | none => none | some (c, t) => Lc strict f (r ++ [c]) t) else some (r, s)
def Jr (s : ByteArray) : List Chg × Bool := match Lc true 22 [] s with
 | none => ([], false)
 | some (b, t) => bif decide (t.size > 0) || !Bd b then ([], false) else (b, true)
def Ajx (s : ByteArray) : List Chg × Bool := match Lc false 22 [] s with
 | none => ([], false)
 | some (b, _) => bif s.size == 0 || !((Ff b).toList == s.toList) then ([], false) else (b, true)
def Ez (n : Nat) : Nat → ByteArray → List ByteArray
 | 0, s => [s]
 | f + 1, s => if s.size > n then Ag s 0 n :: Ez n f (Ag s n (nI s.size)) else [s]
def Ci (s : ByteArray) (w : Int) : List ByteArray := Ez (56 - w).toNat s.size s
def Eg (n : Nat) (w : Int) : Int := bif E9 w 1 8 then (if ((n : Int) + (56 - w) - 1) / (56 - w) > 1 then ((n : Int) + (56 - w) - 1) / (56 - w) else 1) else 0
def Afv (life w : Int) : Int → List ByteArray → List ByteArray
 | _, [] => []
 | k, [p] => [Db (2, life, k, p, ()) w]
 | k, p :: q :: r => Db (1, life, k, p, ()) w :: Afv life w (k + 1) (q :: r)
def Adn (e : ByteArray) (life first w : Int) : List ByteArray := bif E9 w 1 8 && (E9 life 1 60000 && (decide (1 ≤ first) && decide (first ≤ 1000000000 - Eg e.size w + 1))) then Afv life w first (Ci e w) else []
def opS (d : Dk) (o : Opn) : Dk := bif o.1 then Ase d else bif Agr d.1.length (o.2.1, o.2.2.1, ()) && decide (d.2.1.length < 300) then (d.1, d.2.1 ++ [(o.2.1, o.2.2.1, ())], ()) else d
def Jp (p : Pg) : Rt := (p.2.2.1, Af p.2.2.2.1 0, Xw (Ag p.2.2.2.1 1 (nI p.2.2.2.1.size)), p.2.1, ())
def Fg (s : ByteArray) (w at' : Int) (best : Rt) : Rt :=
 bif (Cm s w).2 && ((Cm s w).1.1 == 4) && decide ((Cm s w).1.2.2.2.1.size = 5) && ((Cm s w).1.2.2.1 % 2 == at') && L9 (Jp (Cm s w).1) && decide ((Cm s w).1.2.2.1 > best.1) then Jp (Cm s w).1 else best
def A6 (d : Dk) (w : Int) : Rt := bif B8 d && E9 w 1 8 then Fg (Pz d 1) w 1 (Fg (Pz d 0) w 0 (0, 0, 1, 0, ())) else (0, 0, 0, 0, ())
def A27 (p : Pr2) : Chg := (p.1, p.2.1, false, ())
def Oq (i : Nat) (p : Pr2) (r : List (List Chg) × Bool × List Chg) : List (List Chg) × Bool × List Chg := bif i % 20 == 0 then (U9 r.2.1 r.1 r.2.2, true, [A27 p]) else (r.1, r.2.1, r.2.2 ++ [A27 p])
def Ajy (i : Nat) (l : List Pr2) (r : List (List Chg) × Bool × List Chg) : List (List Chg) × Bool × List Chg := Eu Oq i l r
def Cy (s : Stt) : List (List Chg) := bif Bf s then (let r := Ajy 0 s.1 ([], false, []); U9 r.2.1 r.1 r.2.2) else []
end Go.Proofs.YteaoabdlcefkhaaGreat.V

