/- What the functions that FnExactCommit reaches come to: part 1. No condition. -/
import Derived.Test.YteaoabdlcefkhaaGreatQBase
import Derived.Test.YteaoabdlcefkhaaGreatTLay
import Derived.Test.YteaoabdlcefkhaaGreatProg
import Derived.Test.YteaoabdlcefkhaaGreatQS
import Derived.Test.YteaoabdlcefkhaaGreatQA
import Derived.Test.YteaoabdlcefkhaaGreatQT
import Derived.Test.YteaoabdlcefkhaaGreatTSort
import Derived.KernelRfl
namespace Go.Proofs.YteaoabdlcefkhaaGreat.V
open Go Go.Proofs.YteaoabdlcefkhaaGreat.R Go.Proofs
set_option maxRecDepth 100000
set_option linter.unusedVariables false
set_option linter.unusedSimpArgs false
def Ku (a : Pr2) (left : Int) : Option Int := szM Af a left
def Acz : Sig := ⟨[.rd Af, .rd tI], [some 2, none], [.rd tI], [none]⟩
noncomputable def sd_laws_szPair : SD := ⟨Acz, fun x => (Ku x.1 x.2.1).bind fun r => some ((r, ()), (()))⟩
noncomputable def Mi (a0 : Pr2) (a1 : Int) : Option ((((Int) × Unit) × (Unit))) :=
 bif decide (IntKind.i64.wrap (a1 - nI (ByteArray.size a0.1)) < 0) then some ((-1, ()), ()) else bif decide (IntKind.i64.wrap (IntKind.i64.wrap (a1 - nI (ByteArray.size a0.1)) - nI (ByteArray.size a0.2.1)) < 0) then some ((-1, ()), ()) else some ((IntKind.i64.wrap (IntKind.i64.wrap (a1 - nI (ByteArray.size a0.1)) - nI (ByteArray.size a0.2.1)), ()), ())
theorem Ac0 (a0 : Pr2) (a1 : Int) r (h : Ku a0 a1 = some r) : Mi a0 a1 = some ((r, ()), (())) := by
 obtain ⟨hc, g0, g1, rfl⟩ := O4 (t := Af) h
 obtain ⟨hc0, hc1, _⟩ : Al .str a0.1 = true ∧ Al .str a0.2.1 = true ∧ True := by
  have s := hc
  obtain ⟨h0, s⟩ := Ab s
  obtain ⟨h1, s⟩ := Ab s
  exact ⟨h0, h1, trivial⟩
 unfold Mi
 have hwt : (wt Af a0 : Int) = (ByteArray.size a0.1 : Int) + (ByteArray.size a0.2.1 : Int) := by simp only [wt]; omega
 rw [hwt]
 have hs0 : ByteArray.size a0.1 < 1152921504606846976 := Tl hc0
 have e0 : IntKind.i64.wrap (a1 - nI (ByteArray.size a0.1)) = a1 - (ByteArray.size a0.1 : Int) := Ae (by simp only [nI]; omega) (by simp only [nI]; omega)
 simp only [e0]
 by_cases q0 : a1 - (ByteArray.size a0.1 : Int) < 0
 ·simp only [decide_eq_true q0, cond_true]; try rw [if_pos (by omega)]
 ·simp only [decide_eq_false q0, cond_false]
  have hs1 : ByteArray.size a0.2.1 < 1152921504606846976 := Tl hc1
  have e1 : IntKind.i64.wrap (a1 - (ByteArray.size a0.1 : Int) - nI (ByteArray.size a0.2.1)) = a1 - (ByteArray.size a0.1 : Int) - (ByteArray.size a0.2.1 : Int) := Ae (by simp only [nI]; omega) (by simp only [nI]; omega)
  simp only [e1]
  by_cases q1 : a1 - (ByteArray.size a0.1 : Int) - (ByteArray.size a0.2.1 : Int) < 0
  ·simp only [decide_eq_true q1, cond_true]; try rw [if_pos (by omega)]
  ·simp only [decide_eq_false q1, cond_false]
   rw [if_neg (by omega)]
   simp only [Int.sub_sub, Int.add_assoc]
theorem Ac1 : Bs Tryz.prog 207 sd_laws_szPair :=
 Av (pat := Ck) [] F5 (Ax (l := []) trivial) trivial Tryz.func207 (de := fun x => Mi x.1 x.2.1) (fun x r h => Ay (Ac0 x.1 x.2.1) h) fun _ => by kernel_rfl
def G6 (a : List Pr2) (left : Int) : Option Int := szM (.sl Af) a left
def n5 : Sig := ⟨[.rd (.sl Af), .rd tI], [none, none], [.rd tI], [none]⟩
noncomputable def sd_laws_szPairS : SD := ⟨n5, fun x => (G6 x.1 x.2.1).bind fun r => some ((r, ()), (()))⟩
noncomputable def ta_laws_szPairS : Tb := tb [(207, sd_laws_szPair)]
def pa_laws_szPairS : Nat → Pat × (Nat → Pat) := Gw [(6, ⟨[.sl 0 0 Af], [(0, .lf (.d (.sl Af))), (1, .lf (.d tI)), (5, .lf (.d tI))], []⟩, [(2, ⟨[], [(1, .lf (.d tI))], []⟩), (1, ⟨[], [(4, .lf (.d tI))], []⟩)])]
noncomputable def co_laws_szPairS_6 : Code := (An (Bn Tryz.f164)).getD 0 .skip
def C4 (v0 : List Pr2) (v1 : Int) (v5 : Int) : Nat := ((v0.length : Int) - v5).toNat + 1
noncomputable def Fg {R : Type}  (NX : ((List Pr2) × (Int) × (Int) × Unit) → Option R) (X2 : ((Int) × Unit) → Option R) (X1 : ((Int) × Unit) → Option R) (v0 : List Pr2) (v1 : Int) (v5 : Int) : Option R :=
 bif decide (v5 < nI v0.length) then bif decide (0 ≤ v5) then bif decide (v5 < nI v0.length) then ((Ku (v0.getD v5.toNat (ByteArray.mk #[], ByteArray.mk #[], ())) v1).bind fun val => some ((val, ()), ())).bind fun val => bif decide (val.1.1 < 0) then X1 (-1, ()) else NX (v0, val.1.1, IntKind.i64.wrap (v5 + 1), ()) else none else none else X2 (v1, ())
noncomputable def Bh : Nat → (List Pr2) → (Int) → (Int) →  Option (((Int) × Unit) ⊕ ((Int) × Unit))
 | 0, _, _, _ => none
 | m + 1, v0, v1, v5 => Fg  (fun d => Bh m d.1 d.2.1 d.2.2.1) (fun d => some (.inl (d))) (fun d => some (.inr (d))) v0 v1 v5
noncomputable def K9 (a0 : List Pr2) (a1 : Int) : Option ((((Int) × Unit) × (Unit))) :=
 bif decide (IntKind.i64.wrap (a1 - nI a0.length) < 0) then some ((-1, ()), ()) else ((fun d => Bh (C4 d.1 d.2.1 d.2.2.1) d.1 d.2.1 d.2.2.1) (a0, IntKind.i64.wrap (a1 - nI a0.length), 0, ())).bind fun val => Gz (fun val => some (val, ())) (fun val => some (val, ())) val
theorem n7 (a0 : List Pr2) (a1 : Int) r (h : G6 a0 a1 = some r) : K9 a0 a1 = some ((r, ()), (())) := by
 obtain ⟨hc, g0, g1, rfl⟩ := O4 (t := .sl Af) h
 obtain ⟨hl0, hall⟩ := K1 hc
 have hl : a0.length < 1152921504606846976 := hl0
 clear hl0 hc
 ·unfold K9
  have hw1 : IntKind.i64.wrap (a1 - nI a0.length) = a1 - (a0.length : Int) := Ae (by simp only [nI]; omega) (by simp only [nI]; omega)
  rw [hw1]
  have hL := Ahs (xs := a0) ((ByteArray.mk #[]), (ByteArray.mk #[]), ()) (fun x : Pr2 => wt Af x) (g := fun m l i => Bh m a0 l i) (ok := fun l => .inl (l, ())) (bad := .inr (-1, ())) (fun m i l hi h0 h1 => by
   show Bh (m + 1) a0 l i = _
   simp only [Bh, Fg]
   rw [Pw hi, Gk, wI (by omega)]
   simp only [cond_true, Int.toNat_natCast]
   have hE : Ku (List.getD (α := Pr2) a0 i ((ByteArray.mk #[]), (ByteArray.mk #[]), ())) l = some (if l - (wt Af (List.getD (α := Pr2) a0 i ((ByteArray.mk #[]), (ByteArray.mk #[]), ())) : Int) < 0 then -1 else l - wt Af (List.getD (α := Pr2) a0 i ((ByteArray.mk #[]), (ByteArray.mk #[]), ()))) := by
    exact Acg (t := Af) (x := (List.getD (α := Pr2) a0 i ((ByteArray.mk #[]), (ByteArray.mk #[]), ()))) (hall _ (K0 ((ByteArray.mk #[]), (ByteArray.mk #[]), ()) hi)) h0 h1
   rw [hE]
   by_cases q : l - (wt Af (List.getD (α := Pr2) a0 i ((ByteArray.mk #[]), (ByteArray.mk #[]), ())) : Int) < 0
   ·simp only [if_pos q, decide_eq_true q, Option.bind_some, cond_true]; rfl
   ·simp only [if_neg q, decide_eq_false q, Option.bind_some, cond_false]
  ) (fun m l => by
   show Bh (m + 1) a0 l a0.length = _
   simp only [Bh, Fg]
   rw [I6]
   rfl) (C4 a0 (a1 - (a0.length : Int)) 0) 0 (a1 - (a0.length : Int)) (by omega) (by simp [C4])
  have hW : wt (.sl Af) a0 = a0.length + (a0.map (fun x : Pr2 => wt Af x)).sum := rfl
  rw [hW]
  by_cases q : a1 - (a0.length : Int) < 0
  ·simp only [decide_eq_true q, cond_true]; rw [if_pos (by omega)]
  ·simp only [decide_eq_false q, cond_false]
   have hL := hL (by omega) (by omega)
   rw [List.drop_zero] at hL
   show (Bh (C4 a0 (a1 - (a0.length : Int)) 0) a0 (a1 - (a0.length : Int)) 0).bind _ = _
   have hL' : Bh (C4 a0 (a1 - (a0.length : Int)) 0) a0 (a1 - (a0.length : Int)) 0 = _ := hL
   rw [hL']
   have hsum : a1 - ((a0.length + (a0.map (fun x : Pr2 => wt Af x)).sum : Nat) : Int) = a1 - (a0.length : Int) - ((a0.map (fun x : Pr2 => wt Af x)).sum : Int) := by omega
   rw [hsum]
   by_cases q2 : a1 - (a0.length : Int) - ((a0.map (fun x : Pr2 => wt Af x)).sum : Int) < 0
   ·simp only [if_pos q2]; rfl
   ·simp only [if_neg q2]; rfl
noncomputable def Nm {R : Type} (k : Kt R) := (Gz (Ln (pa_laws_szPairS 6) (.exit 0) 2 k) (Ln (pa_laws_szPairS 6) .ret 1 k))
noncomputable def Si {R : Type} : Lt R pa_laws_szPairS := (Gb (pat := pa_laws_szPairS) 6 (fun d k => (Bh (C4 d.1 d.2.1 d.2.2.1) d.1 d.2.1 d.2.2.1).bind (Nm k)) F5)
theorem Qy : At Tryz.prog ta_laws_szPairS := Ax ⟨Ac1, trivial⟩
theorem W4 {R : Type} : Ba Tryz.prog R 27 0 pa_laws_szPairS Si co_laws_szPairS_6 :=
 Dd (cfg := ⟨ta_laws_szPairS, 0, 27, pa_laws_szPairS⟩) 6 [] (fun NX X d => Fg  NX (fun e => X (.inl (e))) (fun e => X (.inr (e))) d.1 d.2.1 d.2.2.1) (fun m d => Bh m d.1 d.2.1 d.2.2.1) (fun d => C4 d.1 d.2.1 d.2.2.1) Nm Qy trivial (fun f NX d => by unfold Fg; simp only [Am, Az, Ai, Option.bind_assoc, Option.bind_none, Option.bind_some]) (fun _ _ _ => by kernel_rfl)
theorem n9 : Bs Tryz.prog 164 sd_laws_szPairS :=
 Av (pat := pa_laws_szPairS) [co_laws_szPairS_6] Si Qy ⟨W4, trivial⟩ Tryz.func164 (de := fun x => K9 x.1 x.2.1) (fun x r h => Ay (n7 x.1 x.2.1) h) fun _ => by kernel_rfl
def G7 (a : Stt) (left : Int) : Option Int := szM Gi a left
def o5 : Sig := ⟨[.rd Gi, .rd tI], [some 1, none], [.rd tI], [none]⟩
noncomputable def sd_laws_szState : SD := ⟨o5, fun x => (G7 x.1 x.2.1).bind fun r => some ((r, ()), (()))⟩
noncomputable def La (a0 : Stt) (a1 : Int) : Option ((((Int) × Unit) × (Unit))) :=
 ((G6 a0.1 a1).bind fun val => some ((val, ()), ())).bind fun val => bif decide (val.1.1 < 0) then some ((-1, ()), ()) else some val
theorem o6 (a0 : Stt) (a1 : Int) r (h : G7 a0 a1 = some r) : La a0 a1 = some ((r, ()), (())) := by
 obtain ⟨hc, g0, g1, rfl⟩ := O4 (t := Gi) h
 obtain ⟨hc0, _⟩ : Al (.sl Af) a0.1 = true ∧ True := by
  have s := hc
  obtain ⟨h0, s⟩ := Ab s
  exact ⟨h0, trivial⟩
 unfold La
 have hwt : (wt Gi a0 : Int) = (wt (.sl Af) a0.1 : Int) := by simp only [wt]; omega
 rw [hwt]
 have e0 : G6 a0.1 (a1) = some (if a1 - (wt (.sl Af) a0.1 : Int) < 0 then -1 else a1 - (wt (.sl Af) a0.1 : Int)) := Acg (t := (.sl Af)) (x := a0.1) hc0 (by omega) (by omega)
 simp only [show G6 a0.1 (a1) = _ from e0, Option.bind_some]
 by_cases q0 : a1 - (wt (.sl Af) a0.1 : Int) < 0
 ·simp only [if_pos q0, show decide ((-1 : Int) < 0) = true from rfl, cond_true]; try rw [if_pos (by omega)]
 ·simp only [if_neg q0, decide_eq_false q0, cond_false]
  try rw [if_neg q0]
theorem o7 : Bs Tryz.prog 77 sd_laws_szState :=
 Av (pat := Ck) [] F5 (Ax (l := [(164, sd_laws_szPairS)]) ⟨n9, trivial⟩) trivial Tryz.func77 (de := fun x => La x.1 x.2.1) (fun x r h => Ay (o6 x.1 x.2.1) h) fun _ => by kernel_rfl
def I7 (a : Sto) (left : Int) : Option Int := szM Jz a left
def o8 : Sig := ⟨[.rd Jz, .rd tI], [some 10, none], [.rd tI], [none]⟩
noncomputable def sd_laws_szStore : SD := ⟨o8, fun x => (I7 x.1 x.2.1).bind fun r => some ((r, ()), (()))⟩
noncomputable def Lb (a0 : Sto) (a1 : Int) : Option ((((Int) × Unit) × (Unit))) :=
 ((G7 a0.2.2.2.2.2.2.1 a1).bind fun val => some ((val, ()), ())).bind fun val => bif decide (val.1.1 < 0) then some ((-1, ()), ()) else some val
theorem o9 (a0 : Sto) (a1 : Int) r (h : I7 a0 a1 = some r) : Lb a0 a1 = some ((r, ()), (())) := by
 obtain ⟨hc, g0, g1, rfl⟩ := O4 (t := Jz) h
 obtain ⟨hc0, hc1, hc2, hc3, hc4, hc5, hc6, _⟩ : Al tI a0.1 = true ∧ Al tI a0.2.1 = true ∧ Al tI a0.2.2.1 = true ∧ Al yRt a0.2.2.2.1 = true ∧ Al tI a0.2.2.2.2.1 = true ∧ Al tI a0.2.2.2.2.2.1 = true ∧ Al Gi a0.2.2.2.2.2.2.1 = true ∧ True := by
  have s := hc
  obtain ⟨h0, s⟩ := Ab s
  obtain ⟨h1, s⟩ := Ab s
  obtain ⟨h2, s⟩ := Ab s
  obtain ⟨h3, s⟩ := Ab s
  obtain ⟨h4, s⟩ := Ab s
  obtain ⟨h5, s⟩ := Ab s
  obtain ⟨h6, s⟩ := Ab s
  exact ⟨h0, h1, h2, h3, h4, h5, h6, trivial⟩
 unfold Lb
 have hwt : (wt Jz a0 : Int) = (wt Gi a0.2.2.2.2.2.2.1 : Int) := by simp only [wt]; omega
 rw [hwt]
 have e0 : G7 a0.2.2.2.2.2.2.1 (a1) = some (if a1 - (wt Gi a0.2.2.2.2.2.2.1 : Int) < 0 then -1 else a1 - (wt Gi a0.2.2.2.2.2.2.1 : Int)) := Acg (t := Gi) (x := a0.2.2.2.2.2.2.1) hc6 (by omega) (by omega)
 simp only [show G7 a0.2.2.2.2.2.2.1 (a1) = _ from e0, Option.bind_some]
 by_cases q0 : a1 - (wt Gi a0.2.2.2.2.2.2.1 : Int) < 0
 ·simp only [if_pos q0, show decide ((-1 : Int) < 0) = true from rfl, cond_true]; try rw [if_pos (by omega)]
 ·simp only [if_neg q0, decide_eq_false q0, cond_false]
  try rw [if_neg q0]
theorem s7 : Bs Tryz.prog 15 sd_laws_szStore :=
 Av (pat := Ck) [] F5 (Ax (l := [(77, sd_laws_szState)]) ⟨o7, trivial⟩) trivial Tryz.func15 (de := fun x => Lb x.1 x.2.1) (fun x r h => Ay (o9 x.1 x.2.1) h) fun _ => by kernel_rfl
def H9 (a : Chg) (left : Int) : Option Int := szM A2 a left
def Zo : Sig := ⟨[.rd A2, .rd tI], [some 3, none], [.rd tI], [none]⟩
noncomputable def sd_laws_szChange : SD := ⟨Zo, fun x => (H9 x.1 x.2.1).bind fun r => some ((r, ()), (()))⟩
noncomputable def Kc (a0 : Chg) (a1 : Int) : Option ((((Int) × Unit) × (Unit))) :=
 bif decide (IntKind.i64.wrap (a1 - nI (ByteArray.size a0.1)) < 0) then some ((-1, ()), ()) else bif decide (IntKind.i64.wrap (IntKind.i64.wrap (a1 - nI (ByteArray.size a0.1)) - nI (ByteArray.size a0.2.1)) < 0) then some ((-1, ()), ()) else some ((IntKind.i64.wrap (IntKind.i64.wrap (a1 - nI (ByteArray.size a0.1)) - nI (ByteArray.size a0.2.1)), ()), ())
theorem Zp (a0 : Chg) (a1 : Int) r (h : H9 a0 a1 = some r) : Kc a0 a1 = some ((r, ()), (())) := by
 obtain ⟨hc, g0, g1, rfl⟩ := O4 (t := A2) h
 obtain ⟨hc0, hc1, hc2, _⟩ : Al .str a0.1 = true ∧ Al .str a0.2.1 = true ∧ Al .bool a0.2.2.1 = true ∧ True := by
  have s := hc
  obtain ⟨h0, s⟩ := Ab s
  obtain ⟨h1, s⟩ := Ab s
  obtain ⟨h2, s⟩ := Ab s
  exact ⟨h0, h1, h2, trivial⟩
 unfold Kc
 have hwt : (wt A2 a0 : Int) = (ByteArray.size a0.1 : Int) + (ByteArray.size a0.2.1 : Int) := by simp only [wt]; omega
 rw [hwt]
 have hs0 : ByteArray.size a0.1 < 1152921504606846976 := Tl hc0
 have e0 : IntKind.i64.wrap (a1 - nI (ByteArray.size a0.1)) = a1 - (ByteArray.size a0.1 : Int) := Ae (by simp only [nI]; omega) (by simp only [nI]; omega)
 simp only [e0]
 by_cases q0 : a1 - (ByteArray.size a0.1 : Int) < 0
 ·simp only [decide_eq_true q0, cond_true]; try rw [if_pos (by omega)]
 ·simp only [decide_eq_false q0, cond_false]
  have hs1 : ByteArray.size a0.2.1 < 1152921504606846976 := Tl hc1
  have e1 : IntKind.i64.wrap (a1 - (ByteArray.size a0.1 : Int) - nI (ByteArray.size a0.2.1)) = a1 - (ByteArray.size a0.1 : Int) - (ByteArray.size a0.2.1 : Int) := Ae (by simp only [nI]; omega) (by simp only [nI]; omega)
  simp only [e1]
  by_cases q1 : a1 - (ByteArray.size a0.1 : Int) - (ByteArray.size a0.2.1 : Int) < 0
  ·simp only [decide_eq_true q1, cond_true]; try rw [if_pos (by omega)]
  ·simp only [decide_eq_false q1, cond_false]
   rw [if_neg (by omega)]
   simp only [Int.sub_sub, Int.add_assoc]
theorem Zq : Bs Tryz.prog 78 sd_laws_szChange :=
 Av (pat := Ck) [] F5 (Ax (l := []) trivial) trivial Tryz.func78 (de := fun x => Kc x.1 x.2.1) (fun x r h => Ay (Zp x.1 x.2.1) h) fun _ => by kernel_rfl
def Hm (a : List Chg) (left : Int) : Option Int := szM (.sl A2) a left
def W5 : Sig := ⟨[.rd (.sl A2), .rd tI], [none, none], [.rd tI], [none]⟩
noncomputable def sd_laws_szChangeS : SD := ⟨W5, fun x => (Hm x.1 x.2.1).bind fun r => some ((r, ()), (()))⟩
noncomputable def ta_laws_szChangeS : Tb := tb [(78, sd_laws_szChange)]
def pa_laws_szChangeS : Nat → Pat × (Nat → Pat) := Gw [(6, ⟨[.sl 0 0 A2], [(0, .lf (.d (.sl A2))), (1, .lf (.d tI)), (5, .lf (.d tI))], []⟩, [(2, ⟨[], [(1, .lf (.d tI))], []⟩), (1, ⟨[], [(4, .lf (.d tI))], []⟩)])]
noncomputable def co_laws_szChangeS_6 : Code := (An (Bn Tryz.f16)).getD 0 .skip
def Ce (v0 : List Chg) (v1 : Int) (v5 : Int) : Nat := ((v0.length : Int) - v5).toNat + 1
noncomputable def Eb {R : Type}  (NX : ((List Chg) × (Int) × (Int) × Unit) → Option R) (X2 : ((Int) × Unit) → Option R) (X1 : ((Int) × Unit) → Option R) (v0 : List Chg) (v1 : Int) (v5 : Int) : Option R :=
 bif decide (v5 < nI v0.length) then bif decide (0 ≤ v5) then bif decide (v5 < nI v0.length) then ((H9 (v0.getD v5.toNat (ByteArray.mk #[], ByteArray.mk #[], false, ())) v1).bind fun val => some ((val, ()), ())).bind fun val => bif decide (val.1.1 < 0) then X1 (-1, ()) else NX (v0, val.1.1, IntKind.i64.wrap (v5 + 1), ()) else none else none else X2 (v1, ())
noncomputable def Bb : Nat → (List Chg) → (Int) → (Int) →  Option (((Int) × Unit) ⊕ ((Int) × Unit))
 | 0, _, _, _ => none
 | m + 1, v0, v1, v5 => Eb  (fun d => Bb m d.1 d.2.1 d.2.2.1) (fun d => some (.inl (d))) (fun d => some (.inr (d))) v0 v1 v5
noncomputable def I8 (a0 : List Chg) (a1 : Int) : Option ((((Int) × Unit) × (Unit))) :=
 bif decide (IntKind.i64.wrap (a1 - nI a0.length) < 0) then some ((-1, ()), ()) else ((fun d => Bb (Ce d.1 d.2.1 d.2.2.1) d.1 d.2.1 d.2.2.1) (a0, IntKind.i64.wrap (a1 - nI a0.length), 0, ())).bind fun val => Gz (fun val => some (val, ())) (fun val => some (val, ())) val
theorem W6 (a0 : List Chg) (a1 : Int) r (h : Hm a0 a1 = some r) : I8 a0 a1 = some ((r, ()), (())) := by
 obtain ⟨hc, g0, g1, rfl⟩ := O4 (t := .sl A2) h
 obtain ⟨hl0, hall⟩ := K1 hc
 have hl : a0.length < 1152921504606846976 := hl0
 clear hl0 hc
 ·unfold I8
  have hw1 : IntKind.i64.wrap (a1 - nI a0.length) = a1 - (a0.length : Int) := Ae (by simp only [nI]; omega) (by simp only [nI]; omega)
  rw [hw1]
  have hL := Ahs (xs := a0) ((ByteArray.mk #[]), (ByteArray.mk #[]), false, ()) (fun x : Chg => wt A2 x) (g := fun m l i => Bb m a0 l i) (ok := fun l => .inl (l, ())) (bad := .inr (-1, ())) (fun m i l hi h0 h1 => by
   show Bb (m + 1) a0 l i = _
   simp only [Bb, Eb]
   rw [Pw hi, Gk, wI (by omega)]
   simp only [cond_true, Int.toNat_natCast]
   have hE : H9 (List.getD (α := Chg) a0 i ((ByteArray.mk #[]), (ByteArray.mk #[]), false, ())) l = some (if l - (wt A2 (List.getD (α := Chg) a0 i ((ByteArray.mk #[]), (ByteArray.mk #[]), false, ())) : Int) < 0 then -1 else l - wt A2 (List.getD (α := Chg) a0 i ((ByteArray.mk #[]), (ByteArray.mk #[]), false, ()))) := by
    exact Acg (t := A2) (x := (List.getD (α := Chg) a0 i ((ByteArray.mk #[]), (ByteArray.mk #[]), false, ()))) (hall _ (K0 ((ByteArray.mk #[]), (ByteArray.mk #[]), false, ()) hi)) h0 h1
   rw [hE]
   by_cases q : l - (wt A2 (List.getD (α := Chg) a0 i ((ByteArray.mk #[]), (ByteArray.mk #[]), false, ())) : Int) < 0
   ·simp only [if_pos q, decide_eq_true q, Option.bind_some, cond_true]; rfl
   ·simp only [if_neg q, decide_eq_false q, Option.bind_some, cond_false]
  ) (fun m l => by
   show Bb (m + 1) a0 l a0.length = _
   simp only [Bb, Eb]
   rw [I6]
   rfl) (Ce a0 (a1 - (a0.length : Int)) 0) 0 (a1 - (a0.length : Int)) (by omega) (by simp [Ce])
  have hW : wt (.sl A2) a0 = a0.length + (a0.map (fun x : Chg => wt A2 x)).sum := rfl
  rw [hW]
  by_cases q : a1 - (a0.length : Int) < 0
  ·simp only [decide_eq_true q, cond_true]; rw [if_pos (by omega)]
  ·simp only [decide_eq_false q, cond_false]
   have hL := hL (by omega) (by omega)
   rw [List.drop_zero] at hL
   show (Bb (Ce a0 (a1 - (a0.length : Int)) 0) a0 (a1 - (a0.length : Int)) 0).bind _ = _
   have hL' : Bb (Ce a0 (a1 - (a0.length : Int)) 0) a0 (a1 - (a0.length : Int)) 0 = _ := hL
   rw [hL']
   have hsum : a1 - ((a0.length + (a0.map (fun x : Chg => wt A2 x)).sum : Nat) : Int) = a1 - (a0.length : Int) - ((a0.map (fun x : Chg => wt A2 x)).sum : Int) := by omega
   rw [hsum]
   by_cases q2 : a1 - (a0.length : Int) - ((a0.map (fun x : Chg => wt A2 x)).sum : Int) < 0
   ·simp only [if_pos q2]; rfl
   ·simp only [if_neg q2]; rfl
noncomputable def Lp {R : Type} (k : Kt R) := (Gz (Ln (pa_laws_szChangeS 6) (.exit 0) 2 k) (Ln (pa_laws_szChangeS 6) .ret 1 k))
noncomputable def O9 {R : Type} : Lt R pa_laws_szChangeS := (Gb (pat := pa_laws_szChangeS) 6 (fun d k => (Bb (Ce d.1 d.2.1 d.2.2.1) d.1 d.2.1 d.2.2.1).bind (Lp k)) F5)
theorem Nn : At Tryz.prog ta_laws_szChangeS := Ax ⟨Zq, trivial⟩
theorem Tw {R : Type} : Ba Tryz.prog R 27 0 pa_laws_szChangeS O9 co_laws_szChangeS_6 :=
 Dd (cfg := ⟨ta_laws_szChangeS, 0, 27, pa_laws_szChangeS⟩) 6 [] (fun NX X d => Eb  NX (fun e => X (.inl (e))) (fun e => X (.inr (e))) d.1 d.2.1 d.2.2.1) (fun m d => Bb m d.1 d.2.1 d.2.2.1) (fun d => Ce d.1 d.2.1 d.2.2.1) Lp Nn trivial (fun f NX d => by unfold Eb; simp only [Am, Az, Ai, Option.bind_assoc, Option.bind_none, Option.bind_some]) (fun _ _ _ => by kernel_rfl)
theorem W7 : Bs Tryz.prog 16 sd_laws_szChangeS :=
 Av (pat := pa_laws_szChangeS) [co_laws_szChangeS_6] O9 Nn ⟨Tw, trivial⟩ Tryz.func16 (de := fun x => I8 x.1 x.2.1) (fun x r h => Ay (W6 x.1 x.2.1) h) fun _ => by kernel_rfl
def B7 (n : Int) : Int := A0 n
def Ac2 : Sig := ⟨[.rd tI], [none], [.rd tI], [none]⟩
noncomputable def sd_spec_Halves : SD := ⟨Ac2, fun x => some (((B7 x.1), ()), (()))⟩
noncomputable def Mj (a0 : Int) : Option ((((Int) × Unit) × (Unit))) :=
 bif decide (a0 < 8) then some ((0, ()), ()) else bif decide (a0 > 200) then some ((0, ()), ()) else some ((IntKind.i64.wrap ((IntKind.i64.wrap (a0 - 2)).tdiv 2), ()), ())
theorem Ac3 (a0 : Int) : Mj a0 = some (((B7 a0), ()), (())) := by
 unfold Mj B7 A0
 rw [Alt]
 cases h : Fp a0 8 200 with
 | false => rfl
 | true =>
  obtain ⟨h1, h2⟩ := Ep h
  rw [j8 h1 h2]
  rfl
theorem Mk : Bs Tryz.prog 55 sd_spec_Halves :=
 Av (pat := Ck) [] F5 (Ax (l := []) trivial) trivial Tryz.func55 (de := fun x => Mj x.1) (fun x r h => (Ac3 x.1).trans h) fun _ => by kernel_rfl
def G8 (k : ByteArray) : Bool := Iu k
def s8 : Sig := ⟨[.rd .str], [none], [.rd .bool], [none]⟩
noncomputable def sd_spec_l4KeyOk : SD := ⟨s8, fun x => some (((G8 x.1), ()), (()))⟩
noncomputable def Lc (a0 : ByteArray) : Option ((((Bool) × Unit) × (Unit))) :=
 bif decide (nI a0.size ≥ 1) then some ((decide (nI a0.size ≤ 20), ()), ()) else some ((false, ()), ())
theorem s9 (a0 : ByteArray) : Lc a0 = some ((G8 a0, ()), ()) := by
 unfold Lc G8 Iu Fp
 by_cases h : (a0.size : Int) ≥ 1
 ·have : decide ((1 : Int) ≤ (a0.size : Int)) = true := by simpa using h
  simp [nI, this]
 ·have h' : ¬ (1 : Int) ≤ (a0.size : Int) := h
  simp [nI, h']
theorem Qz : Bs Tryz.prog 160 sd_spec_l4KeyOk :=
 Av (pat := Ck) [] F5 (Ax (l := []) trivial) trivial Tryz.func160 (de := fun x => Lc x.1) (fun x r h => (s9 x.1).trans h) fun _ => by kernel_rfl
def D1 (b : List Chg) : Bool := A4 b
def Vf : Sig := ⟨[.rd (.sl A2)], [none], [.rd .bool], [none]⟩
noncomputable def sd_spec_ValidBatch : SD := ⟨Vf, fun x => some (((D1 x.1), ()), (()))⟩
noncomputable def ta_spec_ValidBatch : Tb := tb [(160, sd_spec_l4KeyOk)]
def pa_spec_ValidBatch : Nat → Pat × (Nat → Pat) := Gw [(5, ⟨[.sl 0 0 A2], [(0, .lf (.d (.sl A2))), (3, .lf (.d tI))], []⟩, [(2, p0), (1, ⟨[], [(2, .lf (.d .bool))], []⟩)])]
noncomputable def co_spec_ValidBatch_5 : Code := (An (Bn Tryz.f79)).getD 0 .skip
def Dt (v0 : List Chg) (v3 : Int) : Nat := ((v0.length : Int) - v3).toNat + 1
noncomputable def Du {R : Type}  (NX : ((List Chg) × (Int) × Unit) → Option R) (X2 : (Unit) → Option R) (X1 : ((Bool) × Unit) → Option R) (v0 : List Chg) (v3 : Int) : Option R :=
 bif decide (v3 < nI v0.length) then bif decide (0 ≤ v3) then bif decide (v3 < nI v0.length) then bif !G8 (v0.getD v3.toNat (ByteArray.mk #[], ByteArray.mk #[], false, ())).1 then X1 (false, ()) else bif decide (0 ≤ v3) then bif decide (v3 < nI v0.length) then bif decide (nI (ByteArray.size (v0.getD v3.toNat (ByteArray.mk #[], ByteArray.mk #[], false, ())).2.1) > 100) then X1 (false, ()) else bif decide (0 ≤ v3) then bif decide (v3 < nI v0.length) then bif (v0.getD v3.toNat (ByteArray.mk #[], ByteArray.mk #[], false, ())).2.2.1 then bif decide (0 ≤ v3) then bif decide (v3 < nI v0.length) then bif !ByteArray.toList (v0.getD v3.toNat (ByteArray.mk #[], ByteArray.mk #[], false, ())).2.1 == (ByteArray.mk #[]).toList then X1 (false, ()) else NX (v0, IntKind.i64.wrap (v3 + 1), ()) else none else none else NX (v0, IntKind.i64.wrap (v3 + 1), ()) else none else none else none else none else none else none else X2 PUnit.unit
noncomputable def Bi : Nat → (List Chg) → (Int) →  Option ((Unit) ⊕ ((Bool) × Unit))
 | 0, _, _ => none
 | m + 1, v0, v3 => Du  (fun d => Bi m d.1 d.2.1) (fun d => some (.inl (d))) (fun d => some (.inr (d))) v0 v3
noncomputable def Ig (a0 : List Chg) : Option ((((Bool) × Unit) × (Unit))) :=
 bif decide (nI a0.length < 1) then some ((false, ()), ()) else bif decide (nI a0.length > 20) then some ((false, ()), ()) else ((fun d => Bi (Dt d.1 d.2.1) d.1 d.2.1) (a0, 0, ())).bind fun val => Gz (fun val => some ((true, ()), ())) (fun val => some (val, ())) val
theorem Vg (a0 : List Chg) : Ig a0 = some (((D1 a0), ()), (())) := by
 unfold Ig D1 A4
 have tl : ByteArray.toList (ByteArray.mk #[]) = [] := by decide +kernel
 rw [Alt (nI (List.length a0))]
 show (bif Fp (a0.length : Int) 1 20 then _ else _) = _
 cases hin : Fp (a0.length : Int) 1 20 with
 | false => rfl
 | true =>
  have hlen : a0.length ≤ 20 := by have := (Ep hin).2; omega
  have hL := Sb (n := a0.length) (fun i => Lo (a0.getD i zC)) (g := fun m i => Bi m a0 i) (ok := .inl ()) (bad := .inr (false, ())) (fun m i hi => by
   show Bi (m + 1) a0 i = _
   simp only [Bi, Du]
   rw [tl, Pw hi, Gk, wI (show i < 4611686018427387904 by omega), Int.toNat_natCast]
   have g1 : decide (nI (ByteArray.size (List.getD a0 i (ByteArray.mk #[], ByteArray.mk #[], false, ())).2.1) > 100) = !decide ((a0.getD i zC).2.1.size ≤ 100) := Agc _ 100
   rw [g1]
   show (bif !Iu (a0.getD i zC).1 then _ else (bif _ then _ else (bif (a0.getD i zC).2.2.1 then (bif !((a0.getD i zC).2.1.toList == []) then _ else _) else _))) = _
   unfold Lo
   cases Iu (a0.getD i zC).1 <;> cases decide ((a0.getD i zC).2.1.size ≤ 100) <;> cases (a0.getD i zC).2.2.1 <;> cases ((a0.getD i zC).2.1.toList == []) <;> rfl) (fun m => by
   show Bi (m + 1) a0 (a0.length : Int) = _
   simp only [Bi, Du]
   rw [I6]
   rfl) (Dt a0 0) 0 (by omega) (by simp [Dt, nI])
  refine Tu hL ?_
  rw [Nat.sub_zero]
  cases (List.range' 0 a0.length).all (fun i => Lo (a0.getD i zC)) <;> rfl
noncomputable def K2 {R : Type} (k : Kt R) := (Gz (Ln (pa_spec_ValidBatch 5) (.exit 0) 2 k) (Ln (pa_spec_ValidBatch 5) .ret 1 k))
noncomputable def Np {R : Type} : Lt R pa_spec_ValidBatch := (Gb (pat := pa_spec_ValidBatch) 5 (fun d k => (Bi (Dt d.1 d.2.1) d.1 d.2.1).bind (K2 k)) F5)
theorem Ml : At Tryz.prog ta_spec_ValidBatch := Ax ⟨Qz, trivial⟩
theorem Sj {R : Type} : Ba Tryz.prog R 49 0 pa_spec_ValidBatch Np co_spec_ValidBatch_5 :=
 Dd (cfg := ⟨ta_spec_ValidBatch, 0, 49, pa_spec_ValidBatch⟩) 5 [] (fun NX X d => Du  NX (fun e => X (.inl (e))) (fun e => X (.inr (e))) d.1 d.2.1) (fun m d => Bi m d.1 d.2.1) (fun d => Dt d.1 d.2.1) K2 Ml trivial (fun f NX d => by unfold Du; simp only [Am, Az, Ai, Option.bind_assoc, Option.bind_none, Option.bind_some]) (fun _ _ _ => by kernel_rfl)
theorem Ih : Bs Tryz.prog 79 sd_spec_ValidBatch :=
 Av (pat := pa_spec_ValidBatch) [co_spec_ValidBatch_5] Np Ml ⟨Sj, trivial⟩ Tryz.func79 (de := fun x => Ig x.1) (fun x r h => (Vg x.1).trans h) fun _ => by kernel_rfl
def Dm (b : List Chg) : ByteArray := F8 b
def W8 : Sig := ⟨[.rd (.sl A2)], [none], [.rd .str], [none]⟩
noncomputable def sd_spec_FormBatch : SD := ⟨W8, fun x => some (((Dm x.1), ()), (()))⟩
noncomputable def ta_spec_FormBatch : Tb := tb [(79, sd_spec_ValidBatch)]
def pa_spec_FormBatch : Nat → Pat × (Nat → Pat) := Gw [(6, ⟨[.sl 0 0 A2, .row 3 0 5 (.int .u8)], [(0, .lf (.d (.sl A2))), (3, .lf (.row 0)), (4, .lf (.d tI))], [.row 5 (.int .u8)]⟩, [(2, ⟨[.row 3 0 5 (.int .u8)], [(3, .lf (.row 0))], [.row 5 (.int .u8)]⟩)])]
noncomputable def co_spec_FormBatch_6 : Code := (An (Bn Tryz.f82)).getD 0 .skip
def Ec (v0 : List Chg) (v4 : Int) (r0 : List Int) : Nat := ((v0.length : Int) - v4).toNat + 1
noncomputable def Ed {R : Type}  (NX : ((List Chg) × (Int) × (List Int) × Unit) → Option R) (X2 : ((List Int) × Unit) → Option R) (v0 : List Chg) (v4 : Int) (r0 : List Int) : Option R :=
 bif decide (v4 < nI v0.length) then bif decide (0 ≤ v4) then bif decide (v4 < nI v0.length) then bif (v0.getD v4.toNat (ByteArray.mk #[], ByteArray.mk #[], false, ())).2.2.1 then bif decide (0 ≤ v4) then bif decide (v4 < nI v0.length) then bif decide ((r0.length + [1, IntKind.u8.wrap (nI (ByteArray.size (v0.getD v4.toNat (ByteArray.mk #[], ByteArray.mk #[], false, ())).1))].length) * 1 ≤ 140737488355328) then bif decide (0 ≤ v4) then bif decide (v4 < nI v0.length) then bif decide ((r0 ++ [1, IntKind.u8.wrap (nI (ByteArray.size (v0.getD v4.toNat (ByteArray.mk #[], ByteArray.mk #[], false, ())).1))]).length + ByteArray.size (v0.getD v4.toNat (ByteArray.mk #[], ByteArray.mk #[], false, ())).1 ≤ 140737488355328) then NX (v0, IntKind.i64.wrap (v4 + 1), r0 ++ [1, IntKind.u8.wrap (nI (ByteArray.size (v0.getD v4.toNat (ByteArray.mk #[], ByteArray.mk #[], false, ())).1))] ++ Ag (v0.getD v4.toNat (ByteArray.mk #[], ByteArray.mk #[], false, ())).1, ()) else none else none else none else none else none else none else bif decide (0 ≤ v4) then bif decide (v4 < nI v0.length) then bif decide ((r0.length + [0, IntKind.u8.wrap (nI (ByteArray.size (v0.getD v4.toNat (ByteArray.mk #[], ByteArray.mk #[], false, ())).1))].length) * 1 ≤ 140737488355328) then bif decide (0 ≤ v4) then bif decide (v4 < nI v0.length) then bif decide ((r0 ++ [0, IntKind.u8.wrap (nI (ByteArray.size (v0.getD v4.toNat (ByteArray.mk #[], ByteArray.mk #[], false, ())).1))]).length + ByteArray.size (v0.getD v4.toNat (ByteArray.mk #[], ByteArray.mk #[], false, ())).1 ≤ 140737488355328) then bif decide (0 ≤ v4) then bif decide (v4 < nI v0.length) then bif decide (((r0 ++ [0, IntKind.u8.wrap (nI (ByteArray.size (v0.getD v4.toNat (ByteArray.mk #[], ByteArray.mk #[], false, ())).1))] ++ Ag (v0.getD v4.toNat (ByteArray.mk #[], ByteArray.mk #[], false, ())).1).length + [IntKind.u8.wrap (nI (ByteArray.size (v0.getD v4.toNat (ByteArray.mk #[], ByteArray.mk #[], false, ())).2.1))].length) * 1 ≤ 140737488355328) then bif decide (0 ≤ v4) then bif decide (v4 < nI v0.length) then bif decide ((r0 ++ [0, IntKind.u8.wrap (nI (ByteArray.size (v0.getD v4.toNat (ByteArray.mk #[], ByteArray.mk #[], false, ())).1))] ++ Ag (v0.getD v4.toNat (ByteArray.mk #[], ByteArray.mk #[], false, ())).1 ++ [IntKind.u8.wrap (nI (ByteArray.size (v0.getD v4.toNat (ByteArray.mk #[], ByteArray.mk #[], false, ())).2.1))]).length + ByteArray.size (v0.getD v4.toNat (ByteArray.mk #[], ByteArray.mk #[], false, ())).2.1 ≤ 140737488355328) then NX (v0, IntKind.i64.wrap (v4 + 1), r0 ++ [0, IntKind.u8.wrap (nI (ByteArray.size (v0.getD v4.toNat (ByteArray.mk #[], ByteArray.mk #[], false, ())).1))] ++ Ag (v0.getD v4.toNat (ByteArray.mk #[], ByteArray.mk #[], false, ())).1 ++ [IntKind.u8.wrap (nI (ByteArray.size (v0.getD v4.toNat (ByteArray.mk #[], ByteArray.mk #[], false, ())).2.1))] ++ Ag (v0.getD v4.toNat (ByteArray.mk #[], ByteArray.mk #[], false, ())).2.1, ()) else none else none else none else none else none else none else none else none else none else none else none else none else none else none else X2 (r0, ())
noncomputable def Bo : Nat → (List Chg) → (Int) → (List Int) →  Option ((List Int) × Unit)
 | 0, _, _, _ => none
 | m + 1, v0, v4, r0 => Ed  (fun d => Bo m d.1 d.2.1 d.2.2.1) (fun d => some (d)) v0 v4 r0
noncomputable def I9 (a0 : List Chg) : Option ((((ByteArray) × Unit) × (Unit))) :=
 bif !D1 a0 then some ((ByteArray.mk #[], ()), ()) else ((fun d => Bo (Ec d.1 d.2.1 d.2.2.1) d.1 d.2.1 d.2.2.1) (a0, 0, [], ())).bind fun val => some ((strOfNums val.1, ()), ())
theorem W9 (a0 : List Chg) : I9 a0 = some ((Dm a0, ()), (())) := by
 unfold I9 Dm F8
 show (bif !A4 a0 then _ else _) = _
 cases hv : A4 a0 with
 | false => rfl
 | true =>
  obtain ⟨hlen, hok⟩ := Ks hv
  have hL := To a0.length Acm (fun i r => r ++ W0 (a0.getD i zC)) (g := fun m i r => Bo m a0 i r) (ok := fun r => (r, ())) (fun m i r hi hr => by
   show Bo (m + 1) a0 i r = _
   simp only [Bo, Ed]
   have hc := hok i hi
   obtain ⟨k1, k2, k3⟩ := Zh hc
   rw [Pw hi, Gk, wI (show i < 4611686018427387904 by omega), Int.toNat_natCast]
   have hr1 := hr.1
   have eC : List.getD a0 i (ByteArray.mk #[], ByteArray.mk #[], false, ()) = a0.getD i zC := rfl
   rw [eC]
   generalize a0.getD i zC = c at *
   rw [Asa _ (show c.1.size < 256 by omega), Asa _ (show c.2.1.size < 256 by omega)]
   simp only [List.length_append, List.length_cons, List.length_nil, Iw]
   rw [decide_eq_true (show (r.length + (0 + 1 + 1)) * 1 ≤ 140737488355328 by omega), decide_eq_true (show r.length + (0 + 1 + 1) + c.1.size ≤ 140737488355328 by omega), decide_eq_true (show (r.length + (0 + 1 + 1) + c.1.size + (0 + 1)) * 1 ≤ 140737488355328 by omega), decide_eq_true (show r.length + (0 + 1 + 1) + c.1.size + (0 + 1) + c.2.1.size ≤ 140737488355328 by omega)]
   unfold W0
   simp only [cond_true]
   cases c.2.2.1 <;> simp only [cond_true, cond_false, List.append_assoc]) (fun m r _ => by
   show Bo (m + 1) a0 (a0.length : Int) r = _
   simp only [Bo, Ed]
   rw [I6]
   rfl) (fun i r hi hr => hr.step (hok i hi)) a0.length (Ec a0 0 []) 0 [] (by omega) (by simp [Ec, nI]) ⟨by simp, rfl⟩
  rw [Acl W0 zC a0 a0.length 0 [] (by omega), List.nil_append, List.drop_zero] at hL
  refine Tu hL ?_
  rfl
noncomputable def Lq {R : Type} (k : Kt R) := (Ln (pa_spec_FormBatch 6) (.exit 0) 2 k)
noncomputable def Pa {R : Type} : Lt R pa_spec_FormBatch := (Gb (pat := pa_spec_FormBatch) 6 (fun d k => (Bo (Ec d.1 d.2.1 d.2.2.1) d.1 d.2.1 d.2.2.1).bind (Lq k)) F5)
theorem Nq : At Tryz.prog ta_spec_FormBatch := Ax ⟨Ih, trivial⟩
theorem Tx {R : Type} : Ba Tryz.prog R 70 0 pa_spec_FormBatch Pa co_spec_FormBatch_6 :=
 Dd (cfg := ⟨ta_spec_FormBatch, 0, 70, pa_spec_FormBatch⟩) 6 [] (fun NX X d => Ed  NX X d.1 d.2.1 d.2.2.1) (fun m d => Bo m d.1 d.2.1 d.2.2.1) (fun d => Ec d.1 d.2.1 d.2.2.1) Lq Nq trivial (fun f NX d => by unfold Ed; simp only [Am, Az, Ai, Option.bind_assoc, Option.bind_none, Option.bind_some]) (fun _ _ _ => by kernel_rfl)
theorem Nr : Bs Tryz.prog 82 sd_spec_FormBatch :=
 Av (pat := pa_spec_FormBatch) [co_spec_FormBatch_6] Pa Nq ⟨Tx, trivial⟩ Tryz.func82 (de := fun x => I9 x.1) (fun x r h => (W9 x.1).trans h) fun _ => by kernel_rfl
def C5 (s : Stt) : Bool := A3 s
def Vh : Sig := ⟨[.rd Gi], [some 1], [.rd .bool], [none]⟩
noncomputable def sd_spec_ValidState : SD := ⟨Vh, fun x => some (((C5 x.1), ()), (()))⟩
noncomputable def ta_spec_ValidState : Tb := tb [(160, sd_spec_l4KeyOk)]
def pa_spec_ValidState : Nat → Pat × (Nat → Pat) := Gw [(5, ⟨[.boxSl 1 0 Af], [(1, .lf (.ptr 0 0)), (3, .lf (.d tI))], [.box 31 [.d (.sl Af)]]⟩, [(2, p0), (1, ⟨[], [(2, .lf (.d .bool))], []⟩)])]
noncomputable def co_spec_ValidState_5 : Code := (An (Bn Tryz.f73)).getD 0 .skip
def B3 (v3 : Int) (b0_0 : List Pr2) : Nat := ((b0_0.length : Int) - v3).toNat + 1
noncomputable def Dv {R : Type}  (NX : ((Int) × (List Pr2) × Unit) → Option R) (X2 : (Unit) → Option R) (X1 : ((Bool) × Unit) → Option R) (v3 : Int) (b0_0 : List Pr2) : Option R :=
 bif decide (v3 < nI b0_0.length) then bif decide (0 ≤ v3) then bif decide (v3 < nI b0_0.length) then bif !G8 (b0_0.getD v3.toNat (ByteArray.mk #[], ByteArray.mk #[], ())).1 then X1 (false, ()) else bif decide (0 ≤ v3) then bif decide (v3 < nI b0_0.length) then bif decide (nI (ByteArray.size (b0_0.getD v3.toNat (ByteArray.mk #[], ByteArray.mk #[], ())).2.1) > 100) then X1 (false, ()) else bif decide (v3 > 0) then bif decide (0 ≤ IntKind.i64.wrap (v3 - 1)) then bif decide (IntKind.i64.wrap (v3 - 1) < nI b0_0.length) then bif decide (0 ≤ v3) then bif decide (v3 < nI b0_0.length) then bif !Op.bytesLess (ByteArray.toList (b0_0.getD (IntKind.i64.wrap (v3 - 1)).toNat (ByteArray.mk #[], ByteArray.mk #[], ())).1) (ByteArray.toList (b0_0.getD v3.toNat (ByteArray.mk #[], ByteArray.mk #[], ())).1) then X1 (false, ()) else NX (IntKind.i64.wrap (v3 + 1), b0_0, ()) else none else none else none else none else NX (IntKind.i64.wrap (v3 + 1), b0_0, ()) else none else none else none else none else X2 PUnit.unit
noncomputable def A7 : Nat → (Int) → (List Pr2) →  Option ((Unit) ⊕ ((Bool) × Unit))
 | 0, _, _ => none
 | m + 1, v3, b0_0 => Dv  (fun d => A7 m d.1 d.2.1) (fun d => some (.inl (d))) (fun d => some (.inr (d))) v3 b0_0
noncomputable def Ii (a0 : Stt) : Option ((((Bool) × Unit) × (Unit))) :=
 bif decide (nI (List.length a0.1) > 100) then some ((false, ()), ()) else ((fun d => A7 (B3 d.1 d.2.1) d.1 d.2.1) (0, a0)).bind fun val => Gz (fun val => some ((true, ()), ())) (fun val => some (val, ())) val
theorem Vi (a0 : Stt) : Ii a0 = some ((C5 a0, ()), ()) := by
 unfold Ii C5 A3
 have c1 : decide (nI a0.1.length > 100) = !decide (a0.1.length ≤ 100) := Agc _ 100
 by_cases hl : a0.1.length ≤ 100
 ·have hL := Sb (n := a0.1.length) (Gj a0.1) (g := fun m i => A7 m i a0.1) (ok := .inl ()) (bad := .inr (false, ())) (fun m i hi => by
   show A7 (m + 1) i a0.1 = _
   simp only [A7, Dv]
   have g1 : decide (nI (ByteArray.size (List.getD a0.1 i (ByteArray.mk #[], ByteArray.mk #[], ())).2.1) > 100) = !decide (ByteArray.size (List.getD a0.1 i zP).2.1 ≤ 100) := Agc _ 100
   rw [Pw hi, Gk, wI (show i < 4611686018427387904 by omega), Int.toNat_natCast, gt0, g1]
   simp only [cond_true]
   unfold Gj bl
   show (bif !Iu (List.getD a0.1 i zP).1 then _ else _) = _
   cases i with
   | zero =>
    show (bif !Iu (List.getD a0.1 0 zP).1 then _ else bif !decide (ByteArray.size (List.getD a0.1 0 zP).2.1 ≤ 100) then _ else _) = _
    cases Iu (List.getD a0.1 0 zP).1 <;> cases decide (ByteArray.size (List.getD a0.1 0 zP).2.1 ≤ 100) <;> rfl
   | succ j =>
    rw [wP j (by omega), Gk, Pw (show j < a0.1.length by omega)]
    show (bif !Iu (List.getD a0.1 (j + 1) zP).1 then _ else bif !decide (ByteArray.size (List.getD a0.1 (j + 1) zP).2.1 ≤ 100) then _ else bif !Op.bytesLess (ByteArray.toList (List.getD a0.1 j zP).1) (ByteArray.toList (List.getD a0.1 (j + 1) zP).1) then _ else _) = _
    rw [Nat.add_sub_cancel]
    cases Iu (List.getD a0.1 (j + 1) zP).1 <;> cases decide (ByteArray.size (List.getD a0.1 (j + 1) zP).2.1 ≤ 100) <;> cases Op.bytesLess (ByteArray.toList (List.getD a0.1 j zP).1) (ByteArray.toList (List.getD a0.1 (j + 1) zP).1) <;> rfl) (fun m => by
   show A7 (m + 1) (a0.1.length : Int) a0.1 = _
   simp only [A7, Dv]
   rw [I6]
   rfl) (B3 0 a0.1) 0 (by omega) (by simp [B3, nI])
  have hL' : A7 (B3 0 a0.1) 0 a0.1 = _ := hL
  rw [c1, decide_eq_true hl]
  show (A7 (B3 0 a0.1) 0 a0.1).bind _ = _
  rw [hL']
  cases (List.range' 0 (a0.1.length - 0)).all (Gj a0.1) <;> rfl
 ·rw [c1, decide_eq_false hl]
  rfl
noncomputable def K3 {R : Type} (k : Kt R) := (Gz (Ln (pa_spec_ValidState 5) (.exit 0) 2 k) (Ln (pa_spec_ValidState 5) .ret 1 k))
noncomputable def Ns {R : Type} : Lt R pa_spec_ValidState := (Gb (pat := pa_spec_ValidState) 5 (fun d k => (A7 (B3 d.1 d.2.1) d.1 d.2.1).bind (K3 k)) F5)
theorem Mm : At Tryz.prog ta_spec_ValidState := Ax ⟨Qz, trivial⟩
theorem Sk {R : Type} : Ba Tryz.prog R 53 0 pa_spec_ValidState Ns co_spec_ValidState_5 :=
 Dd (cfg := ⟨ta_spec_ValidState, 0, 53, pa_spec_ValidState⟩) 5 [] (fun NX X d => Dv  NX (fun e => X (.inl (e))) (fun e => X (.inr (e))) d.1 d.2.1) (fun m d => A7 m d.1 d.2.1) (fun d => B3 d.1 d.2.1) K3 Mm trivial (fun f NX d => by unfold Dv; simp only [Am, Az, Ai, Option.bind_assoc, Option.bind_none, Option.bind_some]) (fun _ _ _ => by kernel_rfl)
theorem Ij : Bs Tryz.prog 73 sd_spec_ValidState :=
 Av (pat := pa_spec_ValidState) [co_spec_ValidState_5] Ns Mm ⟨Sk, trivial⟩ Tryz.func73 (de := fun x => Ii x.1) (fun x r h => (Vi x.1).trans h) fun _ => by kernel_rfl
def Ia (s : Stt) : List (List Chg) := Cy s
def Zr : Sig := ⟨[.rd Gi], [some 1], [.rd (.sl (.sl A2))], [none]⟩
noncomputable def sd_spec_Snapshot : SD := ⟨Zr, fun x => some (((Ia x.1), ()), (()))⟩
noncomputable def ta_spec_Snapshot : Tb := tb [(73, sd_spec_ValidState)]
def pa_spec_Snapshot : Nat → Pat × (Nat → Pat) := Gw [(6, ⟨[.last 3 131 A2, .boxSl 1 0 Af], [(1, .lf (.ptr 0 0)), (3, .lf (.row 1)), (4, .lf (.d tI))], [.box 31 [.d (.sl Af)], .last 59 A2 2, .row 131 A2]⟩, [(2, ⟨[.last 3 131 A2], [(3, .lf (.row 0))], [.last 59 A2 1, .row 131 A2]⟩)])]
noncomputable def co_spec_Snapshot_6 : Code := (An (Bn Tryz.f140)).getD 0 .skip
def Cr (v4 : Int) (b0_0 : List Pr2) (r1 : List (List Chg)) (c1 : Bool) (r2 : List Chg) : Nat := ((b0_0.length : Int) - v4).toNat + 1
noncomputable def Es {R : Type}  (NX : ((Int) × (List Pr2) × (List (List Chg)) × (Bool) × (List Chg) × Unit) → Option R) (X2 : ((List (List Chg)) × (Bool) × (List Chg) × Unit) → Option R) (v4 : Int) (b0_0 : List Pr2) (r1 : List (List Chg)) (c1 : Bool) (r2 : List Chg) : Option R :=
 bif decide (v4 < nI b0_0.length) then bif v4.tmod 20 == 0 then bif decide ((r1.length + c1.toNat + 1) * 24 ≤ 140737488355328) then bif decide (0 ≤ IntKind.i64.wrap (nI ((bif c1 then r1 ++ [r2] else r1).length + true.toNat) - 1)) then bif decide (IntKind.i64.wrap (nI ((bif c1 then r1 ++ [r2] else r1).length + true.toNat) - 1) < nI ((bif c1 then r1 ++ [r2] else r1).length + true.toNat)) then bif decide ((IntKind.i64.wrap (nI ((bif c1 then r1 ++ [r2] else r1).length + true.toNat) - 1)).toNat = (bif c1 then r1 ++ [r2] else r1).length) then bif decide (0 ≤ v4) then bif decide (v4 < nI b0_0.length) then bif decide (0 ≤ v4) then bif decide (v4 < nI b0_0.length) then bif decide (0 ≤ IntKind.i64.wrap (nI ((bif c1 then r1 ++ [r2] else r1).length + true.toNat) - 1)) then bif decide (IntKind.i64.wrap (nI ((bif c1 then r1 ++ [r2] else r1).length + true.toNat) - 1) < nI ((bif c1 then r1 ++ [r2] else r1).length + true.toNat)) then bif decide ((IntKind.i64.wrap (nI ((bif c1 then r1 ++ [r2] else r1).length + true.toNat) - 1)).toNat = (bif c1 then r1 ++ [r2] else r1).length) then NX (IntKind.i64.wrap (v4 + 1), b0_0, bif c1 then r1 ++ [r2] else r1, true, [] ++ [((b0_0.getD v4.toNat (ByteArray.mk #[], ByteArray.mk #[], ())).1, (b0_0.getD v4.toNat (ByteArray.mk #[], ByteArray.mk #[], ())).2.1, false, ())], ()) else none else none else none else none else none else none else none else none else none else none else none else bif decide (0 ≤ IntKind.i64.wrap (nI (r1.length + c1.toNat) - 1)) then bif decide (IntKind.i64.wrap (nI (r1.length + c1.toNat) - 1) < nI (r1.length + c1.toNat)) then bif c1 then bif decide ((IntKind.i64.wrap (nI (r1.length + c1.toNat) - 1)).toNat = r1.length) then bif decide (0 ≤ v4) then bif decide (v4 < nI b0_0.length) then bif decide (0 ≤ v4) then bif decide (v4 < nI b0_0.length) then bif decide ((r2.length + [((b0_0.getD v4.toNat (ByteArray.mk #[], ByteArray.mk #[], ())).1, (b0_0.getD v4.toNat (ByteArray.mk #[], ByteArray.mk #[], ())).2.1, false, ())].length) * 40 ≤ 140737488355328) then bif decide (0 ≤ IntKind.i64.wrap (nI (r1.length + c1.toNat) - 1)) then bif decide (IntKind.i64.wrap (nI (r1.length + c1.toNat) - 1) < nI (r1.length + c1.toNat)) then bif c1 then bif decide ((IntKind.i64.wrap (nI (r1.length + c1.toNat) - 1)).toNat = r1.length) then NX (IntKind.i64.wrap (v4 + 1), b0_0, r1, c1, r2 ++ [((b0_0.getD v4.toNat (ByteArray.mk #[], ByteArray.mk #[], ())).1, (b0_0.getD v4.toNat (ByteArray.mk #[], ByteArray.mk #[], ())).2.1, false, ())], ()) else none else none else none else none else none else none else none else none else none else none else none else none else none else X2 (r1, c1, r2, ())
noncomputable def Bf : Nat → (Int) → (List Pr2) → (List (List Chg)) → (Bool) → (List Chg) →  Option ((List (List Chg)) × (Bool) × (List Chg) × Unit)
 | 0, _, _, _, _, _ => none
 | m + 1, v4, b0_0, r1, c1, r2 => Es  (fun d => Bf m d.1 d.2.1 d.2.2.1 d.2.2.2.1 d.2.2.2.2.1) (fun d => some (d)) v4 b0_0 r1 c1 r2
noncomputable def Kd (a0 : Stt) : Option ((((List (List Chg)) × Unit) × (Unit))) :=
 bif !C5 a0 then some (([], ()), ()) else ((fun d => Bf (Cr d.1 d.2.1 d.2.2.1 d.2.2.2.1 d.2.2.2.2.1) d.1 d.2.1 d.2.2.1 d.2.2.2.1 d.2.2.2.2.1) (0, a0.1, [], false, [], ())).bind fun val => some ((bif val.2.1 then val.1 ++ [val.2.2.1] else val.1, ()), ())
theorem Zs (a0 : Stt) : Kd a0 = some (((Ia a0), ()), (())) := by
 unfold Kd Ia Cy
 show (bif !A3 a0 then _ else _) = _
 cases hv : A3 a0 with
 | false => rfl
 | true =>
  have hl := Fy hv
  have hL := Er (xs := a0.1) zP Agi Kz (g := fun m i s => Bf m i a0.1 s.1 s.2.1 s.2.2) (ok := fun s => (s.1, s.2.1, s.2.2, ())) (fun m i s hi hI => by
   show Bf (m + 1) i a0.1 s.1 s.2.1 s.2.2 = _
   obtain ⟨r0, c0, r1⟩ := s
   obtain ⟨h1, h2, h3, h4⟩ := hI
   simp only at h2 h3 h4 ⊢
   simp only [Bf, Es]
   rw [Pw hi, Gk, wI (show i < 4611686018427387904 by omega), Int.toNat_natCast, Aqd]
   unfold Kz
   cases hc : (i % 20 == 0)
   ·have hp : 0 < i := Nat.pos_of_ne_zero fun q => by subst q; cases hc
    have hc0 := h3 hp
    subst hc0
    have e1 := Ahx r0.length (by omega)
    have e2 : decide ((r0.length : Int) < nI (r0.length + 1)) = true := Pw (Nat.lt_succ_self _)
    have e3 : decide ((r1.length + 1) * 40 ≤ 140737488355328) = true := decide_eq_true (by omega)
    simp only [Bool.toNat_true, List.length_singleton, cond_true, cond_false, e1, e2, e3, Gk, Int.toNat_natCast, decide_true]
    rfl
   ·have hL : List.length (bif c0 then r0 ++ [r1] else r0) ≤ i + 1 := by cases c0 <;> simp <;> omega
    have e1 := Ahx (List.length (bif c0 then r0 ++ [r1] else r0)) (by omega)
    have e2 : decide (((List.length (bif c0 then r0 ++ [r1] else r0) : Nat) : Int) < nI (List.length (bif c0 then r0 ++ [r1] else r0) + 1)) = true := Pw (Nat.lt_succ_self _)
    have e3 : decide ((r0.length + Bool.toNat c0 + 1) * 24 ≤ 140737488355328) = true := decide_eq_true (by cases c0 <;> simp <;> omega)
    simp only [Bool.toNat_true, cond_true, e1, e2, e3, Gk, Int.toNat_natCast, decide_true]
    rfl) (fun i s hi hI => hI.step (by omega) _) (fun m s hI => by
   show Bf (m + 1) (a0.1.length : Int) a0.1 s.1 s.2.1 s.2.2 = _
   simp only [Bf, Es]
   rw [I6]
   rfl) (Cr 0 a0.1 [] false []) 0 ([], false, []) (by omega) (by simp [Cr, nI]) ⟨by omega, by simp, fun q => by omega, by simp⟩
  have hL' : Bf (Cr 0 a0.1 [] false []) 0 a0.1 [] false [] = _ := hL
  show (Bf (Cr 0 a0.1 [] false []) 0 a0.1 [] false []).bind _ = _
  rw [hL']
  rfl
noncomputable def Mn {R : Type} (k : Kt R) := (Ln (pa_spec_Snapshot 6) (.exit 0) 2 k)
noncomputable def Q0 {R : Type} : Lt R pa_spec_Snapshot := (Gb (pat := pa_spec_Snapshot) 6 (fun d k => (Bf (Cr d.1 d.2.1 d.2.2.1 d.2.2.2.1 d.2.2.2.2.1) d.1 d.2.1 d.2.2.1 d.2.2.2.1 d.2.2.2.2.1).bind (Mn k)) F5)
theorem Pb : At Tryz.prog ta_spec_Snapshot := Ax ⟨Ij, trivial⟩
theorem Vj {R : Type} : Ba Tryz.prog R 51 0 pa_spec_Snapshot Q0 co_spec_Snapshot_6 :=
 Dd (cfg := ⟨ta_spec_Snapshot, 0, 51, pa_spec_Snapshot⟩) 6 [] (fun NX X d => Es  NX X d.1 d.2.1 d.2.2.1 d.2.2.2.1 d.2.2.2.2.1) (fun m d => Bf m d.1 d.2.1 d.2.2.1 d.2.2.2.1 d.2.2.2.2.1) (fun d => Cr d.1 d.2.1 d.2.2.1 d.2.2.2.1 d.2.2.2.2.1) Mn Pb trivial (fun f NX d => by unfold Es; simp only [Am, Az, Ai, Option.bind_assoc, Option.bind_none, Option.bind_some]) (fun _ _ _ => by kernel_rfl)
theorem Zt : Bs Tryz.prog 140 sd_spec_Snapshot :=
 Av (pat := pa_spec_Snapshot) [co_spec_Snapshot_6] Q0 Pb ⟨Vj, trivial⟩ Tryz.func140 (de := fun x => Kd x.1) (fun x r h => (Zs x.1).trans h) fun _ => by kernel_rfl
def u4 : Sig := ⟨[.rd tI], [none], [.rd .bool], [none]⟩
noncomputable def Q1 (a0 : Int) : Option ((((Bool) × Unit) × (Unit))) :=
 bif decide (a0 ≥ 1) then some ((decide (a0 ≤ 8), ()), ()) else some ((false, ()), ())
noncomputable def sd_spec_l1Width : SD := ⟨u4, fun x => Q1 x.1⟩
theorem Gl : Bs Tryz.prog 69 sd_spec_l1Width :=
 Av (pat := Ck) [] F5 (Ax (l := []) trivial) trivial Tryz.func69 (de := fun x => Q1 x.1) (fun x r h => h) fun _ => by kernel_rfl
def Ac4 : Sig := ⟨[.rd tI], [none], [.rd tI], [none]⟩
noncomputable def Sm (a0 : Int) : Option ((((Int) × Unit) × (Unit))) :=
 some ((IntKind.i64.wrap (IntKind.i64.wrap (64 - a0) - 8), ()), ())
noncomputable def sd_spec_l1Part : SD := ⟨Ac4, fun x => Sm x.1⟩
theorem Sn : Bs Tryz.prog 74 sd_spec_l1Part :=
 Av (pat := Ck) [] F5 (Ax (l := []) trivial) trivial Tryz.func74 (de := fun x => Sm x.1) (fun x r h => h) fun _ => by kernel_rfl
def Et (s : ByteArray) (w : Int) : Option (List ByteArray) := if s.size ≤ 1099511627776 ∧ 1 ≤ w ∧ w ≤ 8 then some (Bu s w) else none
def Fh (v0 : ByteArray) (v6 : Int) (r0 : List ByteArray) : Nat := v0.size + 1
def u6 : Sig := ⟨[.rd .str, .rd tI], [none, none], [.own 9 .str], [none]⟩
noncomputable def sd_spec_l3Parts : SD := ⟨u6, fun x => (Et x.1 x.2.1).bind fun r => some ((r, ()), (()))⟩
noncomputable def ta_spec_l3Parts : Tb := tb [(74, sd_spec_l1Part)]
def pa_spec_l3Parts : Nat → Pat × (Nat → Pat) := Gw [(4, ⟨[.row 5 0 9 .str], [(0, .lf (.d .str)), (5, .lf (.row 0)), (6, .lf (.d tI))], [.row 9 .str]⟩, [(2, ⟨[.row 5 0 9 .str], [(0, .lf (.d .str)), (5, .lf (.row 0))], [.row 9 .str]⟩)])]
noncomputable def co_spec_l3Parts_4 : Code := (An (Bn Tryz.f166)).getD 0 .skip
noncomputable def D2 {R : Type}  (NX : ((ByteArray) × (Int) × (List ByteArray) × Unit) → Option R) (X2 : ((ByteArray) × (List ByteArray) × Unit) → Option R) (v0 : ByteArray) (v6 : Int) (r0 : List ByteArray) : Option R :=
 bif decide (nI v0.size > v6) then bif decide (0 ≤ v6) then bif decide (v6 ≤ nI v0.size) then bif decide ((r0.length + [Cj v0 0 v6].length) * 16 ≤ 140737488355328) then bif decide (0 ≤ v6) then bif decide (v6 ≤ nI v0.size) then NX (Cj v0 v6 (nI v0.size), v6, r0 ++ [Cj v0 0 v6], ()) else none else none else none else none else none else X2 (v0, r0, ())
noncomputable def Cm : Nat → (ByteArray) → (Int) → (List ByteArray) →  Option ((ByteArray) × (List ByteArray) × Unit)
 | 0, _, _, _ => none
 | m + 1, v0, v6, r0 => D2  (fun d => Cm m d.1 d.2.1 d.2.2.1) (fun d => some (d)) v0 v6 r0
noncomputable def Ld (a0 : ByteArray) (a1 : Int) : Option ((((List ByteArray) × Unit) × (Unit))) :=
 ((fun d => Cm (Fh d.1 d.2.1 d.2.2.1) d.1 d.2.1 d.2.2.1) (a0, IntKind.i64.wrap (IntKind.i64.wrap (64 - a1) - 8), [], ())).bind fun val => bif decide ((val.2.1.length + [val.1].length) * 16 ≤ 140737488355328) then some ((val.2.1 ++ [val.1], ()), ()) else none
theorem Ac5 (n : Nat) (hn : 1 ≤ n) (hn2 : n ≤ 64) : ∀ (k m : Nat) (s : ByteArray) (r : List ByteArray), s.size ≤ k → k < m → r.length + s.size ≤ 1099511627777 →
  ∃ q t, Cm m s n r = some (t, q, ()) ∧ q ++ [t] = r ++ Df n k s ∧ q.length + 1 ≤ 1099511627778
 | 0, m + 1, s, r, hs, hm, hr => by
  refine ⟨r, s, ?_, rfl, by omega⟩
  simp only [Cm, D2]
  rw [decide_eq_false (show ¬ (nI s.size > (n : Int)) by simp only [nI]; omega)]
  rfl
 | k + 1, m + 1, s, r, hs, hm, hr => by
  by_cases q : s.size > n
  ·have hc : (Cj s n (nI s.size)).size = s.size - n := by rw [Vb (by omega) (by simp only [nI]; omega) (by simp [nI])]; simp only [nI]; omega
   obtain ⟨q', t', e1, e2, e3⟩ := Ac5 n hn hn2 k m (Cj s n (nI s.size)) (r ++ [Cj s 0 n]) (by omega) (by omega) (by rw [List.length_append, List.length_singleton]; omega)
   refine ⟨q', t', ?_, ?_, e3⟩
   ·simp only [Cm, D2]
    rw [decide_eq_true (show nI s.size > (n : Int) by simp only [nI]; omega), Gk, decide_eq_true (show (n : Int) ≤ nI s.size by simp only [nI]; omega), decide_eq_true (show (r.length + [Cj s 0 n].length) * 16 ≤ 140737488355328 by rw [List.length_singleton]; omega)]
    exact e1
   ·rw [e2, List.append_assoc]
    simp only [Df, if_pos q]
    rfl
  ·refine ⟨r, s, ?_, by simp only [Df, if_neg q], by omega⟩
   simp only [Cm, D2]
   rw [decide_eq_false (show ¬ (nI s.size > (n : Int)) by simp only [nI]; omega)]
   rfl
theorem u7 (a0 : ByteArray) (a1 : Int) r (h : Et a0 a1 = some r) : Ld a0 a1 = some ((r, ()), (())) := by
 unfold Et at h
 split at h
 ·rename_i hc
  cases h
  obtain ⟨h0, h1, h2⟩ := hc
  obtain ⟨n, hn⟩ : ∃ n : Nat, 56 - a1 = (n : Int) := ⟨(56 - a1).toNat, by omega⟩
  unfold Ld Bu
  rw [Ae (n := 64 - a1) (by omega) (by omega), Ae (n := 64 - a1 - 8) (by omega) (by omega), show 64 - a1 - 8 = 56 - a1 by omega, hn, Int.toNat_natCast]
  obtain ⟨q, t, e1, e2, e3⟩ := Ac5 n (by omega) (by omega) a0.size (Fh a0 n []) a0 [] (by omega) (by simp only [Fh]; omega) (by rw [List.length_nil]; omega)
  rw [List.nil_append] at e2
  refine Tu e1 ?_
  show (bif decide ((q.length + [t].length) * 16 ≤ 140737488355328) then some ((q ++ [t], ()), ()) else none) = _
  rw [decide_eq_true (by rw [List.length_singleton]; omega), e2]
  rfl
 ·cases h
noncomputable def Nt {R : Type} (k : Kt R) := (Ln (pa_spec_l3Parts 4) (.exit 0) 2 k)
noncomputable def So {R : Type} : Lt R pa_spec_l3Parts := (Gb (pat := pa_spec_l3Parts) 4 (fun d k => (Cm (Fh d.1 d.2.1 d.2.2.1) d.1 d.2.1 d.2.2.1).bind (Nt k)) F5)
theorem Q2 : At Tryz.prog ta_spec_l3Parts := Ax ⟨Sn, trivial⟩
theorem Xa {R : Type} : Ba Tryz.prog R 27 0 pa_spec_l3Parts So co_spec_l3Parts_4 :=
 Dd (cfg := ⟨ta_spec_l3Parts, 0, 27, pa_spec_l3Parts⟩) 4 [] (fun NX X d => D2  NX X d.1 d.2.1 d.2.2.1) (fun m d => Cm m d.1 d.2.1 d.2.2.1) (fun d => Fh d.1 d.2.1 d.2.2.1) Nt Q2 trivial (fun f NX d => by unfold D2; simp only [Am, Az, Ai, Option.bind_assoc, Option.bind_none, Option.bind_some]) (fun _ _ _ => by kernel_rfl)
theorem Q3 : Bs Tryz.prog 166 sd_spec_l3Parts :=
 Av (pat := pa_spec_l3Parts) [co_spec_l3Parts_4] So Q2 ⟨Xa, trivial⟩ Tryz.func166 (de := fun x => Ld x.1 x.2.1) (fun x r h => Ay (u7 x.1 x.2.1) h) fun _ => by kernel_rfl
def Ja (s : ByteArray) (w : Int) : Option Int := if s.size ≤ 1099511627776 then some (bif Fp w 1 8 then ((Bu s w).length : Int) else 0) else none
def Ael : Sig := ⟨[.rd .str, .rd tI], [none, none], [.rd tI], [none]⟩
noncomputable def sd_spec_Pages : SD := ⟨Ael, fun x => (Ja x.1 x.2.1).bind fun r => some ((r, ()), (()))⟩
noncomputable def Oi (a0 : ByteArray) (a1 : Int) : Option ((((Int) × Unit) × (Unit))) :=
 Option.bind (bif decide (a1 ≥ 1) then some ((decide (a1 ≤ 8), ()), ()) else some ((false, ()), ())) fun val => bif !val.1.1 then some ((0, ()), ()) else ((Et a0 a1).bind fun val => some ((val, ()), ())).bind fun val => some ((nI (List.length val.1.1), ()), ())
theorem Aem (a0 : ByteArray) (a1 : Int) r (h : Ja a0 a1 = some r) : Oi a0 a1 = some ((r, ()), (())) := by
 unfold Ja at h
 split at h
 ·rename_i hc
  cases h
  unfold Oi
  refine Tu (wid a1) ?_
  show (bif !Fp a1 1 8 then _ else _) = _
  cases hw : Fp a1 1 8 with
  | false => rfl
  | true =>
   have n1 : Et a0 a1 = some (Bu a0 a1) := if_pos ⟨hc, Ep hw⟩
   simp only [n1, Option.bind_some, Bool.not_true, cond_false, cond_true]
   try rfl
 ·cases h
theorem Aen : Bs Tryz.prog 141 sd_spec_Pages :=
 Av (pat := Ck) [] F5 (Ax (l := [(69, sd_spec_l1Width), (166, sd_spec_l3Parts)]) ⟨Gl, Q3, trivial⟩) trivial Tryz.func141 (de := fun x => Oi x.1 x.2.1) (fun x r h => Ay (Aem x.1 x.2.1) h) fun _ => by kernel_rfl
def G9 (s : Stt) (w : Int) : Int := Mg s w
def Ah0 : Sig := ⟨[.rd Gi, .rd tI], [some 1, none], [.rd tI], [none]⟩
noncomputable def sd_spec_Room : SD := ⟨Ah0, fun x => some (((G9 x.1 x.2.1), ()), (()))⟩
noncomputable def ta_spec_Room : Tb := tb [(82, sd_spec_FormBatch), (140, sd_spec_Snapshot), (141, sd_spec_Pages)]
def pa_spec_Room : Nat → Pat × (Nat → Pat) := Gw [(5, ⟨[.sl 6 0 (.sl A2)], [(1, .lf (.d tI)), (5, .lf (.d tI)), (6, .lf (.d (.sl (.sl A2)))), (7, .lf (.d tI))], []⟩, [(2, ⟨[], [(5, .lf (.d tI))], []⟩)])]
noncomputable def co_spec_Room_5 : Code := (An (Bn Tryz.f56)).getD 0 .skip
def Eu (v1 : Int) (v5 : Int) (v6 : List (List Chg)) (v7 : Int) : Nat := ((v6.length : Int) - v7).toNat + 1
noncomputable def Ha {R : Type}  (NX : ((Int) × (Int) × (List (List Chg)) × (Int) × Unit) → Option R) (X2 : ((Int) × Unit) → Option R) (v1 : Int) (v5 : Int) (v6 : List (List Chg)) (v7 : Int) : Option R :=
 bif decide (v7 < nI v6.length) then bif decide (0 ≤ v7) then bif decide (v7 < nI v6.length) then ((Ja (Dm (v6.getD v7.toNat [])) v1).bind fun val => some ((val, ()), ())).bind fun val => NX (v1, IntKind.i64.wrap (v5 + val.1.1), v6, IntKind.i64.wrap (v7 + 1), ()) else none else none else X2 (v5, ())
noncomputable def B4 : Nat → (Int) → (Int) → (List (List Chg)) → (Int) →  Option ((Int) × Unit)
 | 0, _, _, _, _ => none
 | m + 1, v1, v5, v6, v7 => Ha  (fun d => B4 m d.1 d.2.1 d.2.2.1 d.2.2.2.1) (fun d => some (d)) v1 v5 v6 v7
noncomputable def Qp (a0 : Stt) (a1 : Int) : Option ((((Int) × Unit) × (Unit))) :=
 ((fun d => B4 (Eu d.1 d.2.1 d.2.2.1 d.2.2.2.1) d.1 d.2.1 d.2.2.1 d.2.2.2.1) (a1, 0, Ia a0, 0, ())).bind fun val => some (val, ())
theorem Ah1 (a0 : Stt) (a1 : Int) : Qp a0 a1 = some (((G9 a0 a1), ()), (())) := by
 unfold Qp G9
 have hl := Agj a0
 have hL := Er (xs := Cy a0) [] Aoe (fun _ b a => a + C2 (F8 b).size a1) (g := fun m i a => B4 m a1 a (Cy a0) i) (ok := fun a => (a, ())) (fun m i a hi hI => by
  show B4 (m + 1) a1 a (Cy a0) i = _
  simp only [B4, Ha]
  rw [Pw hi, Gk, wI (show i < 4611686018427387904 by omega), Int.toNat_natCast]
  have e1 : Ja (Dm (List.getD (Cy a0) i [])) a1 = some (C2 (F8 (List.getD (Cy a0) i [])).size a1) := by
    rw [← Aj1]
    exact if_pos (Nat.le_trans (If _) (by decide))
  rw [e1]
  simp only [cond_true, Option.bind_some]
  rw [Acn hI]) (fun i a hi hI => hI.step (by omega) _ _) (fun m a hI => by
  show B4 (m + 1) a1 a (Cy a0) ((Cy a0).length : Int) = _
  simp only [B4, Ha]
  rw [I6]
  rfl) (Eu a1 0 (Cy a0) 0) 0 0 (by omega) (by simp [Eu, nI]) ⟨by omega, by omega, by omega⟩
 have hL' : B4 (Eu a1 0 (Cy a0) 0) a1 0 (Cy a0) 0 = _ := hL
 show (B4 (Eu a1 0 (Cy a0) 0) a1 0 (Cy a0) 0).bind _ = _
 rw [hL', Zk, List.drop_zero, Aj2, Int.zero_add]
 rfl
noncomputable def Sp {R : Type} (k : Kt R) := (Ln (pa_spec_Room 5) (.exit 0) 2 k)
noncomputable def k9 {R : Type} : Lt R pa_spec_Room := (Gb (pat := pa_spec_Room) 5 (fun d k => (B4 (Eu d.1 d.2.1 d.2.2.1 d.2.2.2.1) d.1 d.2.1 d.2.2.1 d.2.2.2.1).bind (Sp k)) F5)
theorem Xb : At Tryz.prog ta_spec_Room := Ax ⟨Nr, Zt, Aen, trivial⟩
theorem Ac6 {R : Type} : Ba Tryz.prog R 26 0 pa_spec_Room k9 co_spec_Room_5 :=
 Dd (cfg := ⟨ta_spec_Room, 0, 26, pa_spec_Room⟩) 5 [] (fun NX X d => Ha  NX X d.1 d.2.1 d.2.2.1 d.2.2.2.1) (fun m d => B4 m d.1 d.2.1 d.2.2.1 d.2.2.2.1) (fun d => Eu d.1 d.2.1 d.2.2.1 d.2.2.2.1) Sp Xb trivial (fun f NX d => by unfold Ha; simp only [Am, Az, Ai, Option.bind_assoc, Option.bind_none, Option.bind_some]) (fun _ _ _ => by kernel_rfl)
theorem Xc : Bs Tryz.prog 56 sd_spec_Room :=
 Av (pat := pa_spec_Room) [co_spec_Room_5] k9 Xb ⟨Ac6, trivial⟩ Tryz.func56 (de := fun x => Qp x.1 x.2.1) (fun x r h => (Ah1 x.1 x.2.1).trans h) fun _ => by kernel_rfl
def Dw (v lo hi : Int) : Bool := Fp v lo hi
def Ah2 : Sig := ⟨[.rd tI, .rd tI, .rd tI], [none, none, none], [.rd .bool], [none]⟩
noncomputable def sd_spec_l6In : SD := ⟨Ah2, fun x => some (((Dw x.1 x.2.1 x.2.2.1), ()), (()))⟩
noncomputable def Qq (a0 : Int) (a1 : Int) (a2 : Int) : Option ((((Bool) × Unit) × (Unit))) :=
 bif decide (a0 ≥ a1) then some ((decide (a0 ≤ a2), ()), ()) else some ((false, ()), ())
theorem Ah3 (a0 a1 a2 : Int) : Qq a0 a1 a2 = some ((Dw a0 a1 a2, ()), ()) := by
 unfold Qq Dw Fp
 by_cases h : a0 ≥ a1
 ·have : decide (a1 ≤ a0) = true := by simpa using h
  simp [h, this]
 ·have : decide (a1 ≤ a0) = false := by simpa using h
  simp [h, this]
theorem Ah4 : Bs Tryz.prog 71 sd_spec_l6In :=
 Av (pat := Ck) [] F5 (Ax (l := []) trivial) trivial Tryz.func71 (de := fun x => Qq x.1 x.2.1 x.2.2.1) (fun x r h => (Ah3 x.1 x.2.1 x.2.2.1).trans h) fun _ => by kernel_rfl
def G0 (s : Sto) : Bool := D6 s
def Vk : Sig := ⟨[.rd Jz], [some 10], [.rd .bool], [none]⟩
noncomputable def sd_spec_ValidStore : SD := ⟨Vk, fun x => some (((G0 x.1), ()), (()))⟩
noncomputable def Ik (a0 : Sto) : Option ((((Bool) × Unit) × (Unit))) :=
 Option.bind (bif decide (a0.1 ≥ 1) then some ((decide (a0.1 ≤ 8), ()), ()) else some ((false, ()), ())) fun val => bif !val.1.1 then some ((false, ()), ()) else bif B7 a0.2.1 == 0 then some ((false, ()), ()) else bif !Dw a0.2.2.1 1 60000 then some ((false, ()), ()) else bif !Dw a0.2.2.2.1.1 0 1000000000 then some ((false, ()), ()) else bif !Dw a0.2.2.2.1.2.1 0 1 then some ((false, ()), ()) else bif !Dw a0.2.2.2.1.2.2.1 1 999999000 then some ((false, ()), ()) else bif !Dw a0.2.2.2.1.2.2.2.1 0 60000 then some ((false, ()), ()) else bif Dw a0.2.2.2.2.1 0 (B7 a0.2.1) then bif Dw a0.2.2.2.2.2.1 0 a0.2.2.2.2.1 then bif C5 a0.2.2.2.2.2.2.1 then some ((decide (G9 a0.2.2.2.2.2.2.1 a0.1 ≤ IntKind.i64.wrap (B7 a0.2.1 - 1)), ()), ()) else some ((false, ()), ()) else some ((false, ()), ()) else some ((false, ()), ())
theorem Vm (a0 : Sto) : Ik a0 = some (((G0 a0), ()), (())) := by
 unfold Ik G0 D6
 refine Tu (wid a0.1) ?_
 simp only [B7, Dw, C5, G9, Nk, Atl, At5, Aj3]
 simp only [Ace, Bool.and_assoc]
 rw [Bool.and_left_comm]
theorem Vn : Bs Tryz.prog 47 sd_spec_ValidStore :=
 Av (pat := Ck) [] F5 (Ax (l := [(55, sd_spec_Halves), (56, sd_spec_Room), (69, sd_spec_l1Width), (71, sd_spec_l6In), (73, sd_spec_ValidState)]) ⟨Mk, Xc, Gl, Ah4, Ij, trivial⟩) trivial Tryz.func47 (de := fun x => Ik x.1) (fun x r h => (Vm x.1).trans h) fun _ => by kernel_rfl
def Hz (s : Stt) : Option Stt := if s.1.length ≤ 1000000 then some (s.1, ()) else none
def Ac7 : Sig := ⟨[.rd Gi], [some 1], [.own 167 Af], [some 1]⟩
noncomputable def sd_spec_l4Copy : SD := ⟨Ac7, fun x => (Hz x.1).bind fun r => some ((r.1, ()), (()))⟩
noncomputable def Mo (a0 : Stt) : Option ((Stt × (Unit))) :=
 bif decide ((0 + List.length a0.1) * 32 ≤ 140737488355328) then some (([] ++ a0.1, ()), ()) else none
theorem Ac8 (a0 : Stt) r (h : Hz a0 = some r) : Mo a0 = some ((r.1, ()), (())) := by
 unfold Hz at h
 split at h
 ·rename_i hc
  cases h
  unfold Mo
  rw [decide_eq_true (show (0 + a0.1.length) * 32 ≤ 140737488355328 by omega)]
  rfl
 ·cases h
theorem Ac9 : Bs Tryz.prog 127 sd_spec_l4Copy :=
 Av (pat := Ck) [] F5 (Ax (l := []) trivial) trivial Tryz.func127 (de := fun x => Mo x.1) (fun x r h => Ay (Ac8 x.1) h) fun _ => by kernel_rfl
def Gm (s : Stt) (c : Chg) : Option Stt := if s.1.length ≤ 1000000 then some (Acu c s.1, ()) else none
def Zu : Sig := ⟨[.rd Gi, .rd A2], [some 1, some 3], [.own 167 Af], [some 1]⟩
noncomputable def sd_spec_l4Change : SD := ⟨Zu, fun x => (Gm x.1 x.2.1).bind fun r => some ((r.1, ()), (()))⟩
noncomputable def ta_spec_l4Change : Tb := tb []
def pa_spec_l4Change : Nat → Pat × (Nat → Pat) := Gw [(5, ⟨[.boxSl 2 0 Af, .boxRow 4 0 167 Af, .boxRow 5 0 167 Af], [(2, .lf (.ptr 0 0)), (3, .lf (.ptr 1 0)), (4, .lf (.ptr 2 0)), (5, .lf (.ptr 3 0)), (6, .lf (.d .bool)), (7, .lf (.d tI))], [.box 31 [.d (.sl Af)], .box 131 [.d .str, .d .str, .d .bool], .box 31 [.row 4], .box 31 [.row 5], .row 167 Af, .row 167 Af]⟩, [(2, ⟨[.boxRow 4 0 167 Af, .boxRow 5 0 167 Af], [(3, .lf (.ptr 0 0)), (4, .lf (.ptr 1 0)), (5, .lf (.ptr 2 0)), (6, .lf (.d .bool))], [.box 131 [.d .str, .d .str, .d .bool], .box 31 [.row 3], .box 31 [.row 4], .row 167 Af, .row 167 Af]⟩)])]
noncomputable def co_spec_l4Change_5 : Code := (An (Bn Tryz.f165)).getD 0 .skip
def Ev (v6 : Bool) (v7 : Int) (b0_0 : List Pr2) (b1_0 : ByteArray) (b1_1 : ByteArray) (b1_2 : Bool) (r4 : List Pr2) (r5 : List Pr2) : Nat := ((b0_0.length : Int) - v7).toNat + 1
noncomputable def Ew {R : Type}  (NX : ((Bool) × (Int) × (List Pr2) × (ByteArray) × (ByteArray) × (Bool) × (List Pr2) × (List Pr2) × Unit) → Option R) (X2 : ((Bool) × (ByteArray) × (ByteArray) × (Bool) × (List Pr2) × (List Pr2) × Unit) → Option R) (v6 : Bool) (v7 : Int) (b0_0 : List Pr2) (b1_0 : ByteArray) (b1_1 : ByteArray) (b1_2 : Bool) (r4 : List Pr2) (r5 : List Pr2) : Option R :=
 bif decide (v7 < nI b0_0.length) then bif !v6 then bif decide (0 ≤ v7) then bif decide (v7 < nI b0_0.length) then bif !(Op.bytesLess (ByteArray.toList (b0_0.getD v7.toNat (ByteArray.mk #[], ByteArray.mk #[], ())).1) b1_0.toList || ByteArray.toList (b0_0.getD v7.toNat (ByteArray.mk #[], ByteArray.mk #[], ())).1 == b1_0.toList) then bif decide ((r5.length + [(b1_0, b1_1, ())].length) * 32 ≤ 140737488355328) then bif decide (0 ≤ v7) then bif decide (v7 < nI b0_0.length) then bif !ByteArray.toList (b0_0.getD v7.toNat (ByteArray.mk #[], ByteArray.mk #[], ())).1 == b1_0.toList then bif decide (0 ≤ v7) then bif decide (v7 < nI b0_0.length) then bif decide (((r5 ++ [(b1_0, b1_1, ())]).length + [b0_0.getD v7.toNat (ByteArray.mk #[], ByteArray.mk #[], ())].length) * 32 ≤ 140737488355328) then NX (true, IntKind.i64.wrap (v7 + 1), b0_0, b1_0, b1_1, b1_2, r4, r5 ++ [(b1_0, b1_1, ())] ++ [b0_0.getD v7.toNat (ByteArray.mk #[], ByteArray.mk #[], ())], ()) else none else none else none else NX (true, IntKind.i64.wrap (v7 + 1), b0_0, b1_0, b1_1, b1_2, r4, r5 ++ [(b1_0, b1_1, ())], ()) else none else none else none else bif decide (0 ≤ v7) then bif decide (v7 < nI b0_0.length) then bif !ByteArray.toList (b0_0.getD v7.toNat (ByteArray.mk #[], ByteArray.mk #[], ())).1 == b1_0.toList then bif decide (0 ≤ v7) then bif decide (v7 < nI b0_0.length) then bif decide ((r5.length + [b0_0.getD v7.toNat (ByteArray.mk #[], ByteArray.mk #[], ())].length) * 32 ≤ 140737488355328) then NX (v6, IntKind.i64.wrap (v7 + 1), b0_0, b1_0, b1_1, b1_2, r4, r5 ++ [b0_0.getD v7.toNat (ByteArray.mk #[], ByteArray.mk #[], ())], ()) else none else none else none else NX (v6, IntKind.i64.wrap (v7 + 1), b0_0, b1_0, b1_1, b1_2, r4, r5, ()) else none else none else none else none else bif decide (0 ≤ v7) then bif decide (v7 < nI b0_0.length) then bif !ByteArray.toList (b0_0.getD v7.toNat (ByteArray.mk #[], ByteArray.mk #[], ())).1 == b1_0.toList then bif decide (0 ≤ v7) then bif decide (v7 < nI b0_0.length) then bif decide ((r5.length + [b0_0.getD v7.toNat (ByteArray.mk #[], ByteArray.mk #[], ())].length) * 32 ≤ 140737488355328) then NX (v6, IntKind.i64.wrap (v7 + 1), b0_0, b1_0, b1_1, b1_2, r4, r5 ++ [b0_0.getD v7.toNat (ByteArray.mk #[], ByteArray.mk #[], ())], ()) else none else none else none else NX (v6, IntKind.i64.wrap (v7 + 1), b0_0, b1_0, b1_1, b1_2, r4, r5, ()) else none else none else X2 (v6, b1_0, b1_1, b1_2, r4, r5, ())
noncomputable def Bv : Nat → (Bool) → (Int) → (List Pr2) → (ByteArray) → (ByteArray) → (Bool) → (List Pr2) → (List Pr2) →  Option ((Bool) × (ByteArray) × (ByteArray) × (Bool) × (List Pr2) × (List Pr2) × Unit)
 | 0, _, _, _, _, _, _, _, _ => none
 | m + 1, v6, v7, b0_0, b1_0, b1_1, b1_2, r4, r5 => Ew  (fun d => Bv m d.1 d.2.1 d.2.2.1 d.2.2.2.1 d.2.2.2.2.1 d.2.2.2.2.2.1 d.2.2.2.2.2.2.1 d.2.2.2.2.2.2.2.1) (fun d => some (d)) v6 v7 b0_0 b1_0 b1_1 b1_2 r4 r5
noncomputable def Ke (a0 : Stt) (a1 : Chg) : Option ((Stt × (Unit))) :=
 ((fun d => Bv (Ev d.1 d.2.1 d.2.2.1 d.2.2.2.1 d.2.2.2.2.1 d.2.2.2.2.2.1 d.2.2.2.2.2.2.1 d.2.2.2.2.2.2.2.1) d.1 d.2.1 d.2.2.1 d.2.2.2.1 d.2.2.2.2.1 d.2.2.2.2.2.1 d.2.2.2.2.2.2.1 d.2.2.2.2.2.2.2.1) (a1.2.2.1, 0, a0.1, a1.1, a1.2.1, a1.2.2.1, [], [], ())).bind fun val => bif !val.1 then bif decide ((val.2.2.2.2.2.1.length + [(val.2.1, val.2.2.1, ())].length) * 32 ≤ 140737488355328) then some ((val.2.2.2.2.2.1 ++ [(val.2.1, val.2.2.1, ())], ()), ()) else none else some (val.2.2.2.2.2, ())
theorem Zv (a0 : Stt) (a1 : Chg) r (h : Gm a0 a1 = some r) : Ke a0 a1 = some ((r.1, ()), (())) := by
 unfold Gm at h
 split at h
 rotate_left
 ·cases h
 rename_i hlen
 cases h
 unfold Ke
 have hL := Er (xs := a0.1) zP (fun i (s : Bool × List Pr2) => i ≤ 1000000 ∧ s.2.length ≤ 2 * i) (fun _ p s => Mh a1.1 a1.2.1 p s) (g := fun m i s => Bv m s.1 i a0.1 a1.1 a1.2.1 a1.2.2.1 [] s.2) (ok := fun s => (s.1, a1.1, a1.2.1, a1.2.2.1, [], s.2, ())) (fun m i s hi hI => by
   show Bv (m + 1) s.1 i a0.1 a1.1 a1.2.1 a1.2.2.1 [] s.2 = _
   obtain ⟨d, out⟩ := s
   obtain ⟨h1, h2⟩ := hI
   simp only at h2 ⊢
   simp only [Bv, Ew]
   have e1 : decide ((out.length + 1) * 32 ≤ 140737488355328) = true := decide_eq_true (by omega)
   have e2 : decide ((out.length + 1 + 1) * 32 ≤ 140737488355328) = true := decide_eq_true (by omega)
   rw [Pw hi, Gk, wI (show i < 4611686018427387904 by omega), Int.toNat_natCast]
   simp only [cond_true, List.length_singleton, List.length_append, e1, e2]
   unfold Mh gtS bl
   show (bif !d then (bif !(Op.bytesLess (List.getD a0.1 i zP).1.toList a1.1.toList || (List.getD a0.1 i zP).1.toList == a1.1.toList) then _ else _) else _) = _
   cases d with
   | true =>
    simp only [Bool.not_true, Bool.false_and, cond_false]
    show (bif !((List.getD a0.1 i zP).1.toList == a1.1.toList) then _ else _) = _
    cases ((List.getD a0.1 i zP).1.toList == a1.1.toList) <;> rfl
   | false =>
    simp only [Bool.not_false, Bool.true_and, cond_true]
    cases hq : !(Op.bytesLess (List.getD a0.1 i zP).1.toList a1.1.toList || (List.getD a0.1 i zP).1.toList == a1.1.toList) with
    | true =>
     simp only [cond_true]
     show (bif !((List.getD a0.1 i zP).1.toList == a1.1.toList) then _ else _) = _
     cases ((List.getD a0.1 i zP).1.toList == a1.1.toList) <;> rfl
    | false =>
     simp only [cond_false]
     show (bif !((List.getD a0.1 i zP).1.toList == a1.1.toList) then _ else _) = _
     cases ((List.getD a0.1 i zP).1.toList == a1.1.toList) <;> rfl) (fun i s hi hI => ⟨by omega, by have := Acx a1.1 a1.2.1 (a0.1.getD i zP) s; omega⟩) (fun m s hI => by
   show Bv (m + 1) s.1 (a0.1.length : Int) a0.1 a1.1 a1.2.1 a1.2.2.1 [] s.2 = _
   simp only [Bv, Ew]
   rw [I6]
   rfl) (Ev a1.2.2.1 0 a0.1 a1.1 a1.2.1 a1.2.2.1 [] []) 0 (a1.2.2.1, []) (by omega) (by simp [Ev, nI]) ⟨by omega, Nat.le_refl _⟩
 have hE := Ang a1.1 a1.2.1 a0.1 0 (a1.2.2.1, [])
 have hB : (Fw (fun _ p s => Mh a1.1 a1.2.1 p s) 0 a0.1 (a1.2.2.1, [])).2.length ≤ 2 * a0.1.length := by
  have := Zj zP (fun i (s : Bool × List Pr2) => s.2.length ≤ 2 * i) (fun _ p s => Mh a1.1 a1.2.1 p s) (xs := a0.1) (fun i s hi hI => by have := Acx a1.1 a1.2.1 (a0.1.getD i zP) s; omega) a0.1.length 0 (a1.2.2.1, []) (by omega) (Nat.le_refl _)
  exact this
 rw [List.drop_zero] at hL
 refine Zl hL ?_
 dsimp only
 generalize Fw (fun _ p s => Mh a1.1 a1.2.1 p s) 0 a0.1 (a1.2.2.1, []) = q at hE hB
 obtain ⟨d, out⟩ := q
 simp only at hB
 simp only [List.nil_append] at hE
 show _ = some ((Ix a1.1 a1.2.1 a1.2.2.1 a0.1, ()), ())
 rw [← hE]
 unfold Aj7
 have e1 : decide ((out.length + 1) * 32 ≤ 140737488355328) = true := decide_eq_true (by omega)
 cases d with
 | true => rfl
 | false =>
  simp only [Bool.not_false, cond_true, cond_false, List.length_singleton, e1]
noncomputable def Mq {R : Type} (k : Kt R) := (Ln (pa_spec_l4Change 5) (.exit 0) 2 k)
noncomputable def Q4 {R : Type} : Lt R pa_spec_l4Change := (Gb (pat := pa_spec_l4Change) 5 (fun d k => (Bv (Ev d.1 d.2.1 d.2.2.1 d.2.2.2.1 d.2.2.2.2.1 d.2.2.2.2.2.1 d.2.2.2.2.2.2.1 d.2.2.2.2.2.2.2.1) d.1 d.2.1 d.2.2.1 d.2.2.2.1 d.2.2.2.2.1 d.2.2.2.2.2.1 d.2.2.2.2.2.2.1 d.2.2.2.2.2.2.2.1).bind (Mq k)) F5)
theorem Pc : At Tryz.prog ta_spec_l4Change := Ax trivial
theorem Vo {R : Type} : Ba Tryz.prog R 73 0 pa_spec_l4Change Q4 co_spec_l4Change_5 :=
 Dd (cfg := ⟨ta_spec_l4Change, 0, 73, pa_spec_l4Change⟩) 5 [] (fun NX X d => Ew  NX X d.1 d.2.1 d.2.2.1 d.2.2.2.1 d.2.2.2.2.1 d.2.2.2.2.2.1 d.2.2.2.2.2.2.1 d.2.2.2.2.2.2.2.1) (fun m d => Bv m d.1 d.2.1 d.2.2.1 d.2.2.2.1 d.2.2.2.2.1 d.2.2.2.2.2.1 d.2.2.2.2.2.2.1 d.2.2.2.2.2.2.2.1) (fun d => Ev d.1 d.2.1 d.2.2.1 d.2.2.2.1 d.2.2.2.2.1 d.2.2.2.2.2.1 d.2.2.2.2.2.2.1 d.2.2.2.2.2.2.2.1) Mq Pc trivial (fun f NX d => by unfold Ew; simp only [Am, Az, Ai, Option.bind_assoc, Option.bind_none, Option.bind_some]) (fun _ _ _ => by kernel_rfl)
theorem Zw : Bs Tryz.prog 165 sd_spec_l4Change :=
 Av (pat := pa_spec_l4Change) [co_spec_l4Change_5] Q4 Pc ⟨Vo, trivial⟩ Tryz.func165 (de := fun x => Ke x.1 x.2.1) (fun x r h => Ay (Zv x.1 x.2.1) h) fun _ => by kernel_rfl
def Ek (s : Stt) (b : List Chg) : Stt × Int := D7 s b
def Aeo : Sig := ⟨[.rd Gi, .rd (.sl A2)], [some 1, none], [.own 167 Af, .rd tI], [some 1, none]⟩
noncomputable def sd_spec_Apply : SD := ⟨Aeo, fun x => some (((Ek x.1 x.2.1).1.1, (Ek x.1 x.2.1).2, ()), (()))⟩
noncomputable def ta_spec_Apply : Tb := tb [(73, sd_spec_ValidState), (79, sd_spec_ValidBatch), (127, sd_spec_l4Copy), (165, sd_spec_l4Change)]
def pa_spec_Apply : Nat → Pat × (Nat → Pat) := Gw [(6, ⟨[.sl 1 0 A2, .boxRow 4 0 167 Af, .boxRow 6 0 167 Af], [(1, .lf (.d (.sl A2))), (4, .lf (.ptr 0 0)), (6, .lf (.ptr 1 0)), (7, .lf (.d tI))], [.box 31 [.row 2], .box 31 [.row 3], .row 167 Af, .row 167 Af]⟩, [(2, ⟨[.boxRow 4 0 167 Af, .boxRow 6 0 167 Af], [(4, .lf (.ptr 0 0)), (6, .lf (.ptr 1 0))], [.box 31 [.row 2], .box 31 [.row 3], .row 167 Af, .row 167 Af]⟩)])]
noncomputable def co_spec_Apply_6 : Code := (An (Bn Tryz.f80)).getD 0 .skip
def Fc (v1 : List Chg) (v7 : Int) (r2 : List Pr2) (r3 : List Pr2) : Nat := ((v1.length : Int) - v7).toNat + 1
noncomputable def Gn {R : Type}  (NX : ((List Chg) × (Int) × (List Pr2) × (List Pr2) × Unit) → Option R) (X2 : ((List Pr2) × (List Pr2) × Unit) → Option R) (v1 : List Chg) (v7 : Int) (r2 : List Pr2) (r3 : List Pr2) : Option R :=
 bif decide (v7 < nI v1.length) then bif decide (0 ≤ v7) then bif decide (v7 < nI v1.length) then ((Gm (r3, ()) (v1.getD v7.toNat (ByteArray.mk #[], ByteArray.mk #[], false, ()))).bind fun val => some (val, ())).bind fun val => NX (v1, IntKind.i64.wrap (v7 + 1), r2, val.1) else none else none else X2 (r2, r3, ())
noncomputable def B8 : Nat → (List Chg) → (Int) → (List Pr2) → (List Pr2) →  Option ((List Pr2) × (List Pr2) × Unit)
 | 0, _, _, _, _ => none
 | m + 1, v1, v7, r2, r3 => Gn  (fun d => B8 m d.1 d.2.1 d.2.2.1 d.2.2.2.1) (fun d => some (d)) v1 v7 r2 r3
noncomputable def Oj (a0 : Stt) (a1 : List Chg) : Option ((((List Pr2) × (Int) × Unit) × (Unit))) :=
 bif !C5 a0 then some (([], 1, ()), ()) else bif !D1 a1 then some (([], 1, ()), ()) else ((Hz a0).bind fun val => some (val, ())).bind fun val => ((fun d => B8 (Fc d.1 d.2.1 d.2.2.1 d.2.2.2.1) d.1 d.2.1 d.2.2.1 d.2.2.2.1) (a1, 0, [], val.1)).bind fun val => bif decide (nI val.2.1.length > 100) then some (([], 2, ()), ()) else some ((val.2.1, 0, ()), ())
theorem Ah5 (b : List Chg) (xs : List Pr2) (hb : b.length ≤ 20) (hx : xs.length ≤ 100) : B8 (Fc b 0 [] xs) b 0 [] xs = some ([], H8 xs b, ()) := by
 have hL := Er (xs := b) zC (fun i (l : List Pr2) => i ≤ 20 ∧ l.length ≤ 100 + i) (fun _ c l => Acu c l) (g := fun m i l => B8 m b i [] l) (ok := fun l => ([], l, ())) (fun m i l hi hI => by
   show B8 (m + 1) b i [] l = _
   simp only [B8, Gn]
   rw [Pw hi, Gk, wI (show i < 4611686018427387904 by omega), Int.toNat_natCast]
   simp only [cond_true]
   have e1 : Gm (l, ()) ((List.getD b i zC).1, (List.getD b i zC).2.1, (List.getD b i zC).2.2.1, ()) = some (Acu (List.getD b i zC) l, ()) := if_pos (by show l.length ≤ 1000000; omega)
   refine (congrArg (fun y => Option.bind (Option.bind y _) _) e1).trans ?_
   rfl) (fun i l hi hI => ⟨by omega, by have := Arr (b.getD i zC) l; omega⟩) (fun m l hI => by
   show B8 (m + 1) b (b.length : Int) [] l = _
   simp only [B8, Gn]
   rw [I6]
   rfl) (Fc b 0 [] xs) 0 xs (by omega) (by simp [Fc, nI]) ⟨by omega, by omega⟩
 rw [List.drop_zero] at hL
 exact hL
theorem Aep (a0 : Stt) (a1 : List Chg) : Oj a0 a1 = some (((Ek a0 a1).1.1, (Ek a0 a1).2, ()), (())) := by
 unfold Oj Ek D7
 show (bif !A3 a0 then _ else bif !A4 a1 then _ else _) = _
 cases hv : A3 a0 with
 | false => rfl
 | true =>
  cases hb : A4 a1 with
  | false => rfl
  | true =>
   simp only [Bool.not_true, cond_false]
   have hl := Fy hv
   have hb2 := Ep (Cq hb).1
   have e1 : Hz (a0.1, ()) = some (a0.1, ()) := if_pos (Nat.le_trans hl (by decide))
   rw [e1]
   simp only [Option.bind_some]
   refine Zl (Ah5 a1 a0.1 (by omega) hl) ?_
   dsimp only
   by_cases q : (H8 a0.1 a1).length > 100
   ·rw [decide_eq_true (show nI (H8 a0.1 a1).length > 100 by simp only [nI]; omega), decide_eq_true q]
    rfl
   ·rw [decide_eq_false (show ¬ nI (H8 a0.1 a1).length > 100 by simp only [nI]; omega), decide_eq_false q]
    rfl
noncomputable def Q5 {R : Type} (k : Kt R) := (Ln (pa_spec_Apply 6) (.exit 0) 2 k)
noncomputable def Xd {R : Type} : Lt R pa_spec_Apply := (Gb (pat := pa_spec_Apply) 6 (fun d k => (B8 (Fc d.1 d.2.1 d.2.2.1 d.2.2.2.1) d.1 d.2.1 d.2.2.1 d.2.2.2.1).bind (Q5 k)) F5)
theorem Uf : At Tryz.prog ta_spec_Apply := Ax ⟨Ij, Ih, Ac9, Zw, trivial⟩
theorem w5 {R : Type} : Ba Tryz.prog R 37 0 pa_spec_Apply Xd co_spec_Apply_6 :=
 Dd (cfg := ⟨ta_spec_Apply, 0, 37, pa_spec_Apply⟩) 6 [] (fun NX X d => Gn  NX X d.1 d.2.1 d.2.2.1 d.2.2.2.1) (fun m d => B8 m d.1 d.2.1 d.2.2.1 d.2.2.2.1) (fun d => Fc d.1 d.2.1 d.2.2.1 d.2.2.2.1) Q5 Uf trivial (fun f NX d => by unfold Gn; simp only [Am, Az, Ai, Option.bind_assoc, Option.bind_none, Option.bind_some]) (fun _ _ _ => by kernel_rfl)
theorem Aeq : Bs Tryz.prog 80 sd_spec_Apply :=
 Av (pat := pa_spec_Apply) [co_spec_Apply_6] Xd Uf ⟨w5, trivial⟩ Tryz.func80 (de := fun x => Oj x.1 x.2.1) (fun x r h => (Aep x.1 x.2.1).trans h) fun _ => by kernel_rfl
def Nu (p : Pg) (w : Int) : Bool := I5 p w
def Ah6 : Sig := ⟨[.rd yPg, .rd tI], [some 4, none], [.rd .bool], [none]⟩
noncomputable def sd_spec_l1Ok : SD := ⟨Ah6, fun x => some (((Nu x.1 x.2.1), ()), (()))⟩
noncomputable def Qr (a0 : Pg) (a1 : Int) : Option ((((Bool) × Unit) × (Unit))) :=
 Option.bind (bif decide (a1 ≥ 1) then some ((decide (a1 ≤ 8), ()), ()) else some ((false, ()), ())) fun val => bif !val.1.1 then some ((false, ()), ()) else bif decide (a0.1 < 1) then some ((false, ()), ()) else bif decide (a0.1 > 4) then some ((false, ()), ()) else bif decide (a0.2.1 < 1) then some ((false, ()), ()) else bif decide (a0.2.1 > 60000) then some ((false, ()), ()) else bif decide (a0.2.2.1 < 1) then some ((false, ()), ()) else bif decide (a0.2.2.1 > 1000000000) then some ((false, ()), ()) else bif decide (nI (ByteArray.size a0.2.2.2.1) ≤ IntKind.i64.wrap (IntKind.i64.wrap (64 - a1) - 8)) then bif a0.1 != 3 then some ((true, ()), ()) else some ((ByteArray.toList a0.2.2.2.1 == (ByteArray.mk #[]).toList, ()), ()) else some ((false, ()), ())
theorem Ah7 (a0 : Pg) (a1 : Int) : Qr a0 a1 = some (((Nu a0 a1), ()), (())) := by
 unfold Qr Nu I5
 have tl : ByteArray.toList (ByteArray.mk #[]) = [] := by decide +kernel
 rw [tl]
 refine Tu (wid a1) ?_
 show (bif !Fp a1 1 8 then _ else _) = _
 cases hw : Fp a1 1 8 with
 | false => rfl
 | true =>
  have k1 := of_decide_eq_true (Cq hw).1
  have k2 := of_decide_eq_true (Cq hw).2
  rw [Ae (n := 64 - a1) (by omega) (by omega), Ae (by omega) (by omega), show 64 - a1 - 8 = 56 - a1 by omega]
  have e : ∀ (x lo hi : Int) {ρ : Type} (f t : ρ), (bif decide (x < lo) then f else bif decide (x > hi) then f else t) = bif Fp x lo hi then t else f := by
   intro x lo hi ρ f t
   unfold Fp
   by_cases h1 : x < lo
   ·rw [decide_eq_true h1, decide_eq_false (show ¬ lo ≤ x by omega)]; rfl
   ·rw [decide_eq_false h1, decide_eq_true (show lo ≤ x by omega)]
    by_cases h2 : x > hi
    ·rw [decide_eq_true h2, decide_eq_false (show ¬ x ≤ hi by omega)]; rfl
    ·rw [decide_eq_false h2, decide_eq_true (show x ≤ hi by omega)]; rfl
  rw [e a0.1, e a0.2.1, e a0.2.2.1]
  cases Fp a0.1 1 4 <;> cases Fp a0.2.1 1 60000 <;> cases Fp a0.2.2.1 1 1000000000 <;> try rfl
  show (bif decide ((ByteArray.size a0.2.2.2.1 : Int) ≤ 56 - a1) then _ else _) = _
  cases decide ((ByteArray.size a0.2.2.2.1 : Int) ≤ 56 - a1) <;> cases (a0.1 != 3) <;> rfl
theorem Ah8 : Bs Tryz.prog 161 sd_spec_l1Ok :=
 Av (pat := Ck) [] F5 (Ax (l := [(69, sd_spec_l1Width), (74, sd_spec_l1Part)]) ⟨Gl, Sn, trivial⟩) trivial Tryz.func161 (de := fun x => Qr x.1 x.2.1) (fun x r h => (Ah7 x.1 x.2.1).trans h) fun _ => by kernel_rfl
theorem Pd : ∃ f : Int → Int → Option ByteArray, f = fun v n => if 0 ≤ v ∧ v < 9223372036854775808 ∧ 0 ≤ n ∧ n ≤ 1000 then some (Cl v n.toNat) else none := ⟨_, rfl⟩
noncomputable def Bp (v n : Int) : Option ByteArray := Classical.choose Pd v n
theorem Fz (v n : Int) : Bp v n = if 0 ≤ v ∧ v < 9223372036854775808 ∧ 0 ≤ n ∧ n ≤ 1000 then some (Cl v n.toNat) else none := by
 unfold Bp
 rw [Classical.choose_spec Pd]
def Ey (v0 v1 : Int) (v5 : ByteArray) (v6 : Int) : Nat := (v1 - v6).toNat + 1
def Zx : Sig := ⟨[.rd tI, .rd tI], [none, none], [.rd .str], [none]⟩
noncomputable def sd_spec_l1Number : SD := ⟨Zx, fun x => (Bp x.1 x.2.1).bind fun r => some ((r, ()), (()))⟩
noncomputable def ta_spec_l1Number : Tb := tb []
def pa_spec_l1Number : Nat → Pat × (Nat → Pat) := Gw [(4, ⟨[], [(0, .lf (.d tI)), (1, .lf (.d tI)), (5, .lf (.d .str)), (6, .lf (.d tI))], []⟩, [(2, ⟨[], [(5, .lf (.d .str))], []⟩)])]
noncomputable def co_spec_l1Number_4 : Code := (An (Bn Tryz.f162)).getD 0 .skip
noncomputable def Ez {R : Type}  (NX : ((Int) × (Int) × (ByteArray) × (Int) × Unit) → Option R) (X2 : ((ByteArray) × Unit) → Option R) (v0 : Int) (v1 : Int) (v5 : ByteArray) (v6 : Int) : Option R :=
 bif decide (v6 < v1) then bif decide ((strOfNums [IntKind.u8.wrap (v0.tmod 256)]).size + v5.size ≤ 9223372036854775807) then NX (IntKind.i64.wrap (v0.tdiv 256), v1, strOfNums [IntKind.u8.wrap (v0.tmod 256)] ++ v5, IntKind.i64.wrap (v6 + 1), ()) else none else X2 (v5, ())
noncomputable def Cs : Nat → (Int) → (Int) → (ByteArray) → (Int) →  Option ((ByteArray) × Unit)
 | 0, _, _, _, _ => none
 | m + 1, v0, v1, v5, v6 => Ez  (fun d => Cs m d.1 d.2.1 d.2.2.1 d.2.2.2.1) (fun d => some (d)) v0 v1 v5 v6
noncomputable def Kf (a0 : Int) (a1 : Int) : Option ((((ByteArray) × Unit) × (Unit))) :=
 ((fun d => Cs (Ey d.1 d.2.1 d.2.2.1 d.2.2.2.1) d.1 d.2.1 d.2.2.1 d.2.2.2.1) (a0, a1, ByteArray.mk #[], 0, ())).bind fun val => some (val, ())
theorem Ug : ∀ (k m i : Nat) (v : Int) (out : ByteArray), i + k ≤ 1000 → k < m → out.size = i → 0 ≤ v → v < 9223372036854775808 → Cs m v ((i + k : Nat) : Int) out i = some (Cl v k ++ out, ())
 | 0, m + 1, i, v, out, hi, hm, ho, h0, h1 => by
  simp only [Cs, Ez]
  rw [decide_eq_false (by omega), Aju]
  rfl
 | k + 1, m + 1, i, v, out, hi, hm, ho, h0, h1 => by
  simp only [Cs, Ez]
  have e1 : IntKind.wrap IntKind.u8 (Int.tmod v 256) = v % 256 := by
   rw [Int.tmod_eq_emod_of_nonneg h0]
   show v % 256 % 256 = v % 256
   omega
  have e2 : IntKind.i64.wrap (Int.tdiv v 256) = v / 256 := by
   rw [Int.tdiv_eq_ediv_of_nonneg h0]
   exact Ae (by omega) (by omega)
  rw [decide_eq_true (show (i : Int) < ((i + (k + 1) : Nat) : Int) by omega), e1, e2, decide_eq_true (show ByteArray.size (strOfNums [v % 256]) + ByteArray.size out ≤ 9223372036854775807 by rw [ho, C3]; simp; omega), wI (show i < 4611686018427387904 by omega)]
  have hL := Ug k m (i + 1) (v / 256) (strOfNums [v % 256] ++ out) (by omega) (by omega) (by rw [ByteArray.size_append, ho, C3]; simp; omega) (by omega) (by omega)
  rw [show i + 1 + k = i + (k + 1) by omega] at hL
  refine hL.trans ?_
  rw [← ByteArray.append_assoc, ← Ajv]
theorem Zy (a0 : Int) (a1 : Int) r (h : Bp a0 a1 = some r) : Kf a0 a1 = some ((r, ()), (())) := by
 rw [Fz] at h
 split at h
 ·rename_i hc
  cases h
  obtain ⟨n, rfl⟩ : ∃ n : Nat, a1 = (n : Int) := ⟨a1.toNat, by omega⟩
  unfold Kf
  have hL := Ug n (Ey a0 n (ByteArray.mk #[]) 0) 0 a0 (ByteArray.mk #[]) (by omega) (by simp only [Ey]; omega) rfl hc.1 hc.2.1
  rw [Nat.zero_add] at hL
  rw [Ap9] at hL
  exact Tu hL rfl
 ·cases h
noncomputable def Mr {R : Type} (k : Kt R) := (Ln (pa_spec_l1Number 4) (.exit 0) 2 k)
noncomputable def Q6 {R : Type} : Lt R pa_spec_l1Number := (Gb (pat := pa_spec_l1Number) 4 (fun d k => (Cs (Ey d.1 d.2.1 d.2.2.1 d.2.2.2.1) d.1 d.2.1 d.2.2.1 d.2.2.2.1).bind (Mr k)) F5)
theorem Pf : At Tryz.prog ta_spec_l1Number := Ax trivial
theorem Vp {R : Type} : Ba Tryz.prog R 22 0 pa_spec_l1Number Q6 co_spec_l1Number_4 :=
 Dd (cfg := ⟨ta_spec_l1Number, 0, 22, pa_spec_l1Number⟩) 4 [] (fun NX X d => Ez  NX X d.1 d.2.1 d.2.2.1 d.2.2.2.1) (fun m d => Cs m d.1 d.2.1 d.2.2.1 d.2.2.2.1) (fun d => Ey d.1 d.2.1 d.2.2.1 d.2.2.2.1) Mr Pf trivial (fun f NX d => by unfold Ez; simp only [Am, Az, Ai, Option.bind_assoc, Option.bind_none, Option.bind_some]) (fun _ _ _ => by kernel_rfl)
theorem Zz : Bs Tryz.prog 162 sd_spec_l1Number :=
 Av (pat := pa_spec_l1Number) [co_spec_l1Number_4] Q6 Pf ⟨Vp, trivial⟩ Tryz.func162 (de := fun x => Kf x.1 x.2.1) (fun x r h => Ay (Zy x.1 x.2.1) h) fun _ => by kernel_rfl
def Ms (s : ByteArray) (w : Int) : Option ByteArray := if s.size < 4611686018427387904 then some (Wz s w) else none
def H0 (v0 : ByteArray) (v1 v5 v6 : Int) : Nat := (nI v0.size - v6).toNat + 1
def Hb (v1 v5 : Int) (v7 : ByteArray) (v8 : Int) : Nat := (v1 - v8).toNat + 1
def Akd : Sig := ⟨[.rd .str, .rd tI], [none, none], [.rd .str], [none]⟩
noncomputable def sd_spec_Sum : SD := ⟨Akd, fun x => (Ms x.1 x.2.1).bind fun r => some ((r, ()), (()))⟩
noncomputable def ta_spec_Sum : Tb := tb [(69, sd_spec_l1Width)]
def pa_spec_Sum : Nat → Pat × (Nat → Pat) := Gw [(6, ⟨[], [(0, .lf (.d .str)), (1, .lf (.d tI)), (5, .lf (.d (.int .u64))), (6, .lf (.d tI))], []⟩, [(2, ⟨[], [(1, .lf (.d tI)), (5, .lf (.d (.int .u64)))], []⟩)]), (11, ⟨[], [(1, .lf (.d tI)), (5, .lf (.d (.int .u64))), (7, .lf (.d .str)), (8, .lf (.d tI))], []⟩, [(4, ⟨[], [(7, .lf (.d .str))], []⟩)])]
noncomputable def co_spec_Sum_6 : Code := (An (Bn Tryz.f163)).getD 0 .skip
noncomputable def co_spec_Sum_11 : Code := (An (Bn Tryz.f163)).getD 1 .skip
noncomputable def Hc {R : Type}  (NX : ((Int) × (Int) × (ByteArray) × (Int) × Unit) → Option R) (X4 : ((ByteArray) × Unit) → Option R) (v1 : Int) (v5 : Int) (v7 : ByteArray) (v8 : Int) : Option R :=
 bif decide (v8 < v1) then bif decide ((strOfNums [IntKind.u8.wrap (v5.tmod 256)]).size + v7.size ≤ 9223372036854775807) then NX (v1, IntKind.u64.wrap (v5.tdiv 256), strOfNums [IntKind.u8.wrap (v5.tmod 256)] ++ v7, IntKind.i64.wrap (v8 + 1), ()) else none else X4 (v7, ())
noncomputable def E0 : Nat → (Int) → (Int) → (ByteArray) → (Int) →  Option ((ByteArray) × Unit)
 | 0, _, _, _, _ => none
 | m + 1, v1, v5, v7, v8 => Hc  (fun d => E0 m d.1 d.2.1 d.2.2.1 d.2.2.2.1) (fun d => some (d)) v1 v5 v7 v8
noncomputable def H1 {R : Type}  (NX : ((ByteArray) × (Int) × (Int) × (Int) × Unit) → Option R) (X2 : ((Int) × (Int) × Unit) → Option R) (v0 : ByteArray) (v1 : Int) (v5 : Int) (v6 : Int) : Option R :=
 bif decide (v6 < nI v0.size) then bif decide (0 ≤ v6) then bif decide (v6 < nI v0.size) then NX (v0, v1, IntKind.u64.wrap (IntKind.u64.wrap (nI (BitVec.ofInt 64 v5 ^^^ BitVec.ofInt 64 (IntKind.u64.wrap (J5 v0 v6))).toNat) * 1099511628211), IntKind.i64.wrap (v6 + 1), ()) else none else none else X2 (v1, v5, ())
noncomputable def Dp : Nat → (ByteArray) → (Int) → (Int) → (Int) →  Option ((Int) × (Int) × Unit)
 | 0, _, _, _, _ => none
 | m + 1, v0, v1, v5, v6 => H1  (fun d => Dp m d.1 d.2.1 d.2.2.1 d.2.2.2.1) (fun d => some (d)) v0 v1 v5 v6
noncomputable def Sq (a0 : ByteArray) (a1 : Int) : Option ((((ByteArray) × Unit) × (Unit))) :=
 Option.bind (bif decide (a1 ≥ 1) then some ((decide (a1 ≤ 8), ()), ()) else some ((false, ()), ())) fun val => bif !val.1.1 then some ((ByteArray.mk #[], ()), ()) else ((fun d => Dp (H0 d.1 d.2.1 d.2.2.1 d.2.2.2.1) d.1 d.2.1 d.2.2.1 d.2.2.2.1) (a0, a1, 14695981039346656037, 0, ())).bind fun val => ((fun d => E0 (Hb d.1 d.2.1 d.2.2.1 d.2.2.2.1) d.1 d.2.1 d.2.2.1 d.2.2.2.1) (val.1, val.2.1, ByteArray.mk #[], 0, ())).bind fun val => some (val, ())
theorem Ada : ∀ (k m i : Nat) (v : Int) (out : ByteArray), i + k ≤ 1000 → k < m → out.size = i → U64 v → E0 m ((i + k : Nat) : Int) v out i = some (Cl v k ++ out, ())
 | 0, m + 1, i, v, out, hi, hm, ho, hv => by
  simp only [E0, Hc]
  rw [decide_eq_false (by omega), Aju]
  rfl
 | k + 1, m + 1, i, v, out, hi, hm, ho, hv => by
  have h0 := hv.1
  have h1 := hv.2
  simp only [E0, Hc]
  have e1 : IntKind.wrap IntKind.u8 (Int.tmod v 256) = v % 256 := by
   rw [Int.tmod_eq_emod_of_nonneg h0]
   show v % 256 % 256 = v % 256
   omega
  have e2 : IntKind.wrap IntKind.u64 (Int.tdiv v 256) = v / 256 := by
   rw [Int.tdiv_eq_ediv_of_nonneg h0, Ar9]
   omega
  rw [decide_eq_true (show (i : Int) < ((i + (k + 1) : Nat) : Int) by omega), e1, e2, decide_eq_true (show ByteArray.size (strOfNums [v % 256]) + ByteArray.size out ≤ 9223372036854775807 by rw [ho, C3]; simp; omega), wI (show i < 4611686018427387904 by omega)]
  have hL := Ada k m (i + 1) (v / 256) (strOfNums [v % 256] ++ out) (by omega) (by omega) (by rw [ByteArray.size_append, ho, C3]; simp; omega) ⟨by omega, by omega⟩
  rw [show i + 1 + k = i + (k + 1) by omega] at hL
  refine hL.trans ?_
  rw [← ByteArray.append_assoc, ← Ajv]
theorem Ake (a0 : ByteArray) (a1 : Int) r (h : Ms a0 a1 = some r) : Sq a0 a1 = some ((r, ()), (())) := by
 unfold Ms at h
 split at h
 rotate_left
 ·cases h
 rename_i hsz
 cases h
 unfold Sq Wz
 generalize hC : (14695981039346656037 : Int) = C
 have h0 : U64 C := by rw [← hC]; exact ⟨by decide, by decide⟩
 refine Tu (wid a1) ?_
 show (bif !Fp a1 1 8 then _ else _) = _
 cases hw : Fp a1 1 8 with
 | false => rfl
 | true =>
  have k1 := of_decide_eq_true (Cq hw).1
  have k2 := of_decide_eq_true (Cq hw).2
  ·simp only [Bool.not_true, cond_false, cond_true]
   have hL := To a0.size (fun _ _ => True) (fun i h => Sa h (J5 a0 i)) (g := fun m i h => Dp m a0 a1 h i) (ok := fun h => (a1, h, ())) (fun m i h hi _ => by
    show Dp (m + 1) a0 a1 h i = _
    simp only [Dp, H1]
    have c1 : (i : Int) < nI a0.size := by simp only [nI]; omega
    rw [decide_eq_true c1, Gk, wI (show i < 4611686018427387904 by omega)]
    rfl) (fun m h _ => by
    show Dp (m + 1) a0 a1 h a0.size = _
    simp only [Dp, H1]
    rw [decide_eq_false (show ¬ ((a0.size : Int) < nI a0.size) by simp only [nI]; omega)]
    rfl) (fun _ _ _ _ => trivial) a0.size (H0 a0 a1 C 0) 0 C (by omega) (by simp only [H0, nI]; omega) trivial
   rw [show ((0 : Nat) : Int) = 0 from rfl] at hL
   refine Tu hL ?_
   obtain ⟨n, rfl⟩ : ∃ n : Nat, a1 = (n : Int) := ⟨a1.toNat, by omega⟩
   have hM := Ada n (Hb n (Zd a0 a0.size 0 C) (ByteArray.mk #[]) 0) 0 (Zd a0 a0.size 0 C) (ByteArray.mk #[]) (by omega) (by simp only [Hb]; omega) rfl (Anb a0 _ _ h0)
   rw [Nat.zero_add, Ap9] at hM
   exact Tu hM rfl
noncomputable def Uh {R : Type} (k : Kt R) := (Ln (pa_spec_Sum 6) (.exit 0) 2 k)
noncomputable def Sr {R : Type} (k : Kt R) := (Ln (pa_spec_Sum 11) (.exit 2) 4 k)
noncomputable def Vq {R : Type} : Lt R pa_spec_Sum := (Gb (pat := pa_spec_Sum) 6 (fun d k => (Dp (H0 d.1 d.2.1 d.2.2.1 d.2.2.2.1) d.1 d.2.1 d.2.2.1 d.2.2.2.1).bind (Uh k)) (Gb (pat := pa_spec_Sum) 11 (fun d k => (E0 (Hb d.1 d.2.1 d.2.2.1 d.2.2.2.1) d.1 d.2.1 d.2.2.1 d.2.2.2.1).bind (Sr k)) F5))
theorem Ss : At Tryz.prog ta_spec_Sum := Ax ⟨Gl, trivial⟩
theorem Adb {R : Type} : Ba Tryz.prog R 40 0 pa_spec_Sum Vq co_spec_Sum_11 :=
 Dd (cfg := ⟨ta_spec_Sum, 0, 40, pa_spec_Sum⟩) 11 [] (fun NX X d => Hc  NX X d.1 d.2.1 d.2.2.1 d.2.2.2.1) (fun m d => E0 m d.1 d.2.1 d.2.2.1 d.2.2.2.1) (fun d => Hb d.1 d.2.1 d.2.2.1 d.2.2.2.1) Sr Ss trivial (fun f NX d => by unfold Hc; simp only [Am, Az, Ai, Option.bind_assoc, Option.bind_none, Option.bind_some]) (fun _ _ _ => by kernel_rfl)
theorem Aer {R : Type} : Ba Tryz.prog R 40 0 pa_spec_Sum Vq co_spec_Sum_6 :=
 Dd (cfg := ⟨ta_spec_Sum, 0, 40, pa_spec_Sum⟩) 6 [] (fun NX X d => H1  NX X d.1 d.2.1 d.2.2.1 d.2.2.2.1) (fun m d => Dp m d.1 d.2.1 d.2.2.1 d.2.2.2.1) (fun d => H0 d.1 d.2.1 d.2.2.1 d.2.2.2.1) Uh Ss trivial (fun f NX d => by unfold H1; simp only [Am, Az, Ai, Option.bind_assoc, Option.bind_none, Option.bind_some]) (fun _ _ _ => by kernel_rfl)
theorem Akf : Bs Tryz.prog 163 sd_spec_Sum :=
 Av (pat := pa_spec_Sum) [co_spec_Sum_6, co_spec_Sum_11] Vq Ss ⟨Aer, Adb, trivial⟩ Tryz.func163 (de := fun x => Sq x.1 x.2.1) (fun x r h => Ay (Ake x.1 x.2.1) h) fun _ => by kernel_rfl
def D8 (p : Pg) (w : Int) : ByteArray := F7 p w
def E1 (v1 : Int) (v5 : ByteArray) : Nat := (64 - v1 - nI v5.size).toNat + 1
def Z0 : Sig := ⟨[.rd yPg, .rd tI], [some 4, none], [.rd .str], [none]⟩
noncomputable def sd_spec_FormPage : SD := ⟨Z0, fun x => some (((D8 x.1 x.2.1), ()), (()))⟩
noncomputable def ta_spec_FormPage : Tb := tb [(161, sd_spec_l1Ok), (162, sd_spec_l1Number), (163, sd_spec_Sum)]
def pa_spec_FormPage : Nat → Pat × (Nat → Pat) := Gw [(5, ⟨[], [(1, .lf (.d tI)), (5, .lf (.d .str))], []⟩, [(2, ⟨[], [(1, .lf (.d tI)), (5, .lf (.d .str))], []⟩)])]
noncomputable def co_spec_FormPage_5 : Code := (An (Bn Tryz.f76)).getD 0 .skip
noncomputable def E2 {R : Type}  (NX : ((Int) × (ByteArray) × Unit) → Option R) (X2 : ((Int) × (ByteArray) × Unit) → Option R) (v1 : Int) (v5 : ByteArray) : Option R :=
 bif decide (IntKind.i64.wrap (nI v5.size + v1) < 64) then bif decide (v5.size + (ByteArray.mk #[0]).size ≤ 9223372036854775807) then NX (v1, v5 ++ ByteArray.mk #[0], ()) else none else X2 (v1, v5, ())
noncomputable def Ct : Nat → (Int) → (ByteArray) →  Option ((Int) × (ByteArray) × Unit)
 | 0, _, _ => none
 | m + 1, v1, v5 => E2  (fun d => Ct m d.1 d.2.1) (fun d => some (d)) v1 v5
noncomputable def Kg (a0 : Pg) (a1 : Int) : Option ((((ByteArray) × Unit) × (Unit))) :=
 bif !Nu a0 a1 then some ((ByteArray.mk #[], ()), ()) else ((Bp a0.1 1).bind fun val => some ((val, ()), ())).bind fun val => ((Bp a0.2.1 2).bind fun val => some ((val, ()), ())).bind fun val_1 => bif decide (ByteArray.size val.1.1 + ByteArray.size val_1.1.1 ≤ 9223372036854775807) then ((Bp a0.2.2.1 4).bind fun val => some ((val, ()), ())).bind fun val_2 => bif decide ((val.1.1 ++ val_1.1.1).size + ByteArray.size val_2.1.1 ≤ 9223372036854775807) then ((Bp (nI (ByteArray.size a0.2.2.2.1)) 1).bind fun val => some ((val, ()), ())).bind fun val_3 => bif decide ((val.1.1 ++ val_1.1.1 ++ val_2.1.1).size + ByteArray.size val_3.1.1 ≤ 9223372036854775807) then bif decide ((val.1.1 ++ val_1.1.1 ++ val_2.1.1 ++ val_3.1.1).size + ByteArray.size a0.2.2.2.1 ≤ 9223372036854775807) then ((fun d => Ct (E1 d.1 d.2.1) d.1 d.2.1) (a1, val.1.1 ++ val_1.1.1 ++ val_2.1.1 ++ val_3.1.1 ++ a0.2.2.2.1, ())).bind fun val => ((Ms val.2.1 val.1).bind fun val => some ((val, ()), ())).bind fun val_4 => bif decide (ByteArray.size val_4.1.1 + ByteArray.size val.2.1 ≤ 9223372036854775807) then some ((val_4.1.1 ++ val.2.1, ()), ()) else none else none else none else none else none
theorem Akg (w : Int) : ∀ (k m : Nat) (b : ByteArray), (b.size : Int) + w + k = 64 → 0 ≤ w → k < m → Ct m w b = some (w, b ++ strOfNums (List.replicate k 0), ())
 | 0, m + 1, b, h, h0, hm => by
  simp only [Ct, E2]
  rw [Ae (by simp only [nI]; omega) (by simp only [nI]; omega), decide_eq_false (show ¬ (nI b.size + w < 64) by simp only [nI]; omega), show strOfNums (List.replicate 0 0) = ByteArray.mk #[] from rfl, Ap9]
  rfl
 | k + 1, m + 1, b, h, h0, hm => by
  simp only [Ct, E2]
  have hz : (ByteArray.mk #[0]).size = 1 := rfl
  rw [Ae (by simp only [nI]; omega) (by simp only [nI]; omega), decide_eq_true (show nI b.size + w < 64 by simp only [nI]; omega), hz, decide_eq_true (show b.size + 1 ≤ 9223372036854775807 by omega)]
  have := Akg w k m (b ++ ByteArray.mk #[0]) (by rw [ByteArray.size_append, hz]; omega) h0 (by omega)
  refine this.trans ?_
  rw [ByteArray.append_assoc, show ByteArray.mk #[0] = strOfNums [0] from rfl, ← Ue]
  rfl
theorem Z1 (a0 : Pg) (a1 : Int) : Kg a0 a1 = some (((D8 a0 a1), ()), (())) := by
 unfold Kg D8 F7
 show (bif !I5 a0 a1 then _ else _) = _
 cases hp : I5 a0 a1 with
 | false => rfl
 | true =>
  obtain ⟨hw, k1, k2, kp⟩ := W3 hp
  obtain ⟨r1, r2, r3⟩ := Aqb hp
  have n1 : Bp a0.1 1 = some (Cl a0.1 1) := (Fz _ _).trans (if_pos (by omega))
  have n2 : Bp a0.2.1 2 = some (Cl a0.2.1 2) := (Fz _ _).trans (if_pos (by omega))
  have n3 : Bp a0.2.2.1 4 = some (Cl a0.2.2.1 4) := (Fz _ _).trans (if_pos (by omega))
  have n4 : Bp (nI a0.2.2.2.1.size) 1 = some (Cl (nI a0.2.2.2.1.size) 1) := (Fz _ _).trans (if_pos (by simp only [nI]; omega))
  simp only [Bool.not_true, cond_false, cond_true, n1, n2, n3, n4, Option.bind_some]
  have hb : Hx a0 a1 = Cl a0.1 1 ++ Cl a0.2.1 2 ++ Cl a0.2.2.1 4 ++ Cl (nI a0.2.2.2.1.size) 1 ++ a0.2.2.2.1 ++ strOfNums (List.replicate (56 - a1 - a0.2.2.2.1.size).toNat 0) := rfl
  have hs4 : (Cl a0.1 1 ++ Cl a0.2.1 2 ++ Cl a0.2.2.1 4 ++ Cl (nI a0.2.2.2.1.size) 1).size = 8 := by simp only [ByteArray.size_append, G5]
  have hs3 : (Cl a0.1 1 ++ Cl a0.2.1 2 ++ Cl a0.2.2.1 4).size = 7 := by simp only [ByteArray.size_append, G5]
  have hs2 : (Cl a0.1 1 ++ Cl a0.2.1 2).size = 3 := by simp only [ByteArray.size_append, G5]
  have hs5 : (Cl a0.1 1 ++ Cl a0.2.1 2 ++ Cl a0.2.2.1 4 ++ Cl (nI a0.2.2.2.1.size) 1 ++ a0.2.2.2.1).size = 8 + a0.2.2.2.1.size := by rw [ByteArray.size_append, hs4]
  rw [hs4, hs3, hs2, G5, G5, G5, G5, decide_eq_true (show 1 + 2 ≤ 9223372036854775807 by decide), decide_eq_true (show 3 + 4 ≤ 9223372036854775807 by decide), decide_eq_true (show 7 + 1 ≤ 9223372036854775807 by decide), decide_eq_true (show 8 + a0.2.2.2.1.size ≤ 9223372036854775807 by omega)]
  simp only [cond_true]
  generalize hB : Cl a0.1 1 ++ Cl a0.2.1 2 ++ Cl a0.2.2.1 4 ++ Cl (nI a0.2.2.2.1.size) 1 ++ a0.2.2.2.1 = B at *
  have hL := Akg a1 (56 - a1 - a0.2.2.2.1.size).toNat (E1 a1 B) B (by rw [hs5]; omega) (by omega) (by simp only [E1, nI, hs5]; omega)
  have hz : (strOfNums (List.replicate (56 - a1 - a0.2.2.2.1.size).toNat 0)).size = (56 - a1 - a0.2.2.2.1.size).toNat := by rw [C3, List.length_replicate]
  rw [← hb] at hL
  have hbs : (Hx a0 a1).size ≤ 64 := by rw [hb, ByteArray.size_append, hs5, hz]; omega
  have hm : Ms (Hx a0 a1) a1 = some (Wz (Hx a0 a1) a1) := if_pos (by omega)
  refine Tu hL (Tu (Tu hm rfl) ?_)
  show (bif decide (ByteArray.size (Wz (Hx a0 a1) a1) + ByteArray.size (Hx a0 a1) ≤ 9223372036854775807) then some ((Wz (Hx a0 a1) a1 ++ Hx a0 a1, ()), ()) else none) = _
  rw [O5 hw, decide_eq_true (by omega)]
  rfl
noncomputable def Mt {R : Type} (k : Kt R) := (Ln (pa_spec_FormPage 5) (.exit 0) 2 k)
noncomputable def Q7 {R : Type} : Lt R pa_spec_FormPage := (Gb (pat := pa_spec_FormPage) 5 (fun d k => (Ct (E1 d.1 d.2.1) d.1 d.2.1).bind (Mt k)) F5)
theorem Ph : At Tryz.prog ta_spec_FormPage := Ax ⟨Ah8, Zz, Akf, trivial⟩
theorem Vr {R : Type} : Ba Tryz.prog R 41 0 pa_spec_FormPage Q7 co_spec_FormPage_5 :=
 Dd (cfg := ⟨ta_spec_FormPage, 0, 41, pa_spec_FormPage⟩) 5 [] (fun NX X d => E2  NX X d.1 d.2.1) (fun m d => Ct m d.1 d.2.1) (fun d => E1 d.1 d.2.1) Mt Ph trivial (fun f NX d => by unfold E2; simp only [Am, Az, Ai, Option.bind_assoc, Option.bind_none, Option.bind_some]) (fun _ _ _ => by kernel_rfl)
theorem Z2 : Bs Tryz.prog 76 sd_spec_FormPage :=
 Av (pat := pa_spec_FormPage) [co_spec_FormPage_5] Q7 Ph ⟨Vr, trivial⟩ Tryz.func76 (de := fun x => Kg x.1 x.2.1) (fun x r h => (Z1 x.1 x.2.1).trans h) fun _ => by kernel_rfl
def Mu (e : ByteArray) (life first w : Int) : Option (List ByteArray) := if e.size ≤ 1048576 then some (Aek e life first w) else none
def Gt (v1 v2 v3 : Int) (v10 : List ByteArray) (v11 : Int) (r0 : List ByteArray) : Nat := (nI v10.length - v11).toNat + 1
def Akh : Sig := ⟨[.rd .str, .rd tI, .rd tI, .rd tI], [none, none, none, none], [.own 9 .str], [none]⟩
noncomputable def sd_spec_Cut : SD := ⟨Akh, fun x => (Mu x.1 x.2.1 x.2.2.1 x.2.2.2.1).bind fun r => some ((r, ()), (()))⟩
noncomputable def ta_spec_Cut : Tb := tb [(69, sd_spec_l1Width), (76, sd_spec_FormPage), (166, sd_spec_l3Parts)]
def pa_spec_Cut : Nat → Pat × (Nat → Pat) := Gw [(9, ⟨[.row 9 0 9 .str, .sl 10 0 .str], [(1, .lf (.d tI)), (2, .lf (.d tI)), (3, .lf (.d tI)), (9, .lf (.row 0)), (10, .lf (.d (.sl .str))), (11, .lf (.d tI))], [.row 9 .str]⟩, [(2, ⟨[.row 9 0 9 .str], [(9, .lf (.row 0))], [.row 9 .str]⟩)])]
noncomputable def co_spec_Cut_9 : Code := (An (Bn Tryz.f81)).getD 0 .skip
noncomputable def H2 {R : Type}  (NX : ((Int) × (Int) × (Int) × (List ByteArray) × (Int) × (List ByteArray) × Unit) → Option R) (X2 : ((List ByteArray) × Unit) → Option R) (v1 : Int) (v2 : Int) (v3 : Int) (v10 : List ByteArray) (v11 : Int) (r0 : List ByteArray) : Option R :=
 bif decide (v11 < nI v10.length) then bif v11 == IntKind.i64.wrap (nI v10.length - 1) then bif decide (0 ≤ v11) then bif decide (v11 < nI v10.length) then bif decide ((r0.length + [D8 (2, v1, IntKind.i64.wrap (v2 + v11), v10.getD v11.toNat (ByteArray.mk #[]), ()) v3].length) * 16 ≤ 140737488355328) then NX (v1, v2, v3, v10, IntKind.i64.wrap (v11 + 1), r0 ++ [D8 (2, v1, IntKind.i64.wrap (v2 + v11), v10.getD v11.toNat (ByteArray.mk #[]), ()) v3], ()) else none else none else none else bif decide (0 ≤ v11) then bif decide (v11 < nI v10.length) then bif decide ((r0.length + [D8 (1, v1, IntKind.i64.wrap (v2 + v11), v10.getD v11.toNat (ByteArray.mk #[]), ()) v3].length) * 16 ≤ 140737488355328) then NX (v1, v2, v3, v10, IntKind.i64.wrap (v11 + 1), r0 ++ [D8 (1, v1, IntKind.i64.wrap (v2 + v11), v10.getD v11.toNat (ByteArray.mk #[]), ()) v3], ()) else none else none else none else X2 (r0, ())
noncomputable def Cz : Nat → (Int) → (Int) → (Int) → (List ByteArray) → (Int) → (List ByteArray) →  Option ((List ByteArray) × Unit)
 | 0, _, _, _, _, _, _ => none
 | m + 1, v1, v2, v3, v10, v11, r0 => H2  (fun d => Cz m d.1 d.2.1 d.2.2.1 d.2.2.2.1 d.2.2.2.2.1 d.2.2.2.2.2.1) (fun d => some (d)) v1 v2 v3 v10 v11 r0
noncomputable def Su (a0 : ByteArray) (a1 : Int) (a2 : Int) (a3 : Int) : Option ((((List ByteArray) × Unit) × (Unit))) :=
 Option.bind (bif decide (a3 ≥ 1) then some ((decide (a3 ≤ 8), ()), ()) else some ((false, ()), ())) fun val => bif !val.1.1 then some (([], ()), ()) else bif decide (a1 < 1) then some (([], ()), ()) else bif decide (a1 > 60000) then some (([], ()), ()) else bif decide (a2 < 1) then some (([], ()), ()) else bif decide (a2 > 1000000000) then some (([], ()), ()) else ((Et a0 a3).bind fun val => some ((val, ()), ())).bind fun val => bif decide (nI (List.length val.1.1) > IntKind.i64.wrap (IntKind.i64.wrap (1000000000 - a2) + 1)) then some (([], ()), ()) else ((fun d => Cz (Gt d.1 d.2.1 d.2.2.1 d.2.2.2.1 d.2.2.2.2.1 d.2.2.2.2.2.1) d.1 d.2.1 d.2.2.1 d.2.2.2.1 d.2.2.2.2.1 d.2.2.2.2.2.1) (a1, a2, a3, val.1.1, 0, [], ())).bind fun val => some (val, ())
theorem Aki (a0 : ByteArray) (a1 : Int) (a2 : Int) (a3 : Int) r (h : Mu a0 a1 a2 a3 = some r) : Su a0 a1 a2 a3 = some ((r, ()), (())) := by
 unfold Mu at h
 split at h
 rotate_left
 ·cases h
 rename_i hc
 cases h
 unfold Su Aek
 refine Tu (wid a3) ?_
 rw [Alt a1]
 show (bif !Fp a3 1 8 then _ else (bif Fp a1 1 60000 then _ else _)) = _
 cases hw : Fp a3 1 8 with
 | false => rfl
 | true =>
  obtain ⟨k1, k2⟩ := Ep hw
  have hp := Vd (s := a0) hw
  have hP : C2 a0.size a3 = ((Bu a0 a3).length : Int) := by unfold C2; rw [hw]; exact hp.symm
  have hlen : (Bu a0 a3).length ≤ a0.size + 1 := Sf _ _ _
  have h1 : 1 ≤ (Bu a0 a3).length := by
   have : (1 : Int) ≤ ((Bu a0 a3).length : Int) := by rw [hp]; split <;> omega
   omega
  have n1 : Et a0 a3 = some (Bu a0 a3) := if_pos ⟨by omega, k1, k2⟩
  rw [hP]
  cases hl : Fp a1 1 60000 with
  | false => rfl
  | true =>
   by_cases q1 : a2 < 1
   ·rw [decide_eq_true q1, decide_eq_false (show ¬ 1 ≤ a2 by omega)]; rfl
   ·rw [decide_eq_false q1, decide_eq_true (show 1 ≤ a2 by omega)]
    by_cases q0 : a2 > 1000000000
    ·rw [decide_eq_true q0, decide_eq_false (show ¬ a2 ≤ 1000000000 - ((Bu a0 a3).length : Int) + 1 by omega)]; rfl
    ·rw [decide_eq_false q0]
     refine Tu (Tu n1 rfl) ?_
     show (bif decide (nI (Bu a0 a3).length > IntKind.i64.wrap (IntKind.i64.wrap (1000000000 - a2) + 1)) then _ else (Option.bind (Cz (Gt a1 a2 a3 (Bu a0 a3) 0 []) a1 a2 a3 (Bu a0 a3) 0 []) _)) = _
     rw [Ae (n := 1000000000 - a2) (by omega) (by omega), Ae (n := 1000000000 - a2 + 1) (by omega) (by omega)]
     simp only [nI]
     by_cases q2 : a2 > 1000000000 - ((Bu a0 a3).length : Int) + 1
     ·rw [decide_eq_true (show ((Bu a0 a3).length : Int) > 1000000000 - a2 + 1 by omega), decide_eq_false (show ¬ a2 ≤ 1000000000 - ((Bu a0 a3).length : Int) + 1 by omega)]; rfl
     ·rw [decide_eq_false (show ¬ ((Bu a0 a3).length : Int) > 1000000000 - a2 + 1 by omega), decide_eq_true (show a2 ≤ 1000000000 - ((Bu a0 a3).length : Int) + 1 by omega)]
      generalize Bu a0 a3 = P at *
      have hL := To P.length (fun i r => r.length = i) (fun i r => r ++ [F7 ((if i + 1 = P.length then 2 else 1), a1, a2 + (i : Int), P.getD i z0, ()) a3]) (g := fun m i r => Cz m a1 a2 a3 P i r) (ok := fun r => (r, ())) (fun m i r hi hr => by
       show Cz (m + 1) a1 a2 a3 P i r = _
       simp only [Cz, H2]
       rw [Pw hi, Gk, wI (show i < 4611686018427387904 by omega), Int.toNat_natCast, Ae (n := a2 + (i : Int)) (by omega) (by omega), Ae (n := nI P.length - 1) (by simp only [nI]; omega) (by simp only [nI]; omega), List.length_singleton, List.length_singleton, decide_eq_true (show (r.length + 1) * 16 ≤ 140737488355328 by omega)]
       by_cases e : i + 1 = P.length
       ·rw [show ((i : Int) == nI P.length - 1) = true from beq_iff_eq.2 (by simp only [nI]; omega), if_pos e]; rfl
       ·rw [show ((i : Int) == nI P.length - 1) = false from beq_eq_false_iff_ne.2 (by simp only [nI]; omega), if_neg e]; rfl) (fun m r _ => by
       show Cz (m + 1) a1 a2 a3 P (P.length : Int) r = _
       simp only [Cz, H2]
       rw [I6]
       rfl) (fun i r hi hr => by rw [List.length_append, List.length_singleton, hr]) P.length (Gt a1 a2 a3 P 0 []) 0 [] (by omega) (by simp only [Gt, nI]; omega) rfl
      rw [Agh (fun i => F7 ((if i + 1 = P.length then 2 else 1), a1, a2 + (i : Int), P.getD i z0, ()) a3), List.nil_append, ← Nj] at hL
      exact Tu hL rfl
noncomputable def Ui {R : Type} (k : Kt R) := (Ln (pa_spec_Cut 9) (.exit 0) 2 k)
noncomputable def Adc {R : Type} : Lt R pa_spec_Cut := (Gb (pat := pa_spec_Cut) 9 (fun d k => (Cz (Gt d.1 d.2.1 d.2.2.1 d.2.2.2.1 d.2.2.2.2.1 d.2.2.2.2.2.1) d.1 d.2.1 d.2.2.1 d.2.2.2.1 d.2.2.2.2.1 d.2.2.2.2.2.1).bind (Ui k)) F5)
theorem l3 : At Tryz.prog ta_spec_Cut := Ax ⟨Gl, Z2, Q3, trivial⟩
theorem Aes {R : Type} : Ba Tryz.prog R 71 0 pa_spec_Cut Adc co_spec_Cut_9 :=
 Dd (cfg := ⟨ta_spec_Cut, 0, 71, pa_spec_Cut⟩) 9 [] (fun NX X d => H2  NX X d.1 d.2.1 d.2.2.1 d.2.2.2.1 d.2.2.2.2.1 d.2.2.2.2.2.1) (fun m d => Cz m d.1 d.2.1 d.2.2.1 d.2.2.2.1 d.2.2.2.2.1 d.2.2.2.2.2.1) (fun d => Gt d.1 d.2.1 d.2.2.1 d.2.2.2.1 d.2.2.2.2.1 d.2.2.2.2.2.1) Ui l3 trivial (fun f NX d => by unfold H2; simp only [Am, Az, Ai, Option.bind_assoc, Option.bind_none, Option.bind_some]) (fun _ _ _ => by kernel_rfl)
theorem Akj : Bs Tryz.prog 81 sd_spec_Cut :=
 Av (pat := pa_spec_Cut) [co_spec_Cut_9] Adc l3 ⟨Aes, trivial⟩ Tryz.func81 (de := fun x => Su x.1 x.2.1 x.2.2.1 x.2.2.2.1) (fun x r h => Ay (Aki x.1 x.2.1 x.2.2.1 x.2.2.2.1) h) fun _ => by kernel_rfl
def Xe (a : Int) (d : ByteArray) : Opn := (false, a, d, ())
def Aet : Sig := ⟨[.rd tI, .rd .str], [none, none], [.rd B0], [some 3]⟩
noncomputable def sd_spec_l6Put : SD := ⟨Aet, fun x => some (((Xe x.1 x.2.1), ()), (()))⟩
noncomputable def Uj (a0 : Int) (a1 : ByteArray) : Option (((Opn × Unit) × (Unit))) :=
 some (((false, a0, a1, ()), ()), ())
theorem Aeu (a0 : Int) (a1 : ByteArray) : Uj a0 a1 = some (((Xe a0 a1), ()), (())) := rfl
theorem Aev : Bs Tryz.prog 83 sd_spec_l6Put :=
 Av (pat := Ck) [] F5 (Ax (l := []) trivial) trivial Tryz.func83 (de := fun x => Uj x.1 x.2.1) (fun x r h => (Aeu x.1 x.2.1).trans h) fun _ => by kernel_rfl
def H3 (n h : Int) : Int := IntKind.i64.wrap (2 + IntKind.i64.wrap (h * B7 n))
def Add : Sig := ⟨[.rd tI, .rd tI], [none, none], [.rd tI], [none]⟩
noncomputable def sd_spec_l6Base : SD := ⟨Add, fun x => some (((H3 x.1 x.2.1), ()), (()))⟩
noncomputable def Sv (a0 : Int) (a1 : Int) : Option ((((Int) × Unit) × (Unit))) :=
 some ((IntKind.i64.wrap (2 + IntKind.i64.wrap (a1 * B7 a0)), ()), ())
theorem Ade (a0 : Int) (a1 : Int) : Sv a0 a1 = some (((H3 a0 a1), ()), (())) := rfl
theorem Adf : Bs Tryz.prog 84 sd_spec_l6Base :=
 Av (pat := Ck) [] F5 (Ax (l := [(55, sd_spec_Halves)]) ⟨Mk, trivial⟩) trivial Tryz.func84 (de := fun x => Sv x.1 x.2.1) (fun x r h => (Ade x.1 x.2.1).trans h) fun _ => by kernel_rfl
def Ah (s : Sto) (b : List Chg) : Don := Tt s b
def Adg : Sig := ⟨[.rd Jz, .rd (.sl A2)], [some 10, none], [.rd tI, .rd tI, .rd tI, .rd tI, .rd tI, .rd tI, .rd tI, .rd tI, .rd tI, .rd tI, .own 167 Af, .own 126 B0], [some 12]⟩
noncomputable def sd_spec_Commit : SD := ⟨Adg, fun x => some (((Ah x.1 x.2.1).1, (Ah x.1 x.2.1).2.1.1, (Ah x.1 x.2.1).2.1.2.1, (Ah x.1 x.2.1).2.1.2.2.1, (Ah x.1 x.2.1).2.1.2.2.2.1.1, (Ah x.1 x.2.1).2.1.2.2.2.1.2.1, (Ah x.1 x.2.1).2.1.2.2.2.1.2.2.1, (Ah x.1 x.2.1).2.1.2.2.2.1.2.2.2.1, (Ah x.1 x.2.1).2.1.2.2.2.2.1, (Ah x.1 x.2.1).2.1.2.2.2.2.2.1, (Ah x.1 x.2.1).2.1.2.2.2.2.2.2.1.1, (Ah x.1 x.2.1).2.2.1, ()), (()))⟩
noncomputable def ta_spec_Commit : Tb := tb [(47, sd_spec_ValidStore), (55, sd_spec_Halves), (56, sd_spec_Room), (79, sd_spec_ValidBatch), (80, sd_spec_Apply), (81, sd_spec_Cut), (82, sd_spec_FormBatch), (83, sd_spec_l6Put), (84, sd_spec_l6Base)]
def pa_spec_Commit : Nat → Pat × (Nat → Pat) := Gw [(17, ⟨[.sl 8 0 .str, .row 10 0 126 B0, .boxSl 2 9 Af, .boxRow 4 10 167 Af, .boxRow 4 11 126 B0, .boxRow 9 9 167 Af], [(2, .lf (.ptr 0 0)), (4, .lf (.ptr 1 0)), (8, .lf (.d (.sl .str))), (9, .lf (.ptr 2 0)), (10, .lf (.row 3)), (11, .lf (.d tI))], [.box 33 [.d tI, .d tI, .d tI, .d tI, .d tI, .d tI, .d tI, .d tI, .d tI, .d (.sl Af)], .box 56 [.d tI, .d tI, .d tI, .d tI, .d tI, .d tI, .d tI, .d tI, .d tI, .d tI, .row 4, .row 5], .box 33 [.d tI, .d tI, .d tI, .d tI, .d tI, .d tI, .d tI, .d tI, .d tI, .row 6], .row 126 B0, .row 167 Af, .row 126 B0, .row 167 Af]⟩, [(2, ⟨[.row 10 0 126 B0, .boxRow 4 10 167 Af, .boxRow 4 11 126 B0, .boxRow 9 9 167 Af], [(4, .lf (.ptr 0 0)), (9, .lf (.ptr 1 0)), (10, .lf (.row 2))], [.box 56 [.d tI, .d tI, .d tI, .d tI, .d tI, .d tI, .d tI, .d tI, .d tI, .d tI, .row 3, .row 4], .box 33 [.d tI, .d tI, .d tI, .d tI, .d tI, .d tI, .d tI, .d tI, .d tI, .row 5], .row 126 B0, .row 167 Af, .row 126 B0, .row 167 Af]⟩)])]
noncomputable def co_spec_Commit_17 : Code := (An (Bn Tryz.f17)).getD 0 .skip
def D3 (v8 : List ByteArray) (v11 : Int) (b0_0 : Int) (b0_1 : Int) (b0_2 : Int) (b0_3 : Int) (b0_4 : Int) (b0_5 : Int) (b0_6 : Int) (b0_7 : Int) (b0_8 : Int) (b0_9 : List Pr2) (b1_0 : Int) (b1_1 : Int) (b1_2 : Int) (b1_3 : Int) (b1_4 : Int) (b1_5 : Int) (b1_6 : Int) (b1_7 : Int) (b1_8 : Int) (b1_9 : Int) (b2_0 : Int) (b2_1 : Int) (b2_2 : Int) (b2_3 : Int) (b2_4 : Int) (b2_5 : Int) (b2_6 : Int) (b2_7 : Int) (b2_8 : Int) (r3 : List Opn) (r4 : List Pr2) (r5 : List Opn) (r6 : List Pr2) : Nat := ((v8.length : Int) - v11).toNat + 1
noncomputable def Fi {R : Type}  (NX : ((List ByteArray) × (Int) × (Int) × (Int) × (Int) × (Int) × (Int) × (Int) × (Int) × (Int) × (Int) × (List Pr2) × (Int) × (Int) × (Int) × (Int) × (Int) × (Int) × (Int) × (Int) × (Int) × (Int) × (Int) × (Int) × (Int) × (Int) × (Int) × (Int) × (Int) × (Int) × (Int) × (List Opn) × (List Pr2) × (List Opn) × (List Pr2) × Unit) → Option R) (X2 : ((Int) × (Int) × (Int) × (Int) × (Int) × (Int) × (Int) × (Int) × (Int) × (Int) × (Int) × (Int) × (Int) × (Int) × (Int) × (Int) × (Int) × (Int) × (Int) × (List Opn) × (List Pr2) × (List Opn) × (List Pr2) × Unit) → Option R) (v8 : List ByteArray) (v11 : Int) (b0_0 : Int) (b0_1 : Int) (b0_2 : Int) (b0_3 : Int) (b0_4 : Int) (b0_5 : Int) (b0_6 : Int) (b0_7 : Int) (b0_8 : Int) (b0_9 : List Pr2) (b1_0 : Int) (b1_1 : Int) (b1_2 : Int) (b1_3 : Int) (b1_4 : Int) (b1_5 : Int) (b1_6 : Int) (b1_7 : Int) (b1_8 : Int) (b1_9 : Int) (b2_0 : Int) (b2_1 : Int) (b2_2 : Int) (b2_3 : Int) (b2_4 : Int) (b2_5 : Int) (b2_6 : Int) (b2_7 : Int) (b2_8 : Int) (r3 : List Opn) (r4 : List Pr2) (r5 : List Opn) (r6 : List Pr2) : Option R :=
 bif decide (v11 < nI v8.length) then bif decide (0 ≤ v11) then bif decide (v11 < nI v8.length) then bif decide ((r3.length + [(false, IntKind.i64.wrap (H3 b0_1 b0_4 + b2_7), v8.getD v11.toNat (ByteArray.mk #[]), ())].length) * 32 ≤ 140737488355328) then NX (v8, IntKind.i64.wrap (v11 + 1), b0_0, b0_1, b0_2, b0_3, b0_4, b0_5, b0_6, b0_7, b0_8, b0_9, b1_0, b1_1, b1_2, b1_3, b1_4, b1_5, b1_6, b1_7, b1_8, b1_9, b2_0, b2_1, b2_2, b2_3, b2_4, b2_5, b2_6, IntKind.i64.wrap (b2_7 + 1), IntKind.i64.wrap (b2_8 + 1), r3 ++ [(false, IntKind.i64.wrap (H3 b0_1 b0_4 + b2_7), v8.getD v11.toNat (ByteArray.mk #[]), ())], r4, r5, r6, ()) else none else none else none else X2 (b1_0, b1_1, b1_2, b1_3, b1_4, b1_5, b1_6, b1_7, b1_8, b1_9, b2_0, b2_1, b2_2, b2_3, b2_4, b2_5, b2_6, b2_7, b2_8, r3, r4, r5, r6, ())
noncomputable def Bj : Nat → (List ByteArray) → (Int) → (Int) → (Int) → (Int) → (Int) → (Int) → (Int) → (Int) → (Int) → (Int) → (List Pr2) → (Int) → (Int) → (Int) → (Int) → (Int) → (Int) → (Int) → (Int) → (Int) → (Int) → (Int) → (Int) → (Int) → (Int) → (Int) → (Int) → (Int) → (Int) → (Int) → (List Opn) → (List Pr2) → (List Opn) → (List Pr2) →  Option ((Int) × (Int) × (Int) × (Int) × (Int) × (Int) × (Int) × (Int) × (Int) × (Int) × (Int) × (Int) × (Int) × (Int) × (Int) × (Int) × (Int) × (Int) × (Int) × (List Opn) × (List Pr2) × (List Opn) × (List Pr2) × Unit)
 | 0, _, _, _, _, _, _, _, _, _, _, _, _, _, _, _, _, _, _, _, _, _, _, _, _, _, _, _, _, _, _, _, _, _, _, _ => none
 | m + 1, v8, v11, b0_0, b0_1, b0_2, b0_3, b0_4, b0_5, b0_6, b0_7, b0_8, b0_9, b1_0, b1_1, b1_2, b1_3, b1_4, b1_5, b1_6, b1_7, b1_8, b1_9, b2_0, b2_1, b2_2, b2_3, b2_4, b2_5, b2_6, b2_7, b2_8, r3, r4, r5, r6 => Fi  (fun d => Bj m d.1 d.2.1 d.2.2.1 d.2.2.2.1 d.2.2.2.2.1 d.2.2.2.2.2.1 d.2.2.2.2.2.2.1 d.2.2.2.2.2.2.2.1 d.2.2.2.2.2.2.2.2.1 d.2.2.2.2.2.2.2.2.2.1 d.2.2.2.2.2.2.2.2.2.2.1 d.2.2.2.2.2.2.2.2.2.2.2.1 d.2.2.2.2.2.2.2.2.2.2.2.2.1 d.2.2.2.2.2.2.2.2.2.2.2.2.2.1 d.2.2.2.2.2.2.2.2.2.2.2.2.2.2.1 d.2.2.2.2.2.2.2.2.2.2.2.2.2.2.2.1 d.2.2.2.2.2.2.2.2.2.2.2.2.2.2.2.2.1 d.2.2.2.2.2.2.2.2.2.2.2.2.2.2.2.2.2.1 d.2.2.2.2.2.2.2.2.2.2.2.2.2.2.2.2.2.2.1 d.2.2.2.2.2.2.2.2.2.2.2.2.2.2.2.2.2.2.2.1 d.2.2.2.2.2.2.2.2.2.2.2.2.2.2.2.2.2.2.2.2.1 d.2.2.2.2.2.2.2.2.2.2.2.2.2.2.2.2.2.2.2.2.2.1 d.2.2.2.2.2.2.2.2.2.2.2.2.2.2.2.2.2.2.2.2.2.2.1 d.2.2.2.2.2.2.2.2.2.2.2.2.2.2.2.2.2.2.2.2.2.2.2.1 d.2.2.2.2.2.2.2.2.2.2.2.2.2.2.2.2.2.2.2.2.2.2.2.2.1 d.2.2.2.2.2.2.2.2.2.2.2.2.2.2.2.2.2.2.2.2.2.2.2.2.2.1 d.2.2.2.2.2.2.2.2.2.2.2.2.2.2.2.2.2.2.2.2.2.2.2.2.2.2.1 d.2.2.2.2.2.2.2.2.2.2.2.2.2.2.2.2.2.2.2.2.2.2.2.2.2.2.2.1 d.2.2.2.2.2.2.2.2.2.2.2.2.2.2.2.2.2.2.2.2.2.2.2.2.2.2.2.2.1 d.2.2.2.2.2.2.2.2.2.2.2.2.2.2.2.2.2.2.2.2.2.2.2.2.2.2.2.2.2.1 d.2.2.2.2.2.2.2.2.2.2.2.2.2.2.2.2.2.2.2.2.2.2.2.2.2.2.2.2.2.2.1 d.2.2.2.2.2.2.2.2.2.2.2.2.2.2.2.2.2.2.2.2.2.2.2.2.2.2.2.2.2.2.2.1 d.2.2.2.2.2.2.2.2.2.2.2.2.2.2.2.2.2.2.2.2.2.2.2.2.2.2.2.2.2.2.2.2.1 d.2.2.2.2.2.2.2.2.2.2.2.2.2.2.2.2.2.2.2.2.2.2.2.2.2.2.2.2.2.2.2.2.2.1 d.2.2.2.2.2.2.2.2.2.2.2.2.2.2.2.2.2.2.2.2.2.2.2.2.2.2.2.2.2.2.2.2.2.2.1) (fun d => some (d)) v8 v11 b0_0 b0_1 b0_2 b0_3 b0_4 b0_5 b0_6 b0_7 b0_8 b0_9 b1_0 b1_1 b1_2 b1_3 b1_4 b1_5 b1_6 b1_7 b1_8 b1_9 b2_0 b2_1 b2_2 b2_3 b2_4 b2_5 b2_6 b2_7 b2_8 r3 r4 r5 r6
noncomputable def Mv (a0 : Sto) (a1 : List Chg) : Option ((((Int) × (Int) × (Int) × (Int) × (Int) × (Int) × (Int) × (Int) × (Int) × (Int) × (List Pr2) × (List Opn) × Unit) × (Unit))) :=
 bif !G0 a0 then some ((1, 0, 0, 0, 0, 0, 0, 0, 0, 0, [], [], ()), ()) else bif !D1 a1 then some ((1, 0, 0, 0, 0, 0, 0, 0, 0, 0, [], [], ()), ()) else bif (Ek a0.2.2.2.2.2.2.1 a1).2 != 0 then some ((2, 0, 0, 0, 0, 0, 0, 0, 0, 0, [], [], ()), ()) else bif decide (G9 (Ek a0.2.2.2.2.2.2.1 a1).1 a0.1 > IntKind.i64.wrap (B7 a0.2.1 - 1)) then some ((3, 0, 0, 0, 0, 0, 0, 0, 0, 0, [], [], ()), ()) else ((Mu (Dm a1) a0.2.2.1 (IntKind.i64.wrap (a0.2.2.2.1.2.2.1 + a0.2.2.2.2.1)) a0.1).bind fun val => some ((val, ()), ())).bind fun val => bif decide (nI (List.length val.1.1) > IntKind.i64.wrap (B7 a0.2.1 - a0.2.2.2.2.1)) then some ((4, 0, 0, 0, 0, 0, 0, 0, 0, 0, [], [], ()), ()) else ((fun d => Bj (D3 d.1 d.2.1 d.2.2.1 d.2.2.2.1 d.2.2.2.2.1 d.2.2.2.2.2.1 d.2.2.2.2.2.2.1 d.2.2.2.2.2.2.2.1 d.2.2.2.2.2.2.2.2.1 d.2.2.2.2.2.2.2.2.2.1 d.2.2.2.2.2.2.2.2.2.2.1 d.2.2.2.2.2.2.2.2.2.2.2.1 d.2.2.2.2.2.2.2.2.2.2.2.2.1 d.2.2.2.2.2.2.2.2.2.2.2.2.2.1 d.2.2.2.2.2.2.2.2.2.2.2.2.2.2.1 d.2.2.2.2.2.2.2.2.2.2.2.2.2.2.2.1 d.2.2.2.2.2.2.2.2.2.2.2.2.2.2.2.2.1 d.2.2.2.2.2.2.2.2.2.2.2.2.2.2.2.2.2.1 d.2.2.2.2.2.2.2.2.2.2.2.2.2.2.2.2.2.2.1 d.2.2.2.2.2.2.2.2.2.2.2.2.2.2.2.2.2.2.2.1 d.2.2.2.2.2.2.2.2.2.2.2.2.2.2.2.2.2.2.2.2.1 d.2.2.2.2.2.2.2.2.2.2.2.2.2.2.2.2.2.2.2.2.2.1 d.2.2.2.2.2.2.2.2.2.2.2.2.2.2.2.2.2.2.2.2.2.2.1 d.2.2.2.2.2.2.2.2.2.2.2.2.2.2.2.2.2.2.2.2.2.2.2.1 d.2.2.2.2.2.2.2.2.2.2.2.2.2.2.2.2.2.2.2.2.2.2.2.2.1 d.2.2.2.2.2.2.2.2.2.2.2.2.2.2.2.2.2.2.2.2.2.2.2.2.2.1 d.2.2.2.2.2.2.2.2.2.2.2.2.2.2.2.2.2.2.2.2.2.2.2.2.2.2.1 d.2.2.2.2.2.2.2.2.2.2.2.2.2.2.2.2.2.2.2.2.2.2.2.2.2.2.2.1 d.2.2.2.2.2.2.2.2.2.2.2.2.2.2.2.2.2.2.2.2.2.2.2.2.2.2.2.2.1 d.2.2.2.2.2.2.2.2.2.2.2.2.2.2.2.2.2.2.2.2.2.2.2.2.2.2.2.2.2.1 d.2.2.2.2.2.2.2.2.2.2.2.2.2.2.2.2.2.2.2.2.2.2.2.2.2.2.2.2.2.2.1 d.2.2.2.2.2.2.2.2.2.2.2.2.2.2.2.2.2.2.2.2.2.2.2.2.2.2.2.2.2.2.2.1 d.2.2.2.2.2.2.2.2.2.2.2.2.2.2.2.2.2.2.2.2.2.2.2.2.2.2.2.2.2.2.2.2.1 d.2.2.2.2.2.2.2.2.2.2.2.2.2.2.2.2.2.2.2.2.2.2.2.2.2.2.2.2.2.2.2.2.2.1 d.2.2.2.2.2.2.2.2.2.2.2.2.2.2.2.2.2.2.2.2.2.2.2.2.2.2.2.2.2.2.2.2.2.2.1) d.1 d.2.1 d.2.2.1 d.2.2.2.1 d.2.2.2.2.1 d.2.2.2.2.2.1 d.2.2.2.2.2.2.1 d.2.2.2.2.2.2.2.1 d.2.2.2.2.2.2.2.2.1 d.2.2.2.2.2.2.2.2.2.1 d.2.2.2.2.2.2.2.2.2.2.1 d.2.2.2.2.2.2.2.2.2.2.2.1 d.2.2.2.2.2.2.2.2.2.2.2.2.1 d.2.2.2.2.2.2.2.2.2.2.2.2.2.1 d.2.2.2.2.2.2.2.2.2.2.2.2.2.2.1 d.2.2.2.2.2.2.2.2.2.2.2.2.2.2.2.1 d.2.2.2.2.2.2.2.2.2.2.2.2.2.2.2.2.1 d.2.2.2.2.2.2.2.2.2.2.2.2.2.2.2.2.2.1 d.2.2.2.2.2.2.2.2.2.2.2.2.2.2.2.2.2.2.1 d.2.2.2.2.2.2.2.2.2.2.2.2.2.2.2.2.2.2.2.1 d.2.2.2.2.2.2.2.2.2.2.2.2.2.2.2.2.2.2.2.2.1 d.2.2.2.2.2.2.2.2.2.2.2.2.2.2.2.2.2.2.2.2.2.1 d.2.2.2.2.2.2.2.2.2.2.2.2.2.2.2.2.2.2.2.2.2.2.1 d.2.2.2.2.2.2.2.2.2.2.2.2.2.2.2.2.2.2.2.2.2.2.2.1 d.2.2.2.2.2.2.2.2.2.2.2.2.2.2.2.2.2.2.2.2.2.2.2.2.1 d.2.2.2.2.2.2.2.2.2.2.2.2.2.2.2.2.2.2.2.2.2.2.2.2.2.1 d.2.2.2.2.2.2.2.2.2.2.2.2.2.2.2.2.2.2.2.2.2.2.2.2.2.2.1 d.2.2.2.2.2.2.2.2.2.2.2.2.2.2.2.2.2.2.2.2.2.2.2.2.2.2.2.1 d.2.2.2.2.2.2.2.2.2.2.2.2.2.2.2.2.2.2.2.2.2.2.2.2.2.2.2.2.1 d.2.2.2.2.2.2.2.2.2.2.2.2.2.2.2.2.2.2.2.2.2.2.2.2.2.2.2.2.2.1 d.2.2.2.2.2.2.2.2.2.2.2.2.2.2.2.2.2.2.2.2.2.2.2.2.2.2.2.2.2.2.1 d.2.2.2.2.2.2.2.2.2.2.2.2.2.2.2.2.2.2.2.2.2.2.2.2.2.2.2.2.2.2.2.1 d.2.2.2.2.2.2.2.2.2.2.2.2.2.2.2.2.2.2.2.2.2.2.2.2.2.2.2.2.2.2.2.2.1 d.2.2.2.2.2.2.2.2.2.2.2.2.2.2.2.2.2.2.2.2.2.2.2.2.2.2.2.2.2.2.2.2.2.1 d.2.2.2.2.2.2.2.2.2.2.2.2.2.2.2.2.2.2.2.2.2.2.2.2.2.2.2.2.2.2.2.2.2.2.1) (val.1.1, 0, a0.1, a0.2.1, a0.2.2.1, a0.2.2.2.1.1, a0.2.2.2.1.2.1, a0.2.2.2.1.2.2.1, a0.2.2.2.1.2.2.2.1, a0.2.2.2.2.1, a0.2.2.2.2.2.1, a0.2.2.2.2.2.2.1.1, 0, 0, 0, 0, 0, 0, 0, 0, 0, 0, a0.1, a0.2.1, a0.2.2.1, a0.2.2.2.1.1, a0.2.2.2.1.2.1, a0.2.2.2.1.2.2.1, a0.2.2.2.1.2.2.2.1, a0.2.2.2.2.1, a0.2.2.2.2.2.1, [], [], [], (Ek a0.2.2.2.2.2.2.1 a1).1)).bind fun val => some ((0, val.2.2.2.2.2.2.2.2.2.2.1, val.2.2.2.2.2.2.2.2.2.2.2.1, val.2.2.2.2.2.2.2.2.2.2.2.2.1, val.2.2.2.2.2.2.2.2.2.2.2.2.2.1, val.2.2.2.2.2.2.2.2.2.2.2.2.2.2.1, val.2.2.2.2.2.2.2.2.2.2.2.2.2.2.2.1, val.2.2.2.2.2.2.2.2.2.2.2.2.2.2.2.2.1, val.2.2.2.2.2.2.2.2.2.2.2.2.2.2.2.2.2.1, val.2.2.2.2.2.2.2.2.2.2.2.2.2.2.2.2.2.2.1, val.2.2.2.2.2.2.2.2.2.2.2.2.2.2.2.2.2.2.2.2.2.2.1, val.2.2.2.2.2.2.2.2.2.2.2.2.2.2.2.2.2.2.2.1, ()), ())
theorem Aew (p0 p1 p2 p3 p4 p5 p6 p7 p8 q0 q1 q2 q3 q4 q5 q6 q7 q8 : Int) (p9 r6 : List Pr2) (L : List ByteArray) (hL : L.length ≤ 4001) (hH : 0 ≤ p4 ∧ p4 ≤ 1) (hU : 0 ≤ q7 ∧ q7 ≤ 99) (hV : 0 ≤ q8 ∧ q8 ≤ 99) :
  Bj (D3 L 0 p0 p1 p2 p3 p4 p5 p6 p7 p8 p9 0 0 0 0 0 0 0 0 0 0 q0 q1 q2 q3 q4 q5 q6 q7 q8 [] [] [] r6) L 0 p0 p1 p2 p3 p4 p5 p6 p7 p8 p9 0 0 0 0 0 0 0 0 0 0 q0 q1 q2 q3 q4 q5 q6 q7 q8 [] [] [] r6 = some (0, 0, 0, 0, 0, 0, 0, 0, 0, 0, q0, q1, q2, q3, q4, q5, q6, q7 + nI L.length, q8 + nI L.length, (j9 (Ht p4 p1 + q7) L), [], [], r6, ()) := by
 have hm := And (n := p1) hH
 have e0 : H3 p1 p4 = Ht p4 p1 := by
  show IntKind.i64.wrap (2 + IntKind.i64.wrap (p4 * A0 p1)) = 2 + p4 * A0 p1
  rw [Ae (n := p4 * A0 p1) (by omega) (by omega), Ae (by omega) (by omega)]
 have hB : 0 ≤ Ht p4 p1 ∧ Ht p4 p1 ≤ 101 := by unfold Ht; omega
 have hL := Er (xs := L) z0 (fun i (r : List Opn) => i ≤ 4001 ∧ r.length = i) (fun (i : Nat) x r => r ++ [Aqf (Ht p4 p1 + q7 + (i : Int)) x]) (g := fun m (i : Int) r => Bj m L i p0 p1 p2 p3 p4 p5 p6 p7 p8 p9 0 0 0 0 0 0 0 0 0 0 q0 q1 q2 q3 q4 q5 q6 (q7 + i) (q8 + i) r [] [] r6) (ok := fun r => (0, 0, 0, 0, 0, 0, 0, 0, 0, 0, q0, q1, q2, q3, q4, q5, q6, q7 + nI L.length, q8 + nI L.length, r, [], [], r6, ())) (fun m i r hi hI => by
   show Bj (m + 1) L i p0 p1 p2 p3 p4 p5 p6 p7 p8 p9 0 0 0 0 0 0 0 0 0 0 q0 q1 q2 q3 q4 q5 q6 (q7 + (i : Int)) (q8 + (i : Int)) r [] [] r6 = Bj m L ((i + 1 : Nat) : Int) p0 p1 p2 p3 p4 p5 p6 p7 p8 p9 0 0 0 0 0 0 0 0 0 0 q0 q1 q2 q3 q4 q5 q6 (q7 + ((i + 1 : Nat) : Int)) (q8 + ((i + 1 : Nat) : Int)) _ [] [] r6
   simp only [Bj, Fi]
   obtain ⟨h1, h2⟩ := hI
   rw [Pw hi, Gk, wI (show i < 4611686018427387904 by omega), Int.toNat_natCast, e0, Ae (n := Ht p4 p1 + (q7 + (i : Int))) (by omega) (by omega), Ae (n := q7 + (i : Int) + 1) (by omega) (by omega), Ae (n := q8 + (i : Int) + 1) (by omega) (by omega), List.length_singleton, decide_eq_true (show (r.length + 1) * 32 ≤ 140737488355328 by omega),
    show q7 + (i : Int) + 1 = q7 + ((i + 1 : Nat) : Int) by omega, show q8 + (i : Int) + 1 = q8 + ((i + 1 : Nat) : Int) by omega, show Ht p4 p1 + (q7 + (i : Int)) = Ht p4 p1 + q7 + (i : Int) by omega]
   rfl) (fun i r hi hI => ⟨by omega, by rw [List.length_append, List.length_singleton, hI.2]⟩) (fun m r hI => by
   show Bj (m + 1) L (L.length : Int) p0 p1 p2 p3 p4 p5 p6 p7 p8 p9 0 0 0 0 0 0 0 0 0 0 q0 q1 q2 q3 q4 q5 q6 (q7 + (L.length : Int)) (q8 + (L.length : Int)) r [] [] r6 = _
   simp only [Bj, Fi]
   rw [I6]
   rfl) (D3 L 0 p0 p1 p2 p3 p4 p5 p6 p7 p8 p9 0 0 0 0 0 0 0 0 0 0 q0 q1 q2 q3 q4 q5 q6 q7 q8 [] [] [] r6) 0 [] (by omega) (by simp [D3, nI]) ⟨by omega, rfl⟩
 rw [Zm, List.drop_zero, List.nil_append, show Ht p4 p1 + q7 + ((0 : Nat) : Int) = Ht p4 p1 + q7 by omega] at hL
 simp only [show q7 + ((0 : Nat) : Int) = q7 by omega, show q8 + ((0 : Nat) : Int) = q8 by omega] at hL
 exact hL
theorem Adh (a0 : Sto) (a1 : List Chg) : Mv a0 a1 = some (((Ah a0 a1).1, (Ah a0 a1).2.1.1, (Ah a0 a1).2.1.2.1, (Ah a0 a1).2.1.2.2.1, (Ah a0 a1).2.1.2.2.2.1.1, (Ah a0 a1).2.1.2.2.2.1.2.1, (Ah a0 a1).2.1.2.2.2.1.2.2.1, (Ah a0 a1).2.1.2.2.2.1.2.2.2.1, (Ah a0 a1).2.1.2.2.2.2.1, (Ah a0 a1).2.1.2.2.2.2.2.1, (Ah a0 a1).2.1.2.2.2.2.2.2.1.1, (Ah a0 a1).2.2.1, ()), (())) := by
 unfold Mv Ah Tt
 simp only [B7, Dm, Ek, G9]
 show (bif !D6 a0 then _ else bif !A4 a1 then _ else _) = _
 cases hv : D6 a0 with
 | false => rfl
 | true =>
  cases hb : A4 a1 with
  | false => rfl
  | true =>
   simp only [Bool.not_true, cond_false]
   obtain ⟨_, _, h3, _, _, h6, _, h8, h9, _⟩ := Anc hv
   obtain ⟨r1, r2⟩ := Cq h6
   have r1 := Ep r1
   have r2 := Ep r2
   have hh := O6 a0.2.1
   show (bif (D7 a0.2.2.2.2.2.2.1 a1).2 != 0 then _ else _) = _
   rcases Acy h3 hb with hc | hc
   ·rw [hc]
    show (bif decide (Mg (D7 a0.2.2.2.2.2.2.1 a1).1 a0.1 > IntKind.i64.wrap (A0 a0.2.1 - 1)) then _ else _) = (_ : Option _)
    rw [Nk]
    show _ = some (((bif decide (Mg (D7 a0.2.2.2.2.2.2.1 a1).1 a0.1 > A0 a0.2.1 - 1) then Al0 3 else _ : Don).1, _), _)
    cases hr : decide (Mg (D7 a0.2.2.2.2.2.2.1 a1).1 a0.1 > A0 a0.2.1 - 1) with
    | true => simp only [cond_true, bne_self_eq_false, cond_false]; rfl
    | false =>
     simp only [cond_false, bne_self_eq_false]
     have hl := Aa1 a1 a0.2.2.1 (a0.2.2.2.1.2.2.1 + a0.2.2.2.2.1) a0.1
     have e1 : Mu (F8 a1) a0.2.2.1 (a0.2.2.2.1.2.2.1 + a0.2.2.2.2.1) a0.1 = some (Fs a0 a1) := if_pos (Nat.le_trans (If _) (by decide))
     rw [Ae (n := a0.2.2.2.1.2.2.1 + a0.2.2.2.2.1) (by omega) (by omega), e1]
     simp only [Option.bind_some]
     have hw : IntKind.i64.wrap (A0 a0.2.1 - a0.2.2.2.2.1) = A0 a0.2.1 - a0.2.2.2.2.1 := Ae (by omega) (by omega)
     simp only [hw]
     cases hq : decide (nI (Fs a0 a1).length > A0 a0.2.1 - a0.2.2.2.2.1) with
     | true => rfl
     | false =>
      simp only [cond_false]
      have hl : (Fs a0 a1).length ≤ 4001 := hl
      refine Zl (Aew a0.1 a0.2.1 a0.2.2.1 a0.2.2.2.1.1 a0.2.2.2.1.2.1 a0.2.2.2.1.2.2.1 a0.2.2.2.1.2.2.2.1 a0.2.2.2.2.1 a0.2.2.2.2.2.1 a0.1 a0.2.1 a0.2.2.1 a0.2.2.2.1.1 a0.2.2.2.1.2.1 a0.2.2.2.1.2.2.1 a0.2.2.2.1.2.2.2.1 a0.2.2.2.2.1 a0.2.2.2.2.2.1 a0.2.2.2.2.2.2.1.1 (D7 a0.2.2.2.2.2.2.1 a1).1.1 (Fs a0 a1) hl r1 ⟨by omega, by omega⟩ ⟨by omega, by omega⟩) ?_
      rfl
   ·rw [hc]
    rfl
noncomputable def Nv {R : Type} (k : Kt R) := (Ln (pa_spec_Commit 17) (.exit 0) 2 k)
noncomputable def Uk {R : Type} : Lt R pa_spec_Commit := (Gb (pat := pa_spec_Commit) 17 (fun d k => (Bj (D3 d.1 d.2.1 d.2.2.1 d.2.2.2.1 d.2.2.2.2.1 d.2.2.2.2.2.1 d.2.2.2.2.2.2.1 d.2.2.2.2.2.2.2.1 d.2.2.2.2.2.2.2.2.1 d.2.2.2.2.2.2.2.2.2.1 d.2.2.2.2.2.2.2.2.2.2.1 d.2.2.2.2.2.2.2.2.2.2.2.1 d.2.2.2.2.2.2.2.2.2.2.2.2.1 d.2.2.2.2.2.2.2.2.2.2.2.2.2.1 d.2.2.2.2.2.2.2.2.2.2.2.2.2.2.1 d.2.2.2.2.2.2.2.2.2.2.2.2.2.2.2.1 d.2.2.2.2.2.2.2.2.2.2.2.2.2.2.2.2.1 d.2.2.2.2.2.2.2.2.2.2.2.2.2.2.2.2.2.1 d.2.2.2.2.2.2.2.2.2.2.2.2.2.2.2.2.2.2.1 d.2.2.2.2.2.2.2.2.2.2.2.2.2.2.2.2.2.2.2.1 d.2.2.2.2.2.2.2.2.2.2.2.2.2.2.2.2.2.2.2.2.1 d.2.2.2.2.2.2.2.2.2.2.2.2.2.2.2.2.2.2.2.2.2.1 d.2.2.2.2.2.2.2.2.2.2.2.2.2.2.2.2.2.2.2.2.2.2.1 d.2.2.2.2.2.2.2.2.2.2.2.2.2.2.2.2.2.2.2.2.2.2.2.1 d.2.2.2.2.2.2.2.2.2.2.2.2.2.2.2.2.2.2.2.2.2.2.2.2.1 d.2.2.2.2.2.2.2.2.2.2.2.2.2.2.2.2.2.2.2.2.2.2.2.2.2.1 d.2.2.2.2.2.2.2.2.2.2.2.2.2.2.2.2.2.2.2.2.2.2.2.2.2.2.1 d.2.2.2.2.2.2.2.2.2.2.2.2.2.2.2.2.2.2.2.2.2.2.2.2.2.2.2.1 d.2.2.2.2.2.2.2.2.2.2.2.2.2.2.2.2.2.2.2.2.2.2.2.2.2.2.2.2.1 d.2.2.2.2.2.2.2.2.2.2.2.2.2.2.2.2.2.2.2.2.2.2.2.2.2.2.2.2.2.1 d.2.2.2.2.2.2.2.2.2.2.2.2.2.2.2.2.2.2.2.2.2.2.2.2.2.2.2.2.2.2.1 d.2.2.2.2.2.2.2.2.2.2.2.2.2.2.2.2.2.2.2.2.2.2.2.2.2.2.2.2.2.2.2.1 d.2.2.2.2.2.2.2.2.2.2.2.2.2.2.2.2.2.2.2.2.2.2.2.2.2.2.2.2.2.2.2.2.1 d.2.2.2.2.2.2.2.2.2.2.2.2.2.2.2.2.2.2.2.2.2.2.2.2.2.2.2.2.2.2.2.2.2.1 d.2.2.2.2.2.2.2.2.2.2.2.2.2.2.2.2.2.2.2.2.2.2.2.2.2.2.2.2.2.2.2.2.2.2.1) d.1 d.2.1 d.2.2.1 d.2.2.2.1 d.2.2.2.2.1 d.2.2.2.2.2.1 d.2.2.2.2.2.2.1 d.2.2.2.2.2.2.2.1 d.2.2.2.2.2.2.2.2.1 d.2.2.2.2.2.2.2.2.2.1 d.2.2.2.2.2.2.2.2.2.2.1 d.2.2.2.2.2.2.2.2.2.2.2.1 d.2.2.2.2.2.2.2.2.2.2.2.2.1 d.2.2.2.2.2.2.2.2.2.2.2.2.2.1 d.2.2.2.2.2.2.2.2.2.2.2.2.2.2.1 d.2.2.2.2.2.2.2.2.2.2.2.2.2.2.2.1 d.2.2.2.2.2.2.2.2.2.2.2.2.2.2.2.2.1 d.2.2.2.2.2.2.2.2.2.2.2.2.2.2.2.2.2.1 d.2.2.2.2.2.2.2.2.2.2.2.2.2.2.2.2.2.2.1 d.2.2.2.2.2.2.2.2.2.2.2.2.2.2.2.2.2.2.2.1 d.2.2.2.2.2.2.2.2.2.2.2.2.2.2.2.2.2.2.2.2.1 d.2.2.2.2.2.2.2.2.2.2.2.2.2.2.2.2.2.2.2.2.2.1 d.2.2.2.2.2.2.2.2.2.2.2.2.2.2.2.2.2.2.2.2.2.2.1 d.2.2.2.2.2.2.2.2.2.2.2.2.2.2.2.2.2.2.2.2.2.2.2.1 d.2.2.2.2.2.2.2.2.2.2.2.2.2.2.2.2.2.2.2.2.2.2.2.2.1 d.2.2.2.2.2.2.2.2.2.2.2.2.2.2.2.2.2.2.2.2.2.2.2.2.2.1 d.2.2.2.2.2.2.2.2.2.2.2.2.2.2.2.2.2.2.2.2.2.2.2.2.2.2.1 d.2.2.2.2.2.2.2.2.2.2.2.2.2.2.2.2.2.2.2.2.2.2.2.2.2.2.2.1 d.2.2.2.2.2.2.2.2.2.2.2.2.2.2.2.2.2.2.2.2.2.2.2.2.2.2.2.2.1 d.2.2.2.2.2.2.2.2.2.2.2.2.2.2.2.2.2.2.2.2.2.2.2.2.2.2.2.2.2.1 d.2.2.2.2.2.2.2.2.2.2.2.2.2.2.2.2.2.2.2.2.2.2.2.2.2.2.2.2.2.2.1 d.2.2.2.2.2.2.2.2.2.2.2.2.2.2.2.2.2.2.2.2.2.2.2.2.2.2.2.2.2.2.2.1 d.2.2.2.2.2.2.2.2.2.2.2.2.2.2.2.2.2.2.2.2.2.2.2.2.2.2.2.2.2.2.2.2.1 d.2.2.2.2.2.2.2.2.2.2.2.2.2.2.2.2.2.2.2.2.2.2.2.2.2.2.2.2.2.2.2.2.2.1 d.2.2.2.2.2.2.2.2.2.2.2.2.2.2.2.2.2.2.2.2.2.2.2.2.2.2.2.2.2.2.2.2.2.2.1).bind (Nv k)) F5)
theorem Sw : At Tryz.prog ta_spec_Commit := Ax ⟨Vn, Mk, Xc, Ih, Aeq, Akj, Nr, Aev, Adf, trivial⟩
theorem Xf {R : Type} : Ba Tryz.prog R 101 0 pa_spec_Commit Uk co_spec_Commit_17 :=
 Dd (cfg := ⟨ta_spec_Commit, 0, 101, pa_spec_Commit⟩) 17 [] (fun NX X d => Fi  NX X d.1 d.2.1 d.2.2.1 d.2.2.2.1 d.2.2.2.2.1 d.2.2.2.2.2.1 d.2.2.2.2.2.2.1 d.2.2.2.2.2.2.2.1 d.2.2.2.2.2.2.2.2.1 d.2.2.2.2.2.2.2.2.2.1 d.2.2.2.2.2.2.2.2.2.2.1 d.2.2.2.2.2.2.2.2.2.2.2.1 d.2.2.2.2.2.2.2.2.2.2.2.2.1 d.2.2.2.2.2.2.2.2.2.2.2.2.2.1 d.2.2.2.2.2.2.2.2.2.2.2.2.2.2.1 d.2.2.2.2.2.2.2.2.2.2.2.2.2.2.2.1 d.2.2.2.2.2.2.2.2.2.2.2.2.2.2.2.2.1 d.2.2.2.2.2.2.2.2.2.2.2.2.2.2.2.2.2.1 d.2.2.2.2.2.2.2.2.2.2.2.2.2.2.2.2.2.2.1 d.2.2.2.2.2.2.2.2.2.2.2.2.2.2.2.2.2.2.2.1 d.2.2.2.2.2.2.2.2.2.2.2.2.2.2.2.2.2.2.2.2.1 d.2.2.2.2.2.2.2.2.2.2.2.2.2.2.2.2.2.2.2.2.2.1 d.2.2.2.2.2.2.2.2.2.2.2.2.2.2.2.2.2.2.2.2.2.2.1 d.2.2.2.2.2.2.2.2.2.2.2.2.2.2.2.2.2.2.2.2.2.2.2.1 d.2.2.2.2.2.2.2.2.2.2.2.2.2.2.2.2.2.2.2.2.2.2.2.2.1 d.2.2.2.2.2.2.2.2.2.2.2.2.2.2.2.2.2.2.2.2.2.2.2.2.2.1 d.2.2.2.2.2.2.2.2.2.2.2.2.2.2.2.2.2.2.2.2.2.2.2.2.2.2.1 d.2.2.2.2.2.2.2.2.2.2.2.2.2.2.2.2.2.2.2.2.2.2.2.2.2.2.2.1 d.2.2.2.2.2.2.2.2.2.2.2.2.2.2.2.2.2.2.2.2.2.2.2.2.2.2.2.2.1 d.2.2.2.2.2.2.2.2.2.2.2.2.2.2.2.2.2.2.2.2.2.2.2.2.2.2.2.2.2.1 d.2.2.2.2.2.2.2.2.2.2.2.2.2.2.2.2.2.2.2.2.2.2.2.2.2.2.2.2.2.2.1 d.2.2.2.2.2.2.2.2.2.2.2.2.2.2.2.2.2.2.2.2.2.2.2.2.2.2.2.2.2.2.2.1 d.2.2.2.2.2.2.2.2.2.2.2.2.2.2.2.2.2.2.2.2.2.2.2.2.2.2.2.2.2.2.2.2.1 d.2.2.2.2.2.2.2.2.2.2.2.2.2.2.2.2.2.2.2.2.2.2.2.2.2.2.2.2.2.2.2.2.2.1 d.2.2.2.2.2.2.2.2.2.2.2.2.2.2.2.2.2.2.2.2.2.2.2.2.2.2.2.2.2.2.2.2.2.2.1) (fun m d => Bj m d.1 d.2.1 d.2.2.1 d.2.2.2.1 d.2.2.2.2.1 d.2.2.2.2.2.1 d.2.2.2.2.2.2.1 d.2.2.2.2.2.2.2.1 d.2.2.2.2.2.2.2.2.1 d.2.2.2.2.2.2.2.2.2.1 d.2.2.2.2.2.2.2.2.2.2.1 d.2.2.2.2.2.2.2.2.2.2.2.1 d.2.2.2.2.2.2.2.2.2.2.2.2.1 d.2.2.2.2.2.2.2.2.2.2.2.2.2.1 d.2.2.2.2.2.2.2.2.2.2.2.2.2.2.1 d.2.2.2.2.2.2.2.2.2.2.2.2.2.2.2.1 d.2.2.2.2.2.2.2.2.2.2.2.2.2.2.2.2.1 d.2.2.2.2.2.2.2.2.2.2.2.2.2.2.2.2.2.1 d.2.2.2.2.2.2.2.2.2.2.2.2.2.2.2.2.2.2.1 d.2.2.2.2.2.2.2.2.2.2.2.2.2.2.2.2.2.2.2.1 d.2.2.2.2.2.2.2.2.2.2.2.2.2.2.2.2.2.2.2.2.1 d.2.2.2.2.2.2.2.2.2.2.2.2.2.2.2.2.2.2.2.2.2.1 d.2.2.2.2.2.2.2.2.2.2.2.2.2.2.2.2.2.2.2.2.2.2.1 d.2.2.2.2.2.2.2.2.2.2.2.2.2.2.2.2.2.2.2.2.2.2.2.1 d.2.2.2.2.2.2.2.2.2.2.2.2.2.2.2.2.2.2.2.2.2.2.2.2.1 d.2.2.2.2.2.2.2.2.2.2.2.2.2.2.2.2.2.2.2.2.2.2.2.2.2.1 d.2.2.2.2.2.2.2.2.2.2.2.2.2.2.2.2.2.2.2.2.2.2.2.2.2.2.1 d.2.2.2.2.2.2.2.2.2.2.2.2.2.2.2.2.2.2.2.2.2.2.2.2.2.2.2.1 d.2.2.2.2.2.2.2.2.2.2.2.2.2.2.2.2.2.2.2.2.2.2.2.2.2.2.2.2.1 d.2.2.2.2.2.2.2.2.2.2.2.2.2.2.2.2.2.2.2.2.2.2.2.2.2.2.2.2.2.1 d.2.2.2.2.2.2.2.2.2.2.2.2.2.2.2.2.2.2.2.2.2.2.2.2.2.2.2.2.2.2.1 d.2.2.2.2.2.2.2.2.2.2.2.2.2.2.2.2.2.2.2.2.2.2.2.2.2.2.2.2.2.2.2.1 d.2.2.2.2.2.2.2.2.2.2.2.2.2.2.2.2.2.2.2.2.2.2.2.2.2.2.2.2.2.2.2.2.1 d.2.2.2.2.2.2.2.2.2.2.2.2.2.2.2.2.2.2.2.2.2.2.2.2.2.2.2.2.2.2.2.2.2.1 d.2.2.2.2.2.2.2.2.2.2.2.2.2.2.2.2.2.2.2.2.2.2.2.2.2.2.2.2.2.2.2.2.2.2.1) (fun d => D3 d.1 d.2.1 d.2.2.1 d.2.2.2.1 d.2.2.2.2.1 d.2.2.2.2.2.1 d.2.2.2.2.2.2.1 d.2.2.2.2.2.2.2.1 d.2.2.2.2.2.2.2.2.1 d.2.2.2.2.2.2.2.2.2.1 d.2.2.2.2.2.2.2.2.2.2.1 d.2.2.2.2.2.2.2.2.2.2.2.1 d.2.2.2.2.2.2.2.2.2.2.2.2.1 d.2.2.2.2.2.2.2.2.2.2.2.2.2.1 d.2.2.2.2.2.2.2.2.2.2.2.2.2.2.1 d.2.2.2.2.2.2.2.2.2.2.2.2.2.2.2.1 d.2.2.2.2.2.2.2.2.2.2.2.2.2.2.2.2.1 d.2.2.2.2.2.2.2.2.2.2.2.2.2.2.2.2.2.1 d.2.2.2.2.2.2.2.2.2.2.2.2.2.2.2.2.2.2.1 d.2.2.2.2.2.2.2.2.2.2.2.2.2.2.2.2.2.2.2.1 d.2.2.2.2.2.2.2.2.2.2.2.2.2.2.2.2.2.2.2.2.1 d.2.2.2.2.2.2.2.2.2.2.2.2.2.2.2.2.2.2.2.2.2.1 d.2.2.2.2.2.2.2.2.2.2.2.2.2.2.2.2.2.2.2.2.2.2.1 d.2.2.2.2.2.2.2.2.2.2.2.2.2.2.2.2.2.2.2.2.2.2.2.1 d.2.2.2.2.2.2.2.2.2.2.2.2.2.2.2.2.2.2.2.2.2.2.2.2.1 d.2.2.2.2.2.2.2.2.2.2.2.2.2.2.2.2.2.2.2.2.2.2.2.2.2.1 d.2.2.2.2.2.2.2.2.2.2.2.2.2.2.2.2.2.2.2.2.2.2.2.2.2.2.1 d.2.2.2.2.2.2.2.2.2.2.2.2.2.2.2.2.2.2.2.2.2.2.2.2.2.2.2.1 d.2.2.2.2.2.2.2.2.2.2.2.2.2.2.2.2.2.2.2.2.2.2.2.2.2.2.2.2.1 d.2.2.2.2.2.2.2.2.2.2.2.2.2.2.2.2.2.2.2.2.2.2.2.2.2.2.2.2.2.1 d.2.2.2.2.2.2.2.2.2.2.2.2.2.2.2.2.2.2.2.2.2.2.2.2.2.2.2.2.2.2.1 d.2.2.2.2.2.2.2.2.2.2.2.2.2.2.2.2.2.2.2.2.2.2.2.2.2.2.2.2.2.2.2.1 d.2.2.2.2.2.2.2.2.2.2.2.2.2.2.2.2.2.2.2.2.2.2.2.2.2.2.2.2.2.2.2.2.1 d.2.2.2.2.2.2.2.2.2.2.2.2.2.2.2.2.2.2.2.2.2.2.2.2.2.2.2.2.2.2.2.2.2.1 d.2.2.2.2.2.2.2.2.2.2.2.2.2.2.2.2.2.2.2.2.2.2.2.2.2.2.2.2.2.2.2.2.2.2.1) Nv Sw trivial (fun f NX d => by unfold Fi; simp only [Am, Az, Ai, Option.bind_assoc, Option.bind_none, Option.bind_some]) (fun _ _ _ => by kernel_rfl)
theorem Adi : Bs Tryz.prog 17 sd_spec_Commit :=
 Av (pat := pa_spec_Commit) [co_spec_Commit_17] Uk Sw ⟨Xf, trivial⟩ Tryz.func17 (de := fun x => Mv x.1 x.2.1) (fun x r h => (Adh x.1 x.2.1).trans h) fun _ => by kernel_rfl
def Ul (a : Rt) : Option Rt := toM yRt a
def Adj : Sig := ⟨[.rd yRt], [some 4], [.rd yRt], [some 4]⟩
noncomputable def sd_laws_toRoot : SD := ⟨Adj, fun x => (Ul x.1).bind fun r => some ((r, ()), (()))⟩
noncomputable def Sx (a0 : Rt) : Option (((Rt × Unit) × (Unit))) :=
 some ((a0, ()), ())
theorem Adk (a0 : Rt) r (h : Ul a0 = some r) : Sx a0 = some ((r, ()), (())) := by
 obtain ⟨hc, rfl⟩ := Mf (t := yRt) h
 ·rfl
theorem Adl : Bs Tryz.prog 85 sd_laws_toRoot :=
 Av (pat := Ck) [] F5 (Ax (l := []) trivial) trivial Tryz.func85 (de := fun x => Sx x.1) (fun x r h => Ay (Adk x.1) h) fun _ => by kernel_rfl
def Um (a : Pr2) : Option Pr2 := toM Af a
def Adm : Sig := ⟨[.rd Af], [some 2], [.rd Af], [some 2]⟩
noncomputable def sd_laws_toPair : SD := ⟨Adm, fun x => (Um x.1).bind fun r => some ((r, ()), (()))⟩
noncomputable def Sy (a0 : Pr2) : Option (((Pr2 × Unit) × (Unit))) :=
 some ((a0, ()), ())
theorem Adn (a0 : Pr2) r (h : Um a0 = some r) : Sy a0 = some ((r, ()), (())) := by
 obtain ⟨hc, rfl⟩ := Mf (t := Af) h
 ·rfl
theorem Ado : Bs Tryz.prog 208 sd_laws_toPair :=
 Av (pat := Ck) [] F5 (Ax (l := []) trivial) trivial Tryz.func208 (de := fun x => Sy x.1) (fun x r h => Ay (Adn x.1) h) fun _ => by kernel_rfl
def Jb (a : List Pr2) : Option (List Pr2) := toM (.sl Af) a
def w6 : Sig := ⟨[.rd (.sl Af)], [none], [.own 167 Af], [none]⟩
noncomputable def sd_laws_toPairS : SD := ⟨w6, fun x => (Jb x.1).bind fun r => some ((r, ()), (()))⟩
noncomputable def ta_laws_toPairS : Tb := tb [(208, sd_laws_toPair)]
def pa_laws_toPairS : Nat → Pat × (Nat → Pat) := Gw [(4, ⟨[.sl 0 0 Af, .row 3 0 167 Af], [(0, .lf (.d (.sl Af))), (3, .lf (.row 0)), (4, .lf (.d tI))], [.row 167 Af]⟩, [(2, ⟨[.row 3 0 167 Af], [(3, .lf (.row 0))], [.row 167 Af]⟩)])]
noncomputable def co_laws_toPairS_4 : Code := (An (Bn Tryz.f167)).getD 0 .skip
def C6 (v0 : List Pr2) (v4 : Int) (r0 : List Pr2) : Nat := ((v0.length : Int) - v4).toNat + 1
noncomputable def Fj {R : Type}  (NX : ((List Pr2) × (Int) × (List Pr2) × Unit) → Option R) (X2 : Stt → Option R) (v0 : List Pr2) (v4 : Int) (r0 : List Pr2) : Option R :=
 bif decide (v4 < nI v0.length) then bif decide (0 ≤ v4) then bif decide (v4 < nI v0.length) then bif decide (0 ≤ v4) then bif decide (v4 < nI r0.length) then bif decide (v4.toNat < r0.length) then NX (v0, IntKind.i64.wrap (v4 + 1), r0.set v4.toNat (v0.getD v4.toNat (ByteArray.mk #[], ByteArray.mk #[], ())), ()) else none else none else none else none else none else X2 (r0, ())
noncomputable def Bk : Nat → (List Pr2) → (Int) → (List Pr2) →  Option Stt
 | 0, _, _, _ => none
 | m + 1, v0, v4, r0 => Fj  (fun d => Bk m d.1 d.2.1 d.2.2.1) (fun d => some (d)) v0 v4 r0
noncomputable def Le (a0 : List Pr2) : Option ((Stt × (Unit))) :=
 bif decide (nI a0.length = nI a0.length) then bif decide ((nI a0.length).toNat * 32 ≤ 140737488355328) then ((fun d => Bk (C6 d.1 d.2.1 d.2.2.1) d.1 d.2.1 d.2.2.1) (a0, 0, List.replicate (nI a0.length).toNat (ByteArray.mk #[], ByteArray.mk #[], ()), ())).bind fun val => some (val, ()) else none else none
theorem w7 (a0 : List Pr2) r (h : Jb a0 = some r) : Le a0 = some ((r, ()), (())) := by
 obtain ⟨hc, rfl⟩ := Mf (t := .sl Af) h
 obtain ⟨hl0, hall⟩ := Agb hc
 have hl : a0.length ≤ 1048576 := hl0
 clear hl0 hc h
 ·unfold Le
  have e : Int.toNat (nI a0.length) = a0.length := by simp [nI]
  have hL := Aht (xs := a0) ((ByteArray.mk #[]), (ByteArray.mk #[]), ()) (g := fun m i r => Bk m a0 i r) (ok := fun r => (r, ())) (fun m i r hi hr => by
   show Bk (m + 1) a0 i r = _
   simp only [Bk, Fj]
   have hir : i < r.length := by omega
   rw [Pw hi, Gk, Pw hir, wI (by omega)]
   simp only [cond_true, Int.toNat_natCast]
   rw [Ap1 hir]
   rfl) (fun m r => by
   show Bk (m + 1) a0 a0.length r = _
   simp only [Bk, Fj]
   rw [I6]
   rfl) (C6 a0 0 (List.replicate a0.length ((ByteArray.mk #[]), (ByteArray.mk #[]), ()))) 0 (List.replicate a0.length ((ByteArray.mk #[]), (ByteArray.mk #[]), ())) (by omega) (by simp [C6]) (by simp)
  have c1 : decide (Int.toNat (nI a0.length) * 32 ≤ 140737488355328) = true := by rw [e]; simp; omega
  rw [c1, decide_eq_true rfl, e]
  have hL' : Bk (C6 a0 0 (List.replicate a0.length ((ByteArray.mk #[]), (ByteArray.mk #[]), ()))) a0 0 (List.replicate a0.length ((ByteArray.mk #[]), (ByteArray.mk #[]), ())) = _ := hL
  show (Bk (C6 a0 0 (List.replicate a0.length ((ByteArray.mk #[]), (ByteArray.mk #[]), ()))) a0 0 (List.replicate a0.length ((ByteArray.mk #[]), (ByteArray.mk #[]), ()))).bind _ = _
  rw [hL']
  rfl
noncomputable def Nw {R : Type} (k : Kt R) := (Ln (pa_laws_toPairS 4) (.exit 0) 2 k)
noncomputable def Sz {R : Type} : Lt R pa_laws_toPairS := (Gb (pat := pa_laws_toPairS) 4 (fun d k => (Bk (C6 d.1 d.2.1 d.2.2.1) d.1 d.2.1 d.2.2.1).bind (Nw k)) F5)
theorem Q8 : At Tryz.prog ta_laws_toPairS := Ax ⟨Ado, trivial⟩
theorem Xg {R : Type} : Ba Tryz.prog R 23 0 pa_laws_toPairS Sz co_laws_toPairS_4 :=
 Dd (cfg := ⟨ta_laws_toPairS, 0, 23, pa_laws_toPairS⟩) 4 [] (fun NX X d => Fj  NX X d.1 d.2.1 d.2.2.1) (fun m d => Bk m d.1 d.2.1 d.2.2.1) (fun d => C6 d.1 d.2.1 d.2.2.1) Nw Q8 trivial (fun f NX d => by unfold Fj; simp only [Am, Az, Ai, Option.bind_assoc, Option.bind_none, Option.bind_some]) (fun _ _ _ => by kernel_rfl)
theorem w8 : Bs Tryz.prog 167 sd_laws_toPairS :=
 Av (pat := pa_laws_toPairS) [co_laws_toPairS_4] Sz Q8 ⟨Xg, trivial⟩ Tryz.func167 (de := fun x => Le x.1) (fun x r h => Ay (w7 x.1) h) fun _ => by kernel_rfl
def Jc (a : Stt) : Option Stt := toM Gi a
def w9 : Sig := ⟨[.rd Gi], [some 1], [.own 167 Af], [some 1]⟩
noncomputable def sd_laws_toState : SD := ⟨w9, fun x => (Jc x.1).bind fun r => some ((r.1, ()), (()))⟩
noncomputable def Lg (a0 : Stt) : Option ((Stt × (Unit))) :=
 ((Jb a0.1).bind fun val => some ((val, ()), ())).bind fun val => some val
theorem x3 (a0 : Stt) r (h : Jc a0 = some r) : Lg a0 = some ((r.1, ()), (())) := by
 obtain ⟨hc, rfl⟩ := Mf (t := Gi) h
 ·obtain ⟨s0, _⟩ : Dl (.sl Af) a0.1 = true ∧ True := by
   have s := hc
   obtain ⟨h0, s⟩ := F9 s
   exact ⟨h0, trivial⟩
  unfold Lg
  have e0 : Jb a0.1 = some a0.1 := Ahu (t := (.sl Af)) s0
  simp only [e0]
  rfl
theorem x4 : Bs Tryz.prog 86 sd_laws_toState :=
 Av (pat := Ck) [] F5 (Ax (l := [(167, sd_laws_toPairS)]) ⟨w8, trivial⟩) trivial Tryz.func86 (de := fun x => Lg x.1) (fun x r h => Ay (x3 x.1) h) fun _ => by kernel_rfl
def E3 (a : Sto) : Option Sto := toM Jz a
def x5 : Sig := ⟨[.rd Jz], [some 10], [.rd tI, .rd tI, .rd tI, .rd tI, .rd tI, .rd tI, .rd tI, .rd tI, .rd tI, .own 167 Af], [some 10]⟩
noncomputable def sd_laws_toStore : SD := ⟨x5, fun x => (E3 x.1).bind fun r => some ((r.1, r.2.1, r.2.2.1, r.2.2.2.1.1, r.2.2.2.1.2.1, r.2.2.2.1.2.2.1, r.2.2.2.1.2.2.2.1, r.2.2.2.2.1, r.2.2.2.2.2.1, r.2.2.2.2.2.2.1.1, ()), (()))⟩
noncomputable def Lh (a0 : Sto) : Option ((((Int) × (Int) × (Int) × (Int) × (Int) × (Int) × (Int) × (Int) × (Int) × (List Pr2) × Unit) × (Unit))) :=
 ((Jc a0.2.2.2.2.2.2.1).bind fun val => some (val, ())).bind fun val => some ((a0.1, a0.2.1, a0.2.2.1, a0.2.2.2.1.1, a0.2.2.2.1.2.1, a0.2.2.2.1.2.2.1, a0.2.2.2.1.2.2.2.1, a0.2.2.2.2.1, a0.2.2.2.2.2.1, val.1), ())
theorem x6 (a0 : Sto) r (h : E3 a0 = some r) : Lh a0 = some ((r.1, r.2.1, r.2.2.1, r.2.2.2.1.1, r.2.2.2.1.2.1, r.2.2.2.1.2.2.1, r.2.2.2.1.2.2.2.1, r.2.2.2.2.1, r.2.2.2.2.2.1, r.2.2.2.2.2.2.1.1, ()), (())) := by
 obtain ⟨hc, rfl⟩ := Mf (t := Jz) h
 ·obtain ⟨s0, s1, s2, s3, s4, s5, s6, _⟩ : Dl tI a0.1 = true ∧ Dl tI a0.2.1 = true ∧ Dl tI a0.2.2.1 = true ∧ Dl yRt a0.2.2.2.1 = true ∧ Dl tI a0.2.2.2.2.1 = true ∧ Dl tI a0.2.2.2.2.2.1 = true ∧ Dl Gi a0.2.2.2.2.2.2.1 = true ∧ True := by
   have s := hc
   obtain ⟨h0, s⟩ := F9 s
   obtain ⟨h1, s⟩ := F9 s
   obtain ⟨h2, s⟩ := F9 s
   obtain ⟨h3, s⟩ := F9 s
   obtain ⟨h4, s⟩ := F9 s
   obtain ⟨h5, s⟩ := F9 s
   obtain ⟨h6, s⟩ := F9 s
   exact ⟨h0, h1, h2, h3, h4, h5, h6, trivial⟩
  unfold Lh
  have e6 : Jc a0.2.2.2.2.2.2.1 = some a0.2.2.2.2.2.2.1 := Ahu (t := Gi) s6
  simp only [e6]
  rfl
theorem x7 : Bs Tryz.prog 18 sd_laws_toStore :=
 Av (pat := Ck) [] F5 (Ax (l := [(85, sd_laws_toRoot), (86, sd_laws_toState)]) ⟨Adl, x4, trivial⟩) trivial Tryz.func18 (de := fun x => Lh x.1) (fun x r h => Ay (x6 x.1) h) fun _ => by kernel_rfl
def Q9 (a : Chg) : Option Chg := toM A2 a
def Z3 : Sig := ⟨[.rd A2], [some 3], [.rd A2], [some 3]⟩
noncomputable def sd_laws_toChange : SD := ⟨Z3, fun x => (Q9 x.1).bind fun r => some ((r, ()), (()))⟩
noncomputable def Pi (a0 : Chg) : Option (((Chg × Unit) × (Unit))) :=
 some ((a0, ()), ())
theorem Z4 (a0 : Chg) r (h : Q9 a0 = some r) : Pi a0 = some ((r, ()), (())) := by
 obtain ⟨hc, rfl⟩ := Mf (t := A2) h
 ·rfl
theorem Z5 : Bs Tryz.prog 87 sd_laws_toChange :=
 Av (pat := Ck) [] F5 (Ax (l := []) trivial) trivial Tryz.func87 (de := fun x => Pi x.1) (fun x r h => Ay (Z4 x.1) h) fun _ => by kernel_rfl
def Dn (a : List Chg) : Option (List Chg) := toM (.sl A2) a
def Xh : Sig := ⟨[.rd (.sl A2)], [none], [.own 131 A2], [none]⟩
noncomputable def sd_laws_toChangeS : SD := ⟨Xh, fun x => (Dn x.1).bind fun r => some ((r, ()), (()))⟩
noncomputable def ta_laws_toChangeS : Tb := tb [(87, sd_laws_toChange)]
def pa_laws_toChangeS : Nat → Pat × (Nat → Pat) := Gw [(4, ⟨[.sl 0 0 A2, .row 3 0 131 A2], [(0, .lf (.d (.sl A2))), (3, .lf (.row 0)), (4, .lf (.d tI))], [.row 131 A2]⟩, [(2, ⟨[.row 3 0 131 A2], [(3, .lf (.row 0))], [.row 131 A2]⟩)])]
noncomputable def co_laws_toChangeS_4 : Code := (An (Bn Tryz.f19)).getD 0 .skip
def Cf (v0 : List Chg) (v4 : Int) (r0 : List Chg) : Nat := ((v0.length : Int) - v4).toNat + 1
noncomputable def Ee {R : Type}  (NX : ((List Chg) × (Int) × (List Chg) × Unit) → Option R) (X2 : ((List Chg) × Unit) → Option R) (v0 : List Chg) (v4 : Int) (r0 : List Chg) : Option R :=
 bif decide (v4 < nI v0.length) then bif decide (0 ≤ v4) then bif decide (v4 < nI v0.length) then bif decide (0 ≤ v4) then bif decide (v4 < nI r0.length) then bif decide (v4.toNat < r0.length) then NX (v0, IntKind.i64.wrap (v4 + 1), r0.set v4.toNat (v0.getD v4.toNat (ByteArray.mk #[], ByteArray.mk #[], false, ())), ()) else none else none else none else none else none else X2 (r0, ())
noncomputable def Bc : Nat → (List Chg) → (Int) → (List Chg) →  Option ((List Chg) × Unit)
 | 0, _, _, _ => none
 | m + 1, v0, v4, r0 => Ee  (fun d => Bc m d.1 d.2.1 d.2.2.1) (fun d => some (d)) v0 v4 r0
noncomputable def Jd (a0 : List Chg) : Option ((((List Chg) × Unit) × (Unit))) :=
 bif decide (nI a0.length = nI a0.length) then bif decide ((nI a0.length).toNat * 40 ≤ 140737488355328) then ((fun d => Bc (Cf d.1 d.2.1 d.2.2.1) d.1 d.2.1 d.2.2.1) (a0, 0, List.replicate (nI a0.length).toNat (ByteArray.mk #[], ByteArray.mk #[], false, ()), ())).bind fun val => some (val, ()) else none else none
theorem Xi (a0 : List Chg) r (h : Dn a0 = some r) : Jd a0 = some ((r, ()), (())) := by
 obtain ⟨hc, rfl⟩ := Mf (t := .sl A2) h
 obtain ⟨hl0, hall⟩ := Agb hc
 have hl : a0.length ≤ 1048576 := hl0
 clear hl0 hc h
 ·unfold Jd
  have e : Int.toNat (nI a0.length) = a0.length := by simp [nI]
  have hL := Aht (xs := a0) ((ByteArray.mk #[]), (ByteArray.mk #[]), false, ()) (g := fun m i r => Bc m a0 i r) (ok := fun r => (r, ())) (fun m i r hi hr => by
   show Bc (m + 1) a0 i r = _
   simp only [Bc, Ee]
   have hir : i < r.length := by omega
   rw [Pw hi, Gk, Pw hir, wI (by omega)]
   simp only [cond_true, Int.toNat_natCast]
   rw [Ap1 hir]
   rfl) (fun m r => by
   show Bc (m + 1) a0 a0.length r = _
   simp only [Bc, Ee]
   rw [I6]
   rfl) (Cf a0 0 (List.replicate a0.length ((ByteArray.mk #[]), (ByteArray.mk #[]), false, ()))) 0 (List.replicate a0.length ((ByteArray.mk #[]), (ByteArray.mk #[]), false, ())) (by omega) (by simp [Cf]) (by simp)
  have c1 : decide (Int.toNat (nI a0.length) * 40 ≤ 140737488355328) = true := by rw [e]; simp; omega
  rw [c1, decide_eq_true rfl, e]
  have hL' : Bc (Cf a0 0 (List.replicate a0.length ((ByteArray.mk #[]), (ByteArray.mk #[]), false, ()))) a0 0 (List.replicate a0.length ((ByteArray.mk #[]), (ByteArray.mk #[]), false, ())) = _ := hL
  show (Bc (Cf a0 0 (List.replicate a0.length ((ByteArray.mk #[]), (ByteArray.mk #[]), false, ()))) a0 0 (List.replicate a0.length ((ByteArray.mk #[]), (ByteArray.mk #[]), false, ()))).bind _ = _
  rw [hL']
  rfl
noncomputable def Lr {R : Type} (k : Kt R) := (Ln (pa_laws_toChangeS 4) (.exit 0) 2 k)
noncomputable def Pj {R : Type} : Lt R pa_laws_toChangeS := (Gb (pat := pa_laws_toChangeS) 4 (fun d k => (Bc (Cf d.1 d.2.1 d.2.2.1) d.1 d.2.1 d.2.2.1).bind (Lr k)) F5)
theorem Nx : At Tryz.prog ta_laws_toChangeS := Ax ⟨Z5, trivial⟩
theorem Tz {R : Type} : Ba Tryz.prog R 23 0 pa_laws_toChangeS Pj co_laws_toChangeS_4 :=
 Dd (cfg := ⟨ta_laws_toChangeS, 0, 23, pa_laws_toChangeS⟩) 4 [] (fun NX X d => Ee  NX X d.1 d.2.1 d.2.2.1) (fun m d => Bc m d.1 d.2.1 d.2.2.1) (fun d => Cf d.1 d.2.1 d.2.2.1) Lr Nx trivial (fun f NX d => by unfold Ee; simp only [Am, Az, Ai, Option.bind_assoc, Option.bind_none, Option.bind_some]) (fun _ _ _ => by kernel_rfl)
theorem Xj : Bs Tryz.prog 19 sd_laws_toChangeS :=
 Av (pat := pa_laws_toChangeS) [co_laws_toChangeS_4] Pj Nx ⟨Tz, trivial⟩ Tryz.func19 (de := fun x => Jd x.1) (fun x r h => Ay (Xi x.1) h) fun _ => by kernel_rfl
def Br (v lo hi : Int) : Bool := Fp v lo hi
def Al5 : Sig := ⟨[.rd tI, .rd tI, .rd tI], [none, none, none], [.rd .bool], [none]⟩
noncomputable def sd_impl_in : SD := ⟨Al5, fun x => some (((Br x.1 x.2.1 x.2.2.1), ()), (()))⟩
noncomputable def Vs (a0 : Int) (a1 : Int) (a2 : Int) : Option ((((Bool) × Unit) × (Unit))) :=
 bif decide (a0 ≥ a1) then some ((decide (a0 ≤ a2), ()), ()) else some ((false, ()), ())
theorem Al6 (a0 a1 a2 : Int) : Vs a0 a1 a2 = some ((Br a0 a1 a2, ()), ()) := by
 unfold Vs Br Fp
 by_cases h : a0 ≥ a1
 ·have : decide (a1 ≤ a0) = true := by simpa using h
  simp [h, this]
 ·have : decide (a1 ≤ a0) = false := by simpa using h
  simp [h, this]
theorem Fq : Bs Tryz.prog 112 sd_impl_in :=
 Av (pat := Ck) [] F5 (Ax (l := []) trivial) trivial Tryz.func112 (de := fun x => Vs x.1 x.2.1 x.2.2.1) (fun x r h => (Al6 x.1 x.2.1 x.2.2.1).trans h) fun _ => by kernel_rfl
def B9 (n : Int) : Int := A0 n
def Adp : Sig := ⟨[.rd tI], [none], [.rd tI], [none]⟩
noncomputable def sd_impl_Halves : SD := ⟨Adp, fun x => some (((B9 x.1), ()), (()))⟩
noncomputable def Mw (a0 : Int) : Option ((((Int) × Unit) × (Unit))) :=
 bif !Br a0 8 200 then some ((0, ()), ()) else some ((IntKind.i64.wrap ((IntKind.i64.wrap (a0 - 2)).tdiv 2), ()), ())
theorem Adq (a0 : Int) : Mw a0 = some (((B9 a0), ()), (())) := by
 unfold Mw B9 A0
 show (bif !Fp a0 8 200 then _ else _) = _
 cases h : Fp a0 8 200 with
 | false => rfl
 | true =>
  obtain ⟨h1, h2⟩ := Ep h
  rw [j8 h1 h2]
  rfl
theorem Mx : Bs Tryz.prog 91 sd_impl_Halves :=
 Av (pat := Ck) [] F5 (Ax (l := [(112, sd_impl_in)]) ⟨Fq, trivial⟩) trivial Tryz.func91 (de := fun x => Mw x.1) (fun x r h => (Adq x.1).trans h) fun _ => by kernel_rfl
def Je (k : ByteArray) : Bool := Iu k
def x8 : Sig := ⟨[.rd .str], [none], [.rd .bool], [none]⟩
noncomputable def sd_impl_goodKey : SD := ⟨x8, fun x => some (((Je x.1), ()), (()))⟩
noncomputable def Ra (a0 : ByteArray) : Option ((((Bool) × Unit) × (Unit))) :=
 some ((Br (nI a0.size) 1 20, ()), ())
theorem x9 (a0 : ByteArray) : Ra a0 = some ((Je a0, ()), ()) := rfl
theorem Rb : Bs Tryz.prog 169 sd_impl_goodKey :=
 Av (pat := Ck) [] F5 (Ax (l := [(112, sd_impl_in)]) ⟨Fq, trivial⟩) trivial Tryz.func169 (de := fun x => Ra x.1) (fun x r h => (x9 x.1).trans h) fun _ => by kernel_rfl
def D4 (b : List Chg) : Bool := A4 b
def Vt : Sig := ⟨[.rd (.sl A2)], [none], [.rd .bool], [none]⟩
noncomputable def sd_impl_ValidBatch : SD := ⟨Vt, fun x => some (((D4 x.1), ()), (()))⟩
noncomputable def ta_impl_ValidBatch : Tb := tb [(112, sd_impl_in), (169, sd_impl_goodKey)]
def pa_impl_ValidBatch : Nat → Pat × (Nat → Pat) := Gw [(5, ⟨[.sl 9 0 A2], [(9, .lf (.d (.sl A2))), (10, .lf (.d tI)), (11, .lf (.d tI))], []⟩, [(2, p0), (1, ⟨[], [(2, .lf (.d .bool))], []⟩)])]
noncomputable def co_impl_ValidBatch_5 : Code := (An (Bn Tryz.f89)).getD 0 .skip
def Dx (v9 : List Chg) (v10 : Int) (v11 : Int) : Nat := (v10 - v11).toNat + 1
noncomputable def Dy {R : Type}  (NX : ((List Chg) × (Int) × (Int) × Unit) → Option R) (X2 : (Unit) → Option R) (X1 : ((Bool) × Unit) → Option R) (v9 : List Chg) (v10 : Int) (v11 : Int) : Option R :=
 bif decide (v11 < v10) then bif decide (0 ≤ v11) then bif decide (v11 < nI v9.length) then bif !Je (v9.getD v11.toNat (ByteArray.mk #[], ByteArray.mk #[], false, ())).1 then X1 (false, ()) else bif decide (nI (ByteArray.size (v9.getD v11.toNat (ByteArray.mk #[], ByteArray.mk #[], false, ())).2.1) > 100) then X1 (false, ()) else bif (v9.getD v11.toNat (ByteArray.mk #[], ByteArray.mk #[], false, ())).2.2.1 then bif !ByteArray.toList (v9.getD v11.toNat (ByteArray.mk #[], ByteArray.mk #[], false, ())).2.1 == (ByteArray.mk #[]).toList then X1 (false, ()) else NX (v9, v10, IntKind.i64.wrap (v11 + 1), ()) else NX (v9, v10, IntKind.i64.wrap (v11 + 1), ()) else none else none else X2 PUnit.unit
noncomputable def Bl : Nat → (List Chg) → (Int) → (Int) →  Option ((Unit) ⊕ ((Bool) × Unit))
 | 0, _, _, _ => none
 | m + 1, v9, v10, v11 => Dy  (fun d => Bl m d.1 d.2.1 d.2.2.1) (fun d => some (.inl (d))) (fun d => some (.inr (d))) v9 v10 v11
noncomputable def Il (a0 : List Chg) : Option ((((Bool) × Unit) × (Unit))) :=
 bif !Br (nI a0.length) 1 20 then some ((false, ()), ()) else ((fun d => Bl (Dx d.1 d.2.1 d.2.2.1) d.1 d.2.1 d.2.2.1) (a0, nI a0.length, 0, ())).bind fun val => Gz (fun val => some ((true, ()), ())) (fun val => some (val, ())) val
theorem Vu (a0 : List Chg) : Il a0 = some (((D4 a0), ()), (())) := by
 unfold Il D4 A4
 have tl : ByteArray.toList (ByteArray.mk #[]) = [] := by decide +kernel
 show (bif !Fp (a0.length : Int) 1 20 then _ else _) = _
 cases hin : Fp (a0.length : Int) 1 20 with
 | false => rfl
 | true =>
  have hlen : a0.length ≤ 20 := by have := (Ep hin).2; omega
  have hL := Sb (n := a0.length) (fun i => Lo (a0.getD i zC)) (g := fun m i => Bl m a0 (nI a0.length) i) (ok := .inl ()) (bad := .inr (false, ())) (fun m i hi => by
   show Bl (m + 1) a0 (nI a0.length) i = _
   simp only [Bl, Dy]
   rw [tl, Pw hi, Gk, wI (show i < 4611686018427387904 by omega), Int.toNat_natCast]
   have g1 : decide (nI (ByteArray.size (List.getD a0 i (ByteArray.mk #[], ByteArray.mk #[], false, ())).2.1) > 100) = !decide ((a0.getD i zC).2.1.size ≤ 100) := Agc _ 100
   rw [g1]
   show (bif !Iu (a0.getD i zC).1 then _ else (bif _ then _ else (bif (a0.getD i zC).2.2.1 then (bif !((a0.getD i zC).2.1.toList == []) then _ else _) else _))) = _
   unfold Lo
   cases Iu (a0.getD i zC).1 <;> cases decide ((a0.getD i zC).2.1.size ≤ 100) <;> cases (a0.getD i zC).2.2.1 <;> cases ((a0.getD i zC).2.1.toList == []) <;> rfl) (fun m => by
   show Bl (m + 1) a0 (nI a0.length) (a0.length : Int) = _
   simp only [Bl, Dy]
   rw [I6]
   rfl) (Dx a0 (nI a0.length) 0) 0 (by omega) (by simp [Dx, nI])
  refine Tu hL ?_
  rw [Nat.sub_zero]
  cases (List.range' 0 a0.length).all (fun i => Lo (a0.getD i zC)) <;> rfl
noncomputable def K4 {R : Type} (k : Kt R) := (Gz (Ln (pa_impl_ValidBatch 5) (.exit 0) 2 k) (Ln (pa_impl_ValidBatch 5) .ret 1 k))
noncomputable def Ny {R : Type} : Lt R pa_impl_ValidBatch := (Gb (pat := pa_impl_ValidBatch) 5 (fun d k => (Bl (Dx d.1 d.2.1 d.2.2.1) d.1 d.2.1 d.2.2.1).bind (K4 k)) F5)
theorem My : At Tryz.prog ta_impl_ValidBatch := Ax ⟨Fq, Rb, trivial⟩
theorem S0 {R : Type} : Ba Tryz.prog R 35 0 pa_impl_ValidBatch Ny co_impl_ValidBatch_5 :=
 Dd (cfg := ⟨ta_impl_ValidBatch, 0, 35, pa_impl_ValidBatch⟩) 5 [] (fun NX X d => Dy  NX (fun e => X (.inl (e))) (fun e => X (.inr (e))) d.1 d.2.1 d.2.2.1) (fun m d => Bl m d.1 d.2.1 d.2.2.1) (fun d => Dx d.1 d.2.1 d.2.2.1) K4 My trivial (fun f NX d => by unfold Dy; simp only [Am, Az, Ai, Option.bind_assoc, Option.bind_none, Option.bind_some]) (fun _ _ _ => by kernel_rfl)
theorem Im : Bs Tryz.prog 89 sd_impl_ValidBatch :=
 Av (pat := pa_impl_ValidBatch) [co_impl_ValidBatch_5] Ny My ⟨S0, trivial⟩ Tryz.func89 (de := fun x => Il x.1) (fun x r h => (Vu x.1).trans h) fun _ => by kernel_rfl
def Z6 (v n : Int) : Option ByteArray := if 0 ≤ n ∧ n ≤ 1000 then some (Cl v n.toNat) else none
def Jf (v0 v6 : Int) (r0 : List Int) : Nat := v6.toNat + 2
def Al7 : Sig := ⟨[.rd tI, .rd tI], [none, none], [.rd .str], [none]⟩
noncomputable def sd_impl_be : SD := ⟨Al7, fun x => (Z6 x.1 x.2.1).bind fun r => some ((r, ()), (()))⟩
noncomputable def ta_impl_be : Tb := tb []
def pa_impl_be : Nat → Pat × (Nat → Pat) := Gw [(4, ⟨[.row 5 0 5 (.int .u8)], [(0, .lf (.d tI)), (5, .lf (.row 0)), (6, .lf (.d tI))], [.row 5 (.int .u8)]⟩, [(2, ⟨[.row 5 0 5 (.int .u8)], [(5, .lf (.row 0))], [.row 5 (.int .u8)]⟩)])]
noncomputable def co_impl_be_4 : Code := (An (Bn Tryz.f175)).getD 0 .skip
noncomputable def Jg {R : Type}  (NX : ((Int) × (Int) × (List Int) × Unit) → Option R) (X2 : ((List Int) × Unit) → Option R) (v0 : Int) (v6 : Int) (r0 : List Int) : Option R :=
 bif decide (v6 ≥ 0) then bif decide (0 ≤ v6) then bif decide (v6 < nI r0.length) then bif decide (v6.toNat < r0.length) then NX (v0.fdiv (2 ^ min (Int.toNat 8) 64), IntKind.i64.wrap (v6 - 1), r0.set v6.toNat (IntKind.u8.wrap v0), ()) else none else none else none else X2 (r0, ())
noncomputable def Gc : Nat → (Int) → (Int) → (List Int) →  Option ((List Int) × Unit)
 | 0, _, _, _ => none
 | m + 1, v0, v6, r0 => Jg  (fun d => Gc m d.1 d.2.1 d.2.2.1) (fun d => some (d)) v0 v6 r0
noncomputable def Vv (a0 : Int) (a1 : Int) : Option ((((ByteArray) × Unit) × (Unit))) :=
 bif decide (a1 = a1) then bif decide (0 ≤ a1) then bif decide (a1.toNat * 1 ≤ 140737488355328) then ((fun d => Gc (Jf d.1 d.2.1 d.2.2.1) d.1 d.2.1 d.2.2.1) (a0, IntKind.i64.wrap (a1 - 1), List.replicate a1.toNat 0, ())).bind fun val => some ((strOfNums val.1, ()), ()) else none else none else none
theorem Ani : ∀ (k m : Nat) (v : Int) (l t : List Int), l.length = k → k ≤ 1000 → k < m → Gc m v ((k : Int) - 1) (l ++ t) = some (Me v k ++ t, ())
 | 0, m + 1, v, l, t, hl, hk, hm => by
  obtain rfl : l = [] := List.length_eq_zero_iff.1 hl
  simp only [Gc, Jg]
  rw [decide_eq_false (by omega)]
  rfl
 | k + 1, m + 1, v, l, t, hl, hk, hm => by
  have e : (((k + 1 : Nat) : Int) - 1) = (k : Int) := by omega
  rw [e]
  simp only [Gc, Jg]
  have hlen : (l ++ t).length = k + 1 + t.length := by rw [List.length_append, hl]
  rw [decide_eq_true (show (k : Int) ≥ 0 by omega), decide_eq_true (show (k : Int) < nI (l ++ t).length by simp only [nI, hlen]; omega), decide_eq_true (show Int.toNat (k : Int) < (l ++ t).length by rw [hlen]; omega), Ae (by omega) (by omega)]
  simp only [cond_true, Int.toNat_natCast]
  obtain ⟨l', x, rfl⟩ : ∃ l' x, l = l' ++ [x] := ⟨l.dropLast, l.getLast (by intro h; subst h; simp at hl), (List.dropLast_concat_getLast _).symm⟩
  have hl' : l'.length = k := by simpa using hl
  have hs : ((l' ++ [x]) ++ t).set k (IntKind.wrap IntKind.u8 v) = l' ++ (v % 256 :: t) := by
   rw [List.append_assoc, List.set_append_right _ _ (by omega), hl']
   simp only [Nat.sub_self, List.singleton_append, List.set_cons_zero]
   rfl
  rw [hs]
  have := Ani k m (v / 256) l' (v % 256 :: t) hl' (by omega) (by omega)
  have e2 : Int.fdiv v (2 ^ min (Int.toNat 8) 64) = v / 256 := by
   show Int.fdiv v 256 = v / 256
   exact Int.fdiv_eq_ediv_of_nonneg _ (by omega)
  rw [e2, this]
  simp only [Me, List.append_assoc, List.singleton_append]
theorem Al8 (a0 : Int) (a1 : Int) r (h : Z6 a0 a1 = some r) : Vv a0 a1 = some ((r, ()), (())) := by
 unfold Z6 at h
 split at h
 ·rename_i hc
  cases h
  obtain ⟨n, rfl⟩ : ∃ n : Nat, a1 = (n : Int) := ⟨a1.toNat, by omega⟩
  unfold Vv
  rw [decide_eq_true rfl, decide_eq_true hc.1, decide_eq_true (show Int.toNat (n : Int) * 1 ≤ 140737488355328 by omega), Ae (by omega) (by omega)]
  have hL := Ani n (Jf a0 ((n : Int) - 1) (List.replicate n 0)) a0 (List.replicate n 0) [] (by simp) (by omega) (by simp only [Jf]; omega)
  rw [List.append_nil, List.append_nil] at hL
  exact Tu hL rfl
 ·cases h
noncomputable def Xk {R : Type} (k : Kt R) := (Ln (pa_impl_be 4) (.exit 0) 2 k)
noncomputable def Ago {R : Type} : Lt R pa_impl_be := (Gb (pat := pa_impl_be) 4 (fun d k => (Gc (Jf d.1 d.2.1 d.2.2.1) d.1 d.2.1 d.2.2.1).bind (Xk k)) F5)
theorem Adr : At Tryz.prog ta_impl_be := Ax trivial
theorem Ah9 {R : Type} : Ba Tryz.prog R 24 0 pa_impl_be Ago co_impl_be_4 :=
 Dd (cfg := ⟨ta_impl_be, 0, 24, pa_impl_be⟩) 4 [] (fun NX X d => Jg  NX X d.1 d.2.1 d.2.2.1) (fun m d => Gc m d.1 d.2.1 d.2.2.1) (fun d => Jf d.1 d.2.1 d.2.2.1) Xk Adr trivial (fun f NX d => by unfold Jg; simp only [Am, Az, Ai, Option.bind_assoc, Option.bind_none, Option.bind_some]) (fun _ _ _ => by kernel_rfl)
theorem Vw : Bs Tryz.prog 175 sd_impl_be :=
 Av (pat := pa_impl_be) [co_impl_be_4] Ago Adr ⟨Ah9, trivial⟩ Tryz.func175 (de := fun x => Vv x.1 x.2.1) (fun x r h => Ay (Al8 x.1 x.2.1) h) fun _ => by kernel_rfl
def Do (b : List Chg) : ByteArray := F8 b
def Xl : Sig := ⟨[.rd (.sl A2)], [none], [.rd .str], [none]⟩
noncomputable def sd_impl_FormBatch : SD := ⟨Xl, fun x => some (((Do x.1), ()), (()))⟩
noncomputable def Jh : Tb := ⟨tbF [(89, sd_impl_ValidBatch), (175, sd_impl_be)], fun f => if f = 174 then some Tryz.f174 else none, some (214, 197), some (176, 197, 5), none⟩
def pa_impl_FormBatch : Nat → Pat × (Nat → Pat) := Gw [(6, ⟨[.sl 9 0 A2, .self 3 0, .boxRow 3 1 5 (.int .u8)], [(3, .lf (.ptr 0 0)), (9, .lf (.d (.sl A2))), (10, .lf (.d tI)), (11, .lf (.d tI))], [.box 197 [.sp 0, .row 1], .row 5 (.int .u8)]⟩, [(2, ⟨[.self 3 0, .boxRow 3 1 5 (.int .u8)], [(3, .lf (.ptr 0 0))], [.box 197 [.sp 0, .row 1], .row 5 (.int .u8)]⟩)])]
noncomputable def co_impl_FormBatch_6 : Code := (An (Bn Tryz.f94)).getD 0 .skip
def Ef (v9 : List Chg) (v10 : Int) (v11 : Int) (r1 : List Int) : Nat := (v10 - v11).toNat + 1
noncomputable def Eg {R : Type}  (NX : ((List Chg) × (Int) × (Int) × (List Int) × Unit) → Option R) (X2 : ((List Int) × Unit) → Option R) (v9 : List Chg) (v10 : Int) (v11 : Int) (r1 : List Int) : Option R :=
 bif decide (v11 < v10) then bif decide (0 ≤ v11) then bif decide (v11 < nI v9.length) then bif (v9.getD v11.toNat (ByteArray.mk #[], ByteArray.mk #[], false, ())).2.2.1 then bif decide ((ByteArray.mk #[1] ++ Cl (nI (ByteArray.size (v9.getD v11.toNat (ByteArray.mk #[], ByteArray.mk #[], false, ())).1)) (Int.toNat 1)).size + ByteArray.size (v9.getD v11.toNat (ByteArray.mk #[], ByteArray.mk #[], false, ())).1 ≤ 9223372036854775807) then bif decide (r1.length + (ByteArray.mk #[1] ++ Cl (nI (ByteArray.size (v9.getD v11.toNat (ByteArray.mk #[], ByteArray.mk #[], false, ())).1)) (Int.toNat 1) ++ (v9.getD v11.toNat (ByteArray.mk #[], ByteArray.mk #[], false, ())).1).size ≤ 140737488355328) then NX (v9, v10, IntKind.i64.wrap (v11 + 1), r1 ++ Ag (ByteArray.mk #[1] ++ Cl (nI (ByteArray.size (v9.getD v11.toNat (ByteArray.mk #[], ByteArray.mk #[], false, ())).1)) (Int.toNat 1) ++ (v9.getD v11.toNat (ByteArray.mk #[], ByteArray.mk #[], false, ())).1), ()) else none else none else bif decide ((ByteArray.mk #[0] ++ Cl (nI (ByteArray.size (v9.getD v11.toNat (ByteArray.mk #[], ByteArray.mk #[], false, ())).1)) (Int.toNat 1)).size + ByteArray.size (v9.getD v11.toNat (ByteArray.mk #[], ByteArray.mk #[], false, ())).1 ≤ 9223372036854775807) then bif decide ((ByteArray.mk #[0] ++ Cl (nI (ByteArray.size (v9.getD v11.toNat (ByteArray.mk #[], ByteArray.mk #[], false, ())).1)) (Int.toNat 1) ++ (v9.getD v11.toNat (ByteArray.mk #[], ByteArray.mk #[], false, ())).1).size + (Cl (nI (ByteArray.size (v9.getD v11.toNat (ByteArray.mk #[], ByteArray.mk #[], false, ())).2.1)) (Int.toNat 1)).size ≤ 9223372036854775807) then bif decide ((ByteArray.mk #[0] ++ Cl (nI (ByteArray.size (v9.getD v11.toNat (ByteArray.mk #[], ByteArray.mk #[], false, ())).1)) (Int.toNat 1) ++ (v9.getD v11.toNat (ByteArray.mk #[], ByteArray.mk #[], false, ())).1 ++ Cl (nI (ByteArray.size (v9.getD v11.toNat (ByteArray.mk #[], ByteArray.mk #[], false, ())).2.1)) (Int.toNat 1)).size + ByteArray.size (v9.getD v11.toNat (ByteArray.mk #[], ByteArray.mk #[], false, ())).2.1 ≤ 9223372036854775807) then bif decide (r1.length + (ByteArray.mk #[0] ++ Cl (nI (ByteArray.size (v9.getD v11.toNat (ByteArray.mk #[], ByteArray.mk #[], false, ())).1)) (Int.toNat 1) ++ (v9.getD v11.toNat (ByteArray.mk #[], ByteArray.mk #[], false, ())).1 ++ Cl (nI (ByteArray.size (v9.getD v11.toNat (ByteArray.mk #[], ByteArray.mk #[], false, ())).2.1)) (Int.toNat 1) ++ (v9.getD v11.toNat (ByteArray.mk #[], ByteArray.mk #[], false, ())).2.1).size ≤ 140737488355328) then NX (v9, v10, IntKind.i64.wrap (v11 + 1), r1 ++ Ag (ByteArray.mk #[0] ++ Cl (nI (ByteArray.size (v9.getD v11.toNat (ByteArray.mk #[], ByteArray.mk #[], false, ())).1)) (Int.toNat 1) ++ (v9.getD v11.toNat (ByteArray.mk #[], ByteArray.mk #[], false, ())).1 ++ Cl (nI (ByteArray.size (v9.getD v11.toNat (ByteArray.mk #[], ByteArray.mk #[], false, ())).2.1)) (Int.toNat 1) ++ (v9.getD v11.toNat (ByteArray.mk #[], ByteArray.mk #[], false, ())).2.1), ()) else none else none else none else none else none else none else X2 (r1, ())
noncomputable def A5 : Nat → (List Chg) → (Int) → (Int) → (List Int) →  Option ((List Int) × Unit)
 | 0, _, _, _, _ => none
 | m + 1, v9, v10, v11, r1 => Eg  (fun d => A5 m d.1 d.2.1 d.2.2.1 d.2.2.2.1) (fun d => some (d)) v9 v10 v11 r1
noncomputable def Ji (a0 : List Chg) : Option ((((ByteArray) × Unit) × (Unit))) :=
 bif !D4 a0 then some ((ByteArray.mk #[], ()), ()) else ((fun d => A5 (Ef d.1 d.2.1 d.2.2.1 d.2.2.2.1) d.1 d.2.1 d.2.2.1 d.2.2.2.1) (a0, nI a0.length, 0, [], ())).bind fun val => bif Dg val.1 then some ((strOfNums val.1, ()), ()) else none
theorem Xm (a0 : List Chg) : Ji a0 = some ((Do a0, ()), (())) := by
 unfold Ji Do F8
 show (bif !A4 a0 then _ else _) = _
 cases hv : A4 a0 with
 | false => rfl
 | true =>
  obtain ⟨hlen, hok⟩ := Ks hv
  have hL := To a0.length Acm (fun i r => r ++ W0 (a0.getD i zC)) (g := fun m i r => A5 m a0 (nI a0.length) i r) (ok := fun r => (r, ())) (fun m i r hi hr => by
   show A5 (m + 1) a0 (nI a0.length) i r = _
   simp only [A5, Eg]
   have hc := hok i hi
   obtain ⟨k1, k2, k3⟩ := Zh hc
   rw [Pw hi, Gk, wI (show i < 4611686018427387904 by omega), Int.toNat_natCast]
   show (bif (a0.getD i zC).2.2.1 then (bif decide (ByteArray.size (ByteArray.mk #[1] ++ Cl (nI (ByteArray.size (a0.getD i zC).1)) 1) + ByteArray.size (a0.getD i zC).1 ≤ 9223372036854775807) then (bif decide (List.length r + ByteArray.size (ByteArray.mk #[1] ++ Cl (nI (ByteArray.size (a0.getD i zC).1)) 1 ++ (a0.getD i zC).1) ≤ 140737488355328) then A5 m a0 (nI a0.length) ((i + 1 : Nat) : Int) (r ++ Ag (ByteArray.mk #[1] ++ Cl (nI (ByteArray.size (a0.getD i zC).1)) 1 ++ (a0.getD i zC).1)) else none) else none) else (bif decide (ByteArray.size (ByteArray.mk #[0] ++ Cl (nI (ByteArray.size (a0.getD i zC).1)) 1) + ByteArray.size (a0.getD i zC).1 ≤ 9223372036854775807) then (bif decide (ByteArray.size (ByteArray.mk #[0] ++ Cl (nI (ByteArray.size (a0.getD i zC).1)) 1 ++ (a0.getD i zC).1) + ByteArray.size (Cl (nI (ByteArray.size (a0.getD i zC).2.1)) 1) ≤ 9223372036854775807) then (bif decide (ByteArray.size (ByteArray.mk #[0] ++ Cl (nI (ByteArray.size (a0.getD i zC).1)) 1 ++ (a0.getD i zC).1 ++ Cl (nI (ByteArray.size (a0.getD i zC).2.1)) 1) + ByteArray.size (a0.getD i zC).2.1 ≤ 9223372036854775807) then (bif decide (List.length r + ByteArray.size (ByteArray.mk #[0] ++ Cl (nI (ByteArray.size (a0.getD i zC).1)) 1 ++ (a0.getD i zC).1 ++ Cl (nI (ByteArray.size (a0.getD i zC).2.1)) 1 ++ (a0.getD i zC).2.1) ≤ 140737488355328) then A5 m a0 (nI a0.length) ((i + 1 : Nat) : Int) (r ++ Ag (ByteArray.mk #[0] ++ Cl (nI (ByteArray.size (a0.getD i zC).1)) 1 ++ (a0.getD i zC).1 ++ Cl (nI (ByteArray.size (a0.getD i zC).2.1)) 1 ++ (a0.getD i zC).2.1)) else none) else none) else none) else none)) = A5 m a0 (nI a0.length) ((i + 1 : Nat) : Int) (r ++ W0 (a0.getD i zC))
   have hr1 := hr.1
   generalize a0.getD i zC = c at *
   have o1 : Ag (ByteArray.mk #[1]) = [1] := rfl
   have o0 : Ag (ByteArray.mk #[0]) = [0] := rfl
   have s1 : ByteArray.size (ByteArray.mk #[1]) = 1 := rfl
   have s0 : ByteArray.size (ByteArray.mk #[0]) = 1 := rfl
   simp only [Kb, Ajx _ (show c.1.size < 256 by omega), Ajx _ (show c.2.1.size < 256 by omega), o1, o0, ByteArray.size_append, G5, s1, s0]
   rw [decide_eq_true (show 1 + 1 + c.1.size ≤ 9223372036854775807 by omega), decide_eq_true (show r.length + (1 + 1 + c.1.size) ≤ 140737488355328 by omega), decide_eq_true (show 1 + 1 + c.1.size + 1 ≤ 9223372036854775807 by omega), decide_eq_true (show 1 + 1 + c.1.size + 1 + c.2.1.size ≤ 9223372036854775807 by omega), decide_eq_true (show r.length + (1 + 1 + c.1.size + 1 + c.2.1.size) ≤ 140737488355328 by omega)]
   unfold W0
   cases c.2.2.1 <;> rfl) (fun m r _ => by
   show A5 (m + 1) a0 (nI a0.length) (a0.length : Int) r = _
   simp only [A5, Eg]
   rw [I6]
   rfl) (fun i r hi hr => hr.step (hok i hi)) a0.length (Ef a0 (nI a0.length) 0 []) 0 [] (by omega) (by simp [Ef, nI]) ⟨by simp, rfl⟩
  have hB := Ajy hok a0.length 0 [] (by omega) ⟨by simp, rfl⟩
  rw [Acl W0 zC a0 a0.length 0 [] (by omega), List.nil_append, List.drop_zero] at hL hB
  refine Tu hL ?_
  show (bif Dg (Qn a0) then some ((strOfNums (Qn a0), ()), ()) else none) = _
  have : Dg (Qn a0) = true := hB.2
  rw [this]
  rfl
noncomputable def Ls {R : Type} (k : Kt R) := (Ln (pa_impl_FormBatch 6) (.exit 0) 2 k)
noncomputable def Pk {R : Type} : Lt R pa_impl_FormBatch := (Gb (pat := pa_impl_FormBatch) 6 (fun d k => (A5 (Ef d.1 d.2.1 d.2.2.1 d.2.2.2.1) d.1 d.2.1 d.2.2.1 d.2.2.2.1).bind (Ls k)) F5)
theorem Nz : At Tryz.prog Jh where
 sd := Ahr (l := [(89, sd_impl_ValidBatch), (175, sd_impl_be)]) ⟨Im, Vw, trivial⟩
 inl := fun f fn h => by
  simp only [Jh] at h
  split at h
  ·rename_i e; subst e; cases h; exact ⟨Tryz.func174, by kernel_rfl, by kernel_rfl⟩
  cases h
 cc := fun f BT h => by cases h; exact ⟨⟨_, Tryz.func214, by kernel_rfl, by kernel_rfl⟩, Aro⟩
 st := fun f BT e h => by cases h; exact ⟨⟨_, Tryz.func176, by kernel_rfl, by kernel_rfl⟩, Arp⟩
 srt := fun fs fc BT U e h => by cases h
theorem T1 {R : Type} : Ba Tryz.prog R 45 0 pa_impl_FormBatch Pk co_impl_FormBatch_6 :=
 Dd (cfg := ⟨Jh, 0, 45, pa_impl_FormBatch⟩) 6 [] (fun NX X d => Eg  NX X d.1 d.2.1 d.2.2.1 d.2.2.2.1) (fun m d => A5 m d.1 d.2.1 d.2.2.1 d.2.2.2.1) (fun d => Ef d.1 d.2.1 d.2.2.1 d.2.2.2.1) Ls Nz trivial (fun f NX d => by unfold Eg; simp only [Am, Az, Ai, Option.bind_assoc, Option.bind_none, Option.bind_some]) (fun _ _ _ => by kernel_rfl)
theorem N0 : Bs Tryz.prog 94 sd_impl_FormBatch :=
 Av (pat := pa_impl_FormBatch) [co_impl_FormBatch_6] Pk Nz ⟨T1, trivial⟩ Tryz.func94 (de := fun x => Ji x.1) (fun x r h => (Xm x.1).trans h) fun _ => by kernel_rfl
def C7 (s : Stt) : Bool := A3 s
def Vx : Sig := ⟨[.rd Gi], [some 1], [.rd .bool], [none]⟩
noncomputable def sd_impl_ValidState : SD := ⟨Vx, fun x => some (((C7 x.1), ()), (()))⟩
noncomputable def ta_impl_ValidState : Tb := tb [(169, sd_impl_goodKey)]
def pa_impl_ValidState : Nat → Pat × (Nat → Pat) := Gw [(5, ⟨[.sl 10 0 Af, .boxSl 1 0 Af], [(1, .lf (.ptr 0 0)), (10, .lf (.d (.sl Af))), (11, .lf (.d tI)), (12, .lf (.d tI))], [.box 31 [.d (.sl Af)]]⟩, [(2, p0), (1, ⟨[], [(2, .lf (.d .bool))], []⟩)])]
noncomputable def co_impl_ValidState_5 : Code := (An (Bn Tryz.f156)).getD 0 .skip
def B5 (v10 : List Pr2) (v11 : Int) (v12 : Int) (b0_0 : List Pr2) : Nat := (v11 - v12).toNat + 1
noncomputable def Dz {R : Type}  (NX : ((List Pr2) × (Int) × (Int) × (List Pr2) × Unit) → Option R) (X2 : (Unit) → Option R) (X1 : ((Bool) × Unit) → Option R) (v10 : List Pr2) (v11 : Int) (v12 : Int) (b0_0 : List Pr2) : Option R :=
 bif decide (v12 < v11) then bif decide (0 ≤ v12) then bif decide (v12 < nI v10.length) then bif !Je (v10.getD v12.toNat (ByteArray.mk #[], ByteArray.mk #[], ())).1 then X1 (false, ()) else bif decide (nI (ByteArray.size (v10.getD v12.toNat (ByteArray.mk #[], ByteArray.mk #[], ())).2.1) > 100) then X1 (false, ()) else bif decide (v12 > 0) then bif decide (0 ≤ IntKind.i64.wrap (v12 - 1)) then bif decide (IntKind.i64.wrap (v12 - 1) < nI b0_0.length) then bif !Op.bytesLess (ByteArray.toList (b0_0.getD (IntKind.i64.wrap (v12 - 1)).toNat (ByteArray.mk #[], ByteArray.mk #[], ())).1) (ByteArray.toList (v10.getD v12.toNat (ByteArray.mk #[], ByteArray.mk #[], ())).1) then X1 (false, ()) else NX (v10, v11, IntKind.i64.wrap (v12 + 1), b0_0, ()) else none else none else NX (v10, v11, IntKind.i64.wrap (v12 + 1), b0_0, ()) else none else none else X2 PUnit.unit
noncomputable def A8 : Nat → (List Pr2) → (Int) → (Int) → (List Pr2) →  Option ((Unit) ⊕ ((Bool) × Unit))
 | 0, _, _, _, _ => none
 | m + 1, v10, v11, v12, b0_0 => Dz  (fun d => A8 m d.1 d.2.1 d.2.2.1 d.2.2.2.1) (fun d => some (.inl (d))) (fun d => some (.inr (d))) v10 v11 v12 b0_0
noncomputable def In (a0 : Stt) : Option ((((Bool) × Unit) × (Unit))) :=
 bif decide (nI (List.length a0.1) > 100) then some ((false, ()), ()) else ((fun d => A8 (B5 d.1 d.2.1 d.2.2.1 d.2.2.2.1) d.1 d.2.1 d.2.2.1 d.2.2.2.1) (a0.1, nI (List.length a0.1), 0, a0)).bind fun val => Gz (fun val => some ((true, ()), ())) (fun val => some (val, ())) val
theorem Vy (a0 : Stt) : In a0 = some ((C7 a0, ()), ()) := by
 unfold In C7 A3
 have c1 : decide (nI a0.1.length > 100) = !decide (a0.1.length ≤ 100) := Agc _ 100
 by_cases hl : a0.1.length ≤ 100
 ·have hL := Sb (n := a0.1.length) (Gj a0.1) (g := fun m i => A8 m a0.1 (nI a0.1.length) i a0.1) (ok := .inl ()) (bad := .inr (false, ())) (fun m i hi => by
   show A8 (m + 1) a0.1 (nI a0.1.length) i a0.1 = _
   simp only [A8, Dz]
   have g1 : decide (nI (ByteArray.size (List.getD a0.1 i (ByteArray.mk #[], ByteArray.mk #[], ())).2.1) > 100) = !decide (ByteArray.size (List.getD a0.1 i zP).2.1 ≤ 100) := Agc _ 100
   rw [Pw hi, Gk, wI (show i < 4611686018427387904 by omega), Int.toNat_natCast, gt0, g1]
   simp only [cond_true]
   unfold Gj bl
   show (bif !Iu (List.getD a0.1 i zP).1 then _ else _) = _
   cases i with
   | zero =>
    show (bif !Iu (List.getD a0.1 0 zP).1 then _ else bif !decide (ByteArray.size (List.getD a0.1 0 zP).2.1 ≤ 100) then _ else _) = _
    cases Iu (List.getD a0.1 0 zP).1 <;> cases decide (ByteArray.size (List.getD a0.1 0 zP).2.1 ≤ 100) <;> rfl
   | succ j =>
    rw [wP j (by omega), Gk, Pw (show j < a0.1.length by omega)]
    show (bif !Iu (List.getD a0.1 (j + 1) zP).1 then _ else bif !decide (ByteArray.size (List.getD a0.1 (j + 1) zP).2.1 ≤ 100) then _ else bif !Op.bytesLess (ByteArray.toList (List.getD a0.1 j zP).1) (ByteArray.toList (List.getD a0.1 (j + 1) zP).1) then _ else _) = _
    rw [Nat.add_sub_cancel]
    cases Iu (List.getD a0.1 (j + 1) zP).1 <;> cases decide (ByteArray.size (List.getD a0.1 (j + 1) zP).2.1 ≤ 100) <;> cases Op.bytesLess (ByteArray.toList (List.getD a0.1 j zP).1) (ByteArray.toList (List.getD a0.1 (j + 1) zP).1) <;> rfl) (fun m => by
   show A8 (m + 1) a0.1 (nI a0.1.length) (a0.1.length : Int) a0.1 = _
   simp only [A8, Dz]
   rw [I6]
   rfl) (B5 a0.1 (nI a0.1.length) 0 a0.1) 0 (by omega) (by simp [B5, nI])
  have hL' : A8 (B5 a0.1 (nI a0.1.length) 0 a0.1) a0.1 (nI a0.1.length) 0 a0.1 = _ := hL
  rw [c1, decide_eq_true hl]
  show (A8 (B5 a0.1 (nI a0.1.length) 0 a0.1) a0.1 (nI a0.1.length) 0 a0.1).bind _ = _
  rw [hL']
  cases (List.range' 0 (a0.1.length - 0)).all (Gj a0.1) <;> rfl
 ·rw [c1, decide_eq_false hl]
  rfl
noncomputable def K5 {R : Type} (k : Kt R) := (Gz (Ln (pa_impl_ValidState 5) (.exit 0) 2 k) (Ln (pa_impl_ValidState 5) .ret 1 k))
noncomputable def N1 {R : Type} : Lt R pa_impl_ValidState := (Gb (pat := pa_impl_ValidState) 5 (fun d k => (A8 (B5 d.1 d.2.1 d.2.2.1 d.2.2.2.1) d.1 d.2.1 d.2.2.1 d.2.2.2.1).bind (K5 k)) F5)
theorem Mz : At Tryz.prog ta_impl_ValidState := Ax ⟨Rb, trivial⟩
theorem S1 {R : Type} : Ba Tryz.prog R 44 0 pa_impl_ValidState N1 co_impl_ValidState_5 :=
 Dd (cfg := ⟨ta_impl_ValidState, 0, 44, pa_impl_ValidState⟩) 5 [] (fun NX X d => Dz  NX (fun e => X (.inl (e))) (fun e => X (.inr (e))) d.1 d.2.1 d.2.2.1 d.2.2.2.1) (fun m d => A8 m d.1 d.2.1 d.2.2.1 d.2.2.2.1) (fun d => B5 d.1 d.2.1 d.2.2.1 d.2.2.2.1) K5 Mz trivial (fun f NX d => by unfold Dz; simp only [Am, Az, Ai, Option.bind_assoc, Option.bind_none, Option.bind_some]) (fun _ _ _ => by kernel_rfl)
theorem Io : Bs Tryz.prog 156 sd_impl_ValidState :=
 Av (pat := pa_impl_ValidState) [co_impl_ValidState_5] N1 Mz ⟨S1, trivial⟩ Tryz.func156 (de := fun x => In x.1) (fun x r h => (Vy x.1).trans h) fun _ => by kernel_rfl
def Gp (s : Stt) : List (List Chg) := Cy s
def Z7 : Sig := ⟨[.rd Gi], [some 1], [.rd (.sl (.sl A2))], [none]⟩
noncomputable def sd_impl_Snapshot : SD := ⟨Z7, fun x => some (((Gp x.1), ()), (()))⟩
noncomputable def ta_impl_Snapshot : Tb := tb [(156, sd_impl_ValidState)]
def pa_impl_Snapshot : Nat → Pat × (Nat → Pat) := Gw [(6, ⟨[.last 3 131 A2, .sl 10 0 Af], [(3, .lf (.row 0)), (10, .lf (.d (.sl Af))), (11, .lf (.d tI)), (12, .lf (.d tI))], [.last 59 A2 1, .row 131 A2]⟩, [(2, ⟨[.last 3 131 A2], [(3, .lf (.row 0))], [.last 59 A2 1, .row 131 A2]⟩)])]
noncomputable def co_impl_Snapshot_6 : Code := (An (Bn Tryz.f172)).getD 0 .skip
def Cu (v10 : List Pr2) (v11 : Int) (v12 : Int) (r0 : List (List Chg)) (c0 : Bool) (r1 : List Chg) : Nat := (v11 - v12).toNat + 1
noncomputable def E4 {R : Type}  (NX : ((List Pr2) × (Int) × (Int) × (List (List Chg)) × (Bool) × (List Chg) × Unit) → Option R) (X2 : ((List (List Chg)) × (Bool) × (List Chg) × Unit) → Option R) (v10 : List Pr2) (v11 : Int) (v12 : Int) (r0 : List (List Chg)) (c0 : Bool) (r1 : List Chg) : Option R :=
 bif decide (v12 < v11) then bif decide (0 ≤ v12) then bif decide (v12 < nI v10.length) then bif v12.tmod 20 == 0 then bif decide ((r0.length + c0.toNat + 1) * 24 ≤ 140737488355328) then bif decide (0 ≤ IntKind.i64.wrap (nI ((bif c0 then r0 ++ [r1] else r0).length + true.toNat) - 1)) then bif decide (IntKind.i64.wrap (nI ((bif c0 then r0 ++ [r1] else r0).length + true.toNat) - 1) < nI ((bif c0 then r0 ++ [r1] else r0).length + true.toNat)) then bif decide ((IntKind.i64.wrap (nI ((bif c0 then r0 ++ [r1] else r0).length + true.toNat) - 1)).toNat = (bif c0 then r0 ++ [r1] else r0).length) then bif decide (0 ≤ IntKind.i64.wrap (nI ((bif c0 then r0 ++ [r1] else r0).length + true.toNat) - 1)) then bif decide (IntKind.i64.wrap (nI ((bif c0 then r0 ++ [r1] else r0).length + true.toNat) - 1) < nI ((bif c0 then r0 ++ [r1] else r0).length + true.toNat)) then bif decide ((IntKind.i64.wrap (nI ((bif c0 then r0 ++ [r1] else r0).length + true.toNat) - 1)).toNat = (bif c0 then r0 ++ [r1] else r0).length) then NX (v10, v11, IntKind.i64.wrap (v12 + 1), bif c0 then r0 ++ [r1] else r0, true, [] ++ [((v10.getD v12.toNat (ByteArray.mk #[], ByteArray.mk #[], ())).1, (v10.getD v12.toNat (ByteArray.mk #[], ByteArray.mk #[], ())).2.1, false, ())], ()) else none else none else none else none else none else none else none else bif decide (0 ≤ IntKind.i64.wrap (nI (r0.length + c0.toNat) - 1)) then bif decide (IntKind.i64.wrap (nI (r0.length + c0.toNat) - 1) < nI (r0.length + c0.toNat)) then bif c0 then bif decide ((IntKind.i64.wrap (nI (r0.length + c0.toNat) - 1)).toNat = r0.length) then bif decide ((r1.length + [((v10.getD v12.toNat (ByteArray.mk #[], ByteArray.mk #[], ())).1, (v10.getD v12.toNat (ByteArray.mk #[], ByteArray.mk #[], ())).2.1, false, ())].length) * 40 ≤ 140737488355328) then bif decide (0 ≤ IntKind.i64.wrap (nI (r0.length + c0.toNat) - 1)) then bif decide (IntKind.i64.wrap (nI (r0.length + c0.toNat) - 1) < nI (r0.length + c0.toNat)) then bif c0 then bif decide ((IntKind.i64.wrap (nI (r0.length + c0.toNat) - 1)).toNat = r0.length) then NX (v10, v11, IntKind.i64.wrap (v12 + 1), r0, c0, r1 ++ [((v10.getD v12.toNat (ByteArray.mk #[], ByteArray.mk #[], ())).1, (v10.getD v12.toNat (ByteArray.mk #[], ByteArray.mk #[], ())).2.1, false, ())], ()) else none else none else none else none else none else none else none else none else none else none else none else X2 (r0, c0, r1, ())
noncomputable def Bg : Nat → (List Pr2) → (Int) → (Int) → (List (List Chg)) → (Bool) → (List Chg) →  Option ((List (List Chg)) × (Bool) × (List Chg) × Unit)
 | 0, _, _, _, _, _, _ => none
 | m + 1, v10, v11, v12, r0, c0, r1 => E4  (fun d => Bg m d.1 d.2.1 d.2.2.1 d.2.2.2.1 d.2.2.2.2.1 d.2.2.2.2.2.1) (fun d => some (d)) v10 v11 v12 r0 c0 r1
noncomputable def Kh (a0 : Stt) : Option ((((List (List Chg)) × Unit) × (Unit))) :=
 bif !C7 a0 then some (([], ()), ()) else ((fun d => Bg (Cu d.1 d.2.1 d.2.2.1 d.2.2.2.1 d.2.2.2.2.1 d.2.2.2.2.2.1) d.1 d.2.1 d.2.2.1 d.2.2.2.1 d.2.2.2.2.1 d.2.2.2.2.2.1) (a0.1, nI (List.length a0.1), 0, [], false, [], ())).bind fun val => some ((bif val.2.1 then val.1 ++ [val.2.2.1] else val.1, ()), ())
theorem Z8 (a0 : Stt) : Kh a0 = some (((Gp a0), ()), (())) := by
 unfold Kh Gp Cy
 show (bif !A3 a0 then _ else _) = _
 cases hv : A3 a0 with
 | false => rfl
 | true =>
  have hl := Fy hv
  have hL := Er (xs := a0.1) zP Agi Kz (g := fun m i s => Bg m a0.1 (nI a0.1.length) i s.1 s.2.1 s.2.2) (ok := fun s => (s.1, s.2.1, s.2.2, ())) (fun m i s hi hI => by
   show Bg (m + 1) a0.1 (nI a0.1.length) i s.1 s.2.1 s.2.2 = _
   obtain ⟨r0, c0, r1⟩ := s
   obtain ⟨h1, h2, h3, h4⟩ := hI
   simp only at h2 h3 h4 ⊢
   simp only [Bg, E4]
   rw [Pw hi, Gk, wI (show i < 4611686018427387904 by omega), Int.toNat_natCast, Aqd]
   unfold Kz
   cases hc : (i % 20 == 0)
   ·have hp : 0 < i := Nat.pos_of_ne_zero fun q => by subst q; cases hc
    have hc0 := h3 hp
    subst hc0
    have e1 := Ahx r0.length (by omega)
    have e2 : decide ((r0.length : Int) < nI (r0.length + 1)) = true := Pw (Nat.lt_succ_self _)
    have e3 : decide ((r1.length + 1) * 40 ≤ 140737488355328) = true := decide_eq_true (by omega)
    simp only [Bool.toNat_true, List.length_singleton, cond_true, cond_false, e1, e2, e3, Gk, Int.toNat_natCast, decide_true]
    rfl
   ·have hL : List.length (bif c0 then r0 ++ [r1] else r0) ≤ i + 1 := by cases c0 <;> simp <;> omega
    have e1 := Ahx (List.length (bif c0 then r0 ++ [r1] else r0)) (by omega)
    have e2 : decide (((List.length (bif c0 then r0 ++ [r1] else r0) : Nat) : Int) < nI (List.length (bif c0 then r0 ++ [r1] else r0) + 1)) = true := Pw (Nat.lt_succ_self _)
    have e3 : decide ((r0.length + Bool.toNat c0 + 1) * 24 ≤ 140737488355328) = true := decide_eq_true (by cases c0 <;> simp <;> omega)
    simp only [Bool.toNat_true, cond_true, e1, e2, e3, Gk, Int.toNat_natCast, decide_true]
    rfl) (fun i s hi hI => hI.step (by omega) _) (fun m s hI => by
   show Bg (m + 1) a0.1 (nI a0.1.length) (a0.1.length : Int) s.1 s.2.1 s.2.2 = _
   simp only [Bg, E4]
   rw [I6]
   rfl) (Cu a0.1 (nI a0.1.length) 0 [] false []) 0 ([], false, []) (by omega) (by simp [Cu, nI]) ⟨by omega, by simp, fun q => by omega, by simp⟩
  have hL' : Bg (Cu a0.1 (nI a0.1.length) 0 [] false []) a0.1 (nI a0.1.length) 0 [] false [] = _ := hL
  show (Bg (Cu a0.1 (nI a0.1.length) 0 [] false []) a0.1 (nI a0.1.length) 0 [] false []).bind _ = _
  rw [hL']
  rfl
noncomputable def M0 {R : Type} (k : Kt R) := (Ln (pa_impl_Snapshot 6) (.exit 0) 2 k)
noncomputable def Rc {R : Type} : Lt R pa_impl_Snapshot := (Gb (pat := pa_impl_Snapshot) 6 (fun d k => (Bg (Cu d.1 d.2.1 d.2.2.1 d.2.2.2.1 d.2.2.2.2.1 d.2.2.2.2.2.1) d.1 d.2.1 d.2.2.1 d.2.2.2.1 d.2.2.2.2.1 d.2.2.2.2.2.1).bind (M0 k)) F5)
theorem Pl : At Tryz.prog ta_impl_Snapshot := Ax ⟨Io, trivial⟩
theorem Vz {R : Type} : Ba Tryz.prog R 43 0 pa_impl_Snapshot Rc co_impl_Snapshot_6 :=
 Dd (cfg := ⟨ta_impl_Snapshot, 0, 43, pa_impl_Snapshot⟩) 6 [] (fun NX X d => E4  NX X d.1 d.2.1 d.2.2.1 d.2.2.2.1 d.2.2.2.2.1 d.2.2.2.2.2.1) (fun m d => Bg m d.1 d.2.1 d.2.2.1 d.2.2.2.1 d.2.2.2.2.1 d.2.2.2.2.2.1) (fun d => Cu d.1 d.2.1 d.2.2.1 d.2.2.2.1 d.2.2.2.2.1 d.2.2.2.2.2.1) M0 Pl trivial (fun f NX d => by unfold E4; simp only [Am, Az, Ai, Option.bind_assoc, Option.bind_none, Option.bind_some]) (fun _ _ _ => by kernel_rfl)
theorem Z9 : Bs Tryz.prog 172 sd_impl_Snapshot :=
 Av (pat := pa_impl_Snapshot) [co_impl_Snapshot_6] Rc Pl ⟨Vz, trivial⟩ Tryz.func172 (de := fun x => Kh x.1) (fun x r h => (Z8 x.1).trans h) fun _ => by kernel_rfl
def Aia : Sig := ⟨[.rd tI], [none], [.rd tI], [none]⟩
noncomputable def Xn (a0 : Int) : Option ((((Int) × Unit) × (Unit))) :=
 some ((IntKind.i64.wrap (IntKind.i64.wrap (64 - a0) - 8), ()), ())
noncomputable def sd_impl_room : SD := ⟨Aia, fun x => Xn x.1⟩
theorem Qs : Bs Tryz.prog 157 sd_impl_room :=
 Av (pat := Ck) [] F5 (Ax (l := []) trivial) trivial Tryz.func157 (de := fun x => Xn x.1) (fun x r h => h) fun _ => by kernel_rfl
def Gd (s : ByteArray) (w : Int) : Option Int := if s.size ≤ 1099511627776 then some (C2 s.size w) else none
def Aex : Sig := ⟨[.rd .str, .rd tI], [none, none], [.rd tI], [none]⟩
noncomputable def sd_impl_Pages : SD := ⟨Aex, fun x => (Gd x.1 x.2.1).bind fun r => some ((r, ()), (()))⟩
noncomputable def Ok (a0 : ByteArray) (a1 : Int) : Option ((((Int) × Unit) × (Unit))) :=
 bif !Br a1 1 8 then some ((0, ()), ()) else bif !decide (IntKind.i64.wrap (IntKind.i64.wrap (64 - a1) - 8) = 0) then some ((if IntKind.i64.wrap ((IntKind.i64.wrap (IntKind.i64.wrap (nI a0.size + IntKind.i64.wrap (IntKind.i64.wrap (64 - a1) - 8)) - 1)).tdiv (IntKind.i64.wrap (IntKind.i64.wrap (64 - a1) - 8))) > 1 then IntKind.i64.wrap ((IntKind.i64.wrap (IntKind.i64.wrap (nI a0.size + IntKind.i64.wrap (IntKind.i64.wrap (64 - a1) - 8)) - 1)).tdiv (IntKind.i64.wrap (IntKind.i64.wrap (64 - a1) - 8))) else 1, ()), ()) else none
theorem Aey (a0 : ByteArray) (a1 : Int) r (h : Gd a0 a1 = some r) : Ok a0 a1 = some ((r, ()), (())) := by
 unfold Gd at h
 split at h
 ·rename_i hc
  cases h
  unfold Ok C2
  show (bif !Fp a1 1 8 then _ else _) = _
  cases hw : Fp a1 1 8 with
  | false => rfl
  | true =>
   have k1 := (Ep hw).1
   have k2 := (Ep hw).2
   have hq : 0 ≤ ((a0.size : Int) + (56 - a1) - 1) / (56 - a1) := Int.ediv_nonneg (by omega) (by omega)
   have hq2 : ((a0.size : Int) + (56 - a1) - 1) / (56 - a1) ≤ (a0.size : Int) + (56 - a1) - 1 := Int.ediv_le_self _ (by omega)
   rw [Ae (n := 64 - a1) (by omega) (by omega), Ae (n := 64 - a1 - 8) (by omega) (by omega), show 64 - a1 - 8 = 56 - a1 by omega]
   simp only [nI]
   rw [Ae (n := (a0.size : Int) + (56 - a1)) (by omega) (by omega), Ae (n := (a0.size : Int) + (56 - a1) - 1) (by omega) (by omega), Int.tdiv_eq_ediv_of_nonneg (by omega), Ae (n := ((a0.size : Int) + (56 - a1) - 1) / (56 - a1)) (by omega) (by omega), decide_eq_false (show ¬ (56 - a1 = 0) by omega)]
   rfl
 ·cases h
theorem Un : Bs Tryz.prog 173 sd_impl_Pages :=
 Av (pat := Ck) [] F5 (Ax (l := [(112, sd_impl_in), (157, sd_impl_room)]) ⟨Fq, Qs, trivial⟩) trivial Tryz.func173 (de := fun x => Ok x.1 x.2.1) (fun x r h => Ay (Aey x.1 x.2.1) h) fun _ => by kernel_rfl
def Hd (s : Stt) (w : Int) : Int := Mg s w
def Aib : Sig := ⟨[.rd Gi, .rd tI], [some 1, none], [.rd tI], [none]⟩
noncomputable def sd_impl_Room : SD := ⟨Aib, fun x => some (((Hd x.1 x.2.1), ()), (()))⟩
noncomputable def ta_impl_Room : Tb := tb [(94, sd_impl_FormBatch), (112, sd_impl_in), (172, sd_impl_Snapshot), (173, sd_impl_Pages)]
def pa_impl_Room : Nat → Pat × (Nat → Pat) := Gw [(6, ⟨[.sl 12 0 (.sl A2)], [(1, .lf (.d tI)), (5, .lf (.d tI)), (12, .lf (.d (.sl (.sl A2)))), (13, .lf (.d tI)), (14, .lf (.d tI))], []⟩, [(2, ⟨[], [(5, .lf (.d tI))], []⟩)])]
noncomputable def co_impl_Room_6 : Code := (An (Bn Tryz.f92)).getD 0 .skip
def E5 (v1 : Int) (v5 : Int) (v12 : List (List Chg)) (v13 : Int) (v14 : Int) : Nat := (v13 - v14).toNat + 1
noncomputable def He {R : Type}  (NX : ((Int) × (Int) × (List (List Chg)) × (Int) × (Int) × Unit) → Option R) (X2 : ((Int) × Unit) → Option R) (v1 : Int) (v5 : Int) (v12 : List (List Chg)) (v13 : Int) (v14 : Int) : Option R :=
 bif decide (v14 < v13) then bif decide (0 ≤ v14) then bif decide (v14 < nI v12.length) then ((Gd (Do (v12.getD v14.toNat [])) v1).bind fun val => some ((val, ()), ())).bind fun val => NX (v1, IntKind.i64.wrap (v5 + val.1.1), v12, v13, IntKind.i64.wrap (v14 + 1), ()) else none else none else X2 (v5, ())
noncomputable def B6 : Nat → (Int) → (Int) → (List (List Chg)) → (Int) → (Int) →  Option ((Int) × Unit)
 | 0, _, _, _, _, _ => none
 | m + 1, v1, v5, v12, v13, v14 => He  (fun d => B6 m d.1 d.2.1 d.2.2.1 d.2.2.2.1 d.2.2.2.2.1) (fun d => some (d)) v1 v5 v12 v13 v14
noncomputable def Qt (a0 : Stt) (a1 : Int) : Option ((((Int) × Unit) × (Unit))) :=
 bif !Br a1 1 8 then some ((0, ()), ()) else ((fun d => B6 (E5 d.1 d.2.1 d.2.2.1 d.2.2.2.1 d.2.2.2.2.1) d.1 d.2.1 d.2.2.1 d.2.2.2.1 d.2.2.2.2.1) (a1, 0, Gp a0, nI (Gp a0).length, 0, ())).bind fun val => some (val, ())
theorem Aic (a0 : Stt) (a1 : Int) : Qt a0 a1 = some (((Hd a0 a1), ()), (())) := by
 unfold Qt Hd
 show (bif !Fp a1 1 8 then _ else _) = _
 cases hw : Fp a1 1 8 with
 | false => unfold Mg; rw [hw]; rfl
 | true =>
  have hl := Agj a0
  have hL := Er (xs := Cy a0) [] Aoe (fun _ b a => a + C2 (F8 b).size a1) (g := fun m i a => B6 m a1 a (Cy a0) (nI (Cy a0).length) i) (ok := fun a => (a, ())) (fun m i a hi hI => by
   show B6 (m + 1) a1 a (Cy a0) (nI (Cy a0).length) i = _
   simp only [B6, He]
   rw [Pw hi, Gk, wI (show i < 4611686018427387904 by omega), Int.toNat_natCast]
   have e1 : Gd (Do (List.getD (Cy a0) i [])) a1 = some (C2 (F8 (List.getD (Cy a0) i [])).size a1) := if_pos (Nat.le_trans (If _) (by decide))
   rw [e1]
   simp only [cond_true, Option.bind_some]
   rw [Acn hI]) (fun i a hi hI => hI.step (by omega) _ _) (fun m a hI => by
   show B6 (m + 1) a1 a (Cy a0) (nI (Cy a0).length) ((Cy a0).length : Int) = _
   simp only [B6, He]
   rw [I6]
   rfl) (E5 a1 0 (Cy a0) (nI (Cy a0).length) 0) 0 0 (by omega) (by simp [E5, nI]) ⟨by omega, by omega, by omega⟩
  have hL' : B6 (E5 a1 0 (Cy a0) (nI (Cy a0).length) 0) a1 0 (Cy a0) (nI (Cy a0).length) 0 = _ := hL
  show (B6 (E5 a1 0 (Cy a0) (nI (Cy a0).length) 0) a1 0 (Cy a0) (nI (Cy a0).length) 0).bind _ = _
  rw [hL', Zk, List.drop_zero, Aj2, Int.zero_add]
  rfl
noncomputable def S2 {R : Type} (k : Kt R) := (Ln (pa_impl_Room 6) (.exit 0) 2 k)
noncomputable def l4 {R : Type} : Lt R pa_impl_Room := (Gb (pat := pa_impl_Room) 6 (fun d k => (B6 (E5 d.1 d.2.1 d.2.2.1 d.2.2.2.1 d.2.2.2.2.1) d.1 d.2.1 d.2.2.1 d.2.2.2.1 d.2.2.2.2.1).bind (S2 k)) F5)
theorem Xo : At Tryz.prog ta_impl_Room := Ax ⟨N0, Fq, Z9, Un, trivial⟩
theorem Ads {R : Type} : Ba Tryz.prog R 26 0 pa_impl_Room l4 co_impl_Room_6 :=
 Dd (cfg := ⟨ta_impl_Room, 0, 26, pa_impl_Room⟩) 6 [] (fun NX X d => He  NX X d.1 d.2.1 d.2.2.1 d.2.2.2.1 d.2.2.2.2.1) (fun m d => B6 m d.1 d.2.1 d.2.2.1 d.2.2.2.1 d.2.2.2.2.1) (fun d => E5 d.1 d.2.1 d.2.2.1 d.2.2.2.1 d.2.2.2.2.1) S2 Xo trivial (fun f NX d => by unfold He; simp only [Am, Az, Ai, Option.bind_assoc, Option.bind_none, Option.bind_some]) (fun _ _ _ => by kernel_rfl)
theorem Xp : Bs Tryz.prog 92 sd_impl_Room :=
 Av (pat := pa_impl_Room) [co_impl_Room_6] l4 Xo ⟨Ads, trivial⟩ Tryz.func92 (de := fun x => Qt x.1 x.2.1) (fun x r h => (Aic x.1 x.2.1).trans h) fun _ => by kernel_rfl
def F0 (r : Rt) : Bool := Ace r
def Xq : Sig := ⟨[.rd yRt], [some 4], [.rd .bool], [none]⟩
noncomputable def sd_impl_validRoot : SD := ⟨Xq, fun x => some (((F0 x.1), ()), (()))⟩
noncomputable def Jj (a0 : Rt) : Option ((((Bool) × Unit) × (Unit))) :=
 bif Br a0.2.1 0 1 then some ((Br a0.2.2.1 1 999999000, ()), ()) else some ((false, ()), ())
theorem Xr (a0 : Rt) : Jj a0 = some (((F0 a0), ()), (())) := by
 unfold Jj F0 Ace
 show (bif Fp a0.2.1 0 1 then _ else _) = _
 cases Fp a0.2.1 0 1 <;> rfl
theorem Xs : Bs Tryz.prog 168 sd_impl_validRoot :=
 Av (pat := Ck) [] F5 (Ax (l := [(112, sd_impl_in)]) ⟨Fq, trivial⟩) trivial Tryz.func168 (de := fun x => Jj x.1) (fun x r h => (Xr x.1).trans h) fun _ => by kernel_rfl
def G1 (s : Sto) : Bool := D6 s
def V0 : Sig := ⟨[.rd Jz], [some 10], [.rd .bool], [none]⟩
noncomputable def sd_impl_ValidStore : SD := ⟨V0, fun x => some (((G1 x.1), ()), (()))⟩
noncomputable def Ip (a0 : Sto) : Option ((((Bool) × Unit) × (Unit))) :=
 bif decide (B9 a0.2.1 > 0) then bif Br a0.1 1 8 then bif Br a0.2.2.1 1 60000 then bif Br a0.2.2.2.1.1 0 1000000000 then bif F0 a0.2.2.2.1 then bif Br a0.2.2.2.1.2.2.2.1 0 60000 then bif Br a0.2.2.2.2.1 0 (B9 a0.2.1) then bif Br a0.2.2.2.2.2.1 0 a0.2.2.2.2.1 then bif C7 a0.2.2.2.2.2.2.1 then some ((decide (Hd a0.2.2.2.2.2.2.1 a0.1 ≤ IntKind.i64.wrap (B9 a0.2.1 - 1)), ()), ()) else some ((false, ()), ()) else some ((false, ()), ()) else some ((false, ()), ()) else some ((false, ()), ()) else some ((false, ()), ()) else some ((false, ()), ()) else some ((false, ()), ()) else some ((false, ()), ()) else some ((false, ()), ())
theorem V1 (a0 : Sto) : Ip a0 = some (((G1 a0), ()), (())) := by
 unfold Ip G1 D6
 simp only [B9, Br, F0, C7, Hd, gt_iff_lt, Nk, Atl]
theorem V2 : Bs Tryz.prog 88 sd_impl_ValidStore :=
 Av (pat := Ck) [] F5 (Ax (l := [(91, sd_impl_Halves), (92, sd_impl_Room), (112, sd_impl_in), (156, sd_impl_ValidState), (168, sd_impl_validRoot)]) ⟨Mx, Xp, Fq, Io, Xs, trivial⟩) trivial Tryz.func88 (de := fun x => Ip x.1) (fun x r h => (V1 x.1).trans h) fun _ => by kernel_rfl
def Dq (s : Stt) (b : List Chg) : Stt × Int := D7 s b
def Aez : Sig := ⟨[.rd Gi, .rd (.sl A2)], [some 1, none], [.own 167 Af, .rd tI], [some 1, none]⟩
noncomputable def sd_impl_Apply : SD := ⟨Aez, fun x => some (((Dq x.1 x.2.1).1.1, (Dq x.1 x.2.1).2, ()), (()))⟩
noncomputable def Kv : Tb := ⟨tbF [(89, sd_impl_ValidBatch), (156, sd_impl_ValidState)], fun _ => none, none, none, some (170, 171, 31, 29, 167)⟩
def pa_impl_Apply : Nat → Pat × (Nat → Pat) := Gw [(6, ⟨[.sl 1 0 A2, .sl 25 0 Af, .boxRow 4 0 167 Af], [(1, .lf (.d (.sl A2))), (4, .lf (.ptr 0 0)), (6, .lf (.row 1)), (25, .lf (.d (.sl Af))), (26, .lf (.d tI)), (27, .lf (.d tI))], [.box 31 [.row 2], .map .str, .row 167 Af]⟩, [(2, ⟨[.sl 1 0 A2, .boxRow 4 0 167 Af], [(1, .lf (.d (.sl A2))), (4, .lf (.ptr 0 0)), (6, .lf (.row 1))], [.box 31 [.row 2], .map .str, .row 167 Af]⟩)]), (11, ⟨[.sl 37 0 A2, .boxRow 4 0 167 Af], [(4, .lf (.ptr 0 0)), (6, .lf (.row 1)), (37, .lf (.d (.sl A2))), (38, .lf (.d tI)), (39, .lf (.d tI))], [.box 31 [.row 2], .map .str, .row 167 Af]⟩, [(4, ⟨[.boxRow 4 0 167 Af], [(4, .lf (.ptr 0 0)), (6, .lf (.row 1))], [.box 31 [.row 2], .map .str, .row 167 Af]⟩)]), (21, ⟨[.boxRow 4 0 167 Af, .boxRow 11 0 167 Af], [(4, .lf (.ptr 0 0)), (11, .lf (.ptr 1 0)), (59, .lf (.row 2))], [.box 31 [.row 3], .box 31 [.row 4], .iter .str, .row 167 Af, .row 167 Af]⟩, [(6, ⟨[.boxRow 4 0 167 Af, .boxRow 11 0 167 Af], [(4, .lf (.ptr 0 0)), (11, .lf (.ptr 1 0))], [.box 31 [.row 2], .box 31 [.row 3], .row 167 Af, .row 167 Af]⟩)])]
noncomputable def co_impl_Apply_6 : Code := (An (Bn Tryz.f90)).getD 0 .skip
noncomputable def co_impl_Apply_11 : Code := (An (Bn Tryz.f90)).getD 1 .skip
noncomputable def co_impl_Apply_21 : Code := (An (Bn Tryz.f90)).getD 2 .skip
noncomputable def Hn (i2 : List (ByteArray × ByteArray)) (l2 : List (ByteArray × ByteArray)) (c2 : Option (ByteArray × ByteArray)) (r3 : List Pr2) (r4 : List Pr2) (e0 : ByteArray) (e1 : ByteArray) (e2 : List (ByteArray × ByteArray)) : Option ((List (ByteArray × ByteArray)) × (List (ByteArray × ByteArray)) × (Option (ByteArray × ByteArray)) × (List Pr2) × (List Pr2) × Unit) :=
 bif decide ((r4.length + [(e0, e1, ())].length) * 32 ≤ 140737488355328) then some (i2, e2, some (e0, e1), r3, r4 ++ [(e0, e1, ())], ()) else none
noncomputable def Pm (i2 : List (ByteArray × ByteArray)) (l2 : List (ByteArray × ByteArray)) (c2 : Option (ByteArray × ByteArray)) (r3 : List Pr2) (r4 : List Pr2) : Option ((List Pr2) × (List Pr2) × Unit) :=
 some (r3, r4, ())
noncomputable def Ki {R : Type} (i2 : List (ByteArray × ByteArray)) (l2 : List (ByteArray × ByteArray)) (c2 : Option (ByteArray × ByteArray)) (r3 : List Pr2) (r4 : List Pr2) (kk : ((List Pr2) × (List Pr2) × Unit) → Option R) : Option R := An4 (fun d : ((List (ByteArray × ByteArray)) × (List (ByteArray × ByteArray)) × (Option (ByteArray × ByteArray)) × (List Pr2) × (List Pr2) × Unit) => d.2.1) (fun d e l => Hn d.1 d.2.1 d.2.2.1 d.2.2.2.1 d.2.2.2.2.1 e.1 e.2 l) (fun d => (Pm d.1 d.2.1 d.2.2.1 d.2.2.2.1 d.2.2.2.2.1).bind kk) (i2, l2, c2, r3, r4, ())
def Em (v37 : List Chg) (v38 : Int) (v39 : Int) (m1 : List (ByteArray × ByteArray)) (r2 : List Pr2) : Nat := (v38 - v39).toNat + 1
noncomputable def F1 {R : Type}  (NX : ((List Chg) × (Int) × (Int) × (List (ByteArray × ByteArray)) × (List Pr2) × Unit) → Option R) (X4 : ((List (ByteArray × ByteArray)) × (List Pr2) × Unit) → Option R) (v37 : List Chg) (v38 : Int) (v39 : Int) (m1 : List (ByteArray × ByteArray)) (r2 : List Pr2) : Option R :=
 bif decide (v39 < v38) then bif decide (0 ≤ v39) then bif decide (v39 < nI v37.length) then bif (v37.getD v39.toNat (ByteArray.mk #[], ByteArray.mk #[], false, ())).2.2.1 then NX (v37, v38, IntKind.i64.wrap (v39 + 1), Rv (v37.getD v39.toNat (ByteArray.mk #[], ByteArray.mk #[], false, ())).1 m1, r2, ()) else NX (v37, v38, IntKind.i64.wrap (v39 + 1), L9 (v37.getD v39.toNat (ByteArray.mk #[], ByteArray.mk #[], false, ())).1 (v37.getD v39.toNat (ByteArray.mk #[], ByteArray.mk #[], false, ())).2.1 m1, r2, ()) else none else none else X4 (m1, r2, ())
noncomputable def Bz : Nat → (List Chg) → (Int) → (Int) → (List (ByteArray × ByteArray)) → (List Pr2) →  Option ((List (ByteArray × ByteArray)) × (List Pr2) × Unit)
 | 0, _, _, _, _, _ => none
 | m + 1, v37, v38, v39, m1, r2 => F1  (fun d => Bz m d.1 d.2.1 d.2.2.1 d.2.2.2.1 d.2.2.2.2.1) (fun d => some (d)) v37 v38 v39 m1 r2
def Fd (v1 : List Chg) (v25 : List Pr2) (v26 : Int) (v27 : Int) (m1 : List (ByteArray × ByteArray)) (r2 : List Pr2) : Nat := (v26 - v27).toNat + 1
noncomputable def Gq {R : Type}  (NX : ((List Chg) × (List Pr2) × (Int) × (Int) × (List (ByteArray × ByteArray)) × (List Pr2) × Unit) → Option R) (X2 : ((List Chg) × (List (ByteArray × ByteArray)) × (List Pr2) × Unit) → Option R) (v1 : List Chg) (v25 : List Pr2) (v26 : Int) (v27 : Int) (m1 : List (ByteArray × ByteArray)) (r2 : List Pr2) : Option R :=
 bif decide (v27 < v26) then bif decide (0 ≤ v27) then bif decide (v27 < nI v25.length) then NX (v1, v25, v26, IntKind.i64.wrap (v27 + 1), L9 (v25.getD v27.toNat (ByteArray.mk #[], ByteArray.mk #[], ())).1 (v25.getD v27.toNat (ByteArray.mk #[], ByteArray.mk #[], ())).2.1 m1, r2, ()) else none else none else X2 (v1, m1, r2, ())
noncomputable def Ca : Nat → (List Chg) → (List Pr2) → (Int) → (Int) → (List (ByteArray × ByteArray)) → (List Pr2) →  Option ((List Chg) × (List (ByteArray × ByteArray)) × (List Pr2) × Unit)
 | 0, _, _, _, _, _, _ => none
 | m + 1, v1, v25, v26, v27, m1, r2 => Gq  (fun d => Ca m d.1 d.2.1 d.2.2.1 d.2.2.2.1 d.2.2.2.2.1 d.2.2.2.2.2.1) (fun d => some (d)) v1 v25 v26 v27 m1 r2
noncomputable def Ol (a0 : Stt) (a1 : List Chg) : Option ((((List Pr2) × (Int) × Unit) × (Unit))) :=
 bif !C7 a0 then some (([], 1, ()), ()) else bif !D4 a1 then some (([], 1, ()), ()) else ((fun d => Ca (Fd d.1 d.2.1 d.2.2.1 d.2.2.2.1 d.2.2.2.2.1 d.2.2.2.2.2.1) d.1 d.2.1 d.2.2.1 d.2.2.2.1 d.2.2.2.2.1 d.2.2.2.2.2.1) (a1, a0.1, nI (List.length a0.1), 0, [], [], ())).bind fun val => ((fun d => Bz (Em d.1 d.2.1 d.2.2.1 d.2.2.2.1 d.2.2.2.2.1) d.1 d.2.1 d.2.2.1 d.2.2.2.1 d.2.2.2.2.1) (val.1, nI (List.length val.1), 0, val.2)).bind fun val => bif decide (nI val.1.length > 100) then some (([], 2, ()), ()) else (fun d kk => Ki d.1 d.2.1 d.2.2.1 d.2.2.2.1 d.2.2.2.2.1 kk) (val.1, val.1, none, val.2.1, [], ()) fun d => bif Cp d.2.1 then bif decide (d.2.1.length ≤ 1000) then some ((List.foldr m6 [] d.2.1, 0, ()), ()) else none else none
theorem Akk (v1 : List Chg) (xs : List Pr2) (hx : xs.length ≤ 100) : Ca (Fd v1 xs (nI xs.length) 0 [] []) v1 xs (nI xs.length) 0 [] [] = some (v1, Acv xs, [], ()) := by
 have hL := Er (xs := xs) zP (fun _ _ => True) (fun _ p m => L9 p.1 p.2.1 m) (g := fun m i M => Ca m v1 xs (nI xs.length) i M []) (ok := fun M => (v1, M, [], ())) (fun m i M hi _ => by
   show Ca (m + 1) v1 xs (nI xs.length) i M [] = _
   simp only [Ca, Gq]
   rw [Pw hi, Gk, wI (show i < 4611686018427387904 by omega), Int.toNat_natCast]
   rfl) (fun _ _ _ _ => trivial) (fun m M _ => by
   show Ca (m + 1) v1 xs (nI xs.length) (xs.length : Int) M [] = _
   simp only [Ca, Gq]
   rw [I6]
   rfl) (Fd v1 xs (nI xs.length) 0 [] []) 0 [] (by omega) (by simp [Fd, nI]) trivial
 rw [List.drop_zero] at hL
 exact hL
theorem Aid (b : List Chg) (m0 : Mp) (hb : b.length ≤ 20) : Bz (Em b (nI b.length) 0 m0 []) b (nI b.length) 0 m0 [] = some (Fw (fun _ c m => k7 c m) 0 b m0, [], ()) := by
 have hL := Er (xs := b) zC (fun _ _ => True) (fun _ c m => k7 c m) (g := fun m i M => Bz m b (nI b.length) i M []) (ok := fun M => (M, [], ())) (fun m i M hi _ => by
   show Bz (m + 1) b (nI b.length) i M [] = _
   simp only [Bz, F1]
   rw [Pw hi, Gk, wI (show i < 4611686018427387904 by omega), Int.toNat_natCast]
   simp only [cond_true]
   unfold k7
   show (bif (List.getD b i zC).2.2.1 then _ else _) = _
   cases (List.getD b i zC).2.2.1 <;> rfl) (fun _ _ _ _ => trivial) (fun m M _ => by
   show Bz (m + 1) b (nI b.length) (b.length : Int) M [] = _
   simp only [Bz, F1]
   rw [I6]
   rfl) (Em b (nI b.length) 0 m0 []) 0 m0 (by omega) (by simp [Em, nI]) trivial
 rw [List.drop_zero] at hL
 exact hL
theorem Ae0 (a0 : Stt) (a1 : List Chg) : Ol a0 a1 = some (((Dq a0 a1).1.1, (Dq a0 a1).2, ()), (())) := by
 unfold Ol Dq D7
 show (bif !A3 a0 then _ else bif !A4 a1 then _ else _) = _
 cases hv : A3 a0 with
 | false => rfl
 | true =>
  cases hb : A4 a1 with
  | false => rfl
  | true =>
   simp only [Bool.not_true, cond_false]
   have hl := Fy hv
   have hb2 := Ep (Cq hb).1
   refine Zl (Akk a1 a0.1 hl) ?_
   dsimp only
   refine Zl (Aid a1 (Acv a0.1) (by omega)) ?_
   dsimp only
   have hM : Tv (Fw (fun _ c m => k7 c m) 0 a1 (Acv a0.1)) (H8 a0.1 a1) := (Tv.init (Agm hv)).fold
   have hlen := hM.len
   generalize Fw (fun _ c m => k7 c m) 0 a1 (Acv a0.1) = M at hM hlen
   by_cases q : M.length > 100
   ·rw [decide_eq_true (show nI M.length > 100 by simp only [nI]; omega), decide_eq_true (show (H8 a0.1 a1).length > 100 by omega)]
    rfl
   ·rw [decide_eq_false (show ¬ nI M.length > 100 by simp only [nI]; omega), decide_eq_false (show ¬ (H8 a0.1 a1).length > 100 by omega)]
    simp only [cond_false]
    unfold Ki
    refine Ari (m := M.length + 1) ?_
    refine Aqk M (H8 a0.1 a1) hM (by omega) (fun l c r => (M, l, c, [], r, ())) (fun _ _ _ => rfl) (fun l c r e l' hr => ?_) (fun c r h1 h2 h3 => ?_) M.length M none [] rfl (List.Perm.refl _)
    ·show Hn M l c [] r e.1 e.2 l' = _
     unfold Hn
     rw [List.length_singleton, decide_eq_true (show (r.length + 1) * 32 ≤ 140737488355328 by omega)]
     rfl
    ·show (bif Cp r then bif decide (r.length ≤ 1000) then some ((I2 r, 0, ()), ()) else none else none) = _
     rw [h1, decide_eq_true h2, h3]
     rfl
noncomputable def Rd {R : Type} (k : Kt R) := (Ln (pa_impl_Apply 6) (.exit 0) 2 k)
noncomputable def Pn {R : Type} (k : Kt R) := (Ln (pa_impl_Apply 11) (.exit 2) 4 k)
noncomputable def b4 {R : Type} (k : Kt R) := (Ln (pa_impl_Apply 21) (.exit 4) 6 k)
noncomputable def L0 {R : Type} : Lt R pa_impl_Apply := (Gb (pat := pa_impl_Apply) 6 (fun d k => (Ca (Fd d.1 d.2.1 d.2.2.1 d.2.2.2.1 d.2.2.2.2.1 d.2.2.2.2.2.1) d.1 d.2.1 d.2.2.1 d.2.2.2.1 d.2.2.2.2.1 d.2.2.2.2.2.1).bind (Rd k)) (Gb (pat := pa_impl_Apply) 11 (fun d k => (Bz (Em d.1 d.2.1 d.2.2.1 d.2.2.2.1 d.2.2.2.2.1) d.1 d.2.1 d.2.2.1 d.2.2.2.1 d.2.2.2.2.1).bind (Pn k)) (Gb (pat := pa_impl_Apply) 21 (fun d k => Ki d.1 d.2.1 d.2.2.1 d.2.2.2.1 d.2.2.2.2.1 (b4 k)) F5)))
theorem Kw : At Tryz.prog Kv where
 sd := Ahr (l := [(89, sd_impl_ValidBatch), (156, sd_impl_ValidState)]) ⟨Im, Io, trivial⟩
 inl := fun f fn h => by cases h
 cc := fun f BT h => by cases h
 st := fun f BT e h => by cases h
 srt := fun fs fc BT U e h => by cases h; exact ⟨⟨_, Tryz.func170, by kernel_rfl, by kernel_rfl⟩, Aok⟩
theorem b5 {R : Type} : Ba Tryz.prog R 79 0 pa_impl_Apply L0 co_impl_Apply_21 :=
 Aps (cfg := ⟨Kv, 0, 79, pa_impl_Apply⟩) (key := 21) (it := .tmp 59) (sl := 60) (ii := 2) (xid := 4) (t := .str) (by kernel_rfl) (by kernel_rfl) Kw rfl rfl rfl (by kernel_rfl) (by kernel_rfl) (xs := fun d => d.1) (left := fun d => d.2.1) (cur := fun d => d.2.2.1) (fun d => rfl) (fun d => rfl)
  (stp := fun d e l => Hn d.1 d.2.1 d.2.2.1 d.2.2.2.1 d.2.2.2.2.1 e.1 e.2 l) (fin := fun d => Pm d.1 d.2.1 d.2.2.1 d.2.2.2.1 d.2.2.2.2.1) (fun d e l => by obtain ⟨i2, l2, c2, r3, r4, ⟨⟩⟩ := d; obtain ⟨e0, e1⟩ := e; kernel_rfl) (fun d => by obtain ⟨i2, l2, c2, r3, r4, ⟨⟩⟩ := d; kernel_rfl) (fun d k => rfl)
theorem b6 {R : Type} : Ba Tryz.prog R 79 0 pa_impl_Apply L0 co_impl_Apply_11 :=
 Dd (cfg := ⟨Kv, 0, 79, pa_impl_Apply⟩) 11 [] (fun NX X d => F1  NX X d.1 d.2.1 d.2.2.1 d.2.2.2.1 d.2.2.2.2.1) (fun m d => Bz m d.1 d.2.1 d.2.2.1 d.2.2.2.1 d.2.2.2.2.1) (fun d => Em d.1 d.2.1 d.2.2.1 d.2.2.2.1 d.2.2.2.2.1) Pn Kw trivial (fun f NX d => by unfold F1; simp only [Am, Az, Ai, Option.bind_assoc, Option.bind_none, Option.bind_some]) (fun _ _ _ => by kernel_rfl)
theorem y5 {R : Type} : Ba Tryz.prog R 79 0 pa_impl_Apply L0 co_impl_Apply_6 :=
 Dd (cfg := ⟨Kv, 0, 79, pa_impl_Apply⟩) 6 [] (fun NX X d => Gq  NX X d.1 d.2.1 d.2.2.1 d.2.2.2.1 d.2.2.2.2.1 d.2.2.2.2.2.1) (fun m d => Ca m d.1 d.2.1 d.2.2.1 d.2.2.2.1 d.2.2.2.2.1 d.2.2.2.2.2.1) (fun d => Fd d.1 d.2.1 d.2.2.1 d.2.2.2.1 d.2.2.2.2.1 d.2.2.2.2.2.1) Rd Kw trivial (fun f NX d => by unfold Gq; simp only [Am, Az, Ai, Option.bind_assoc, Option.bind_none, Option.bind_some]) (fun _ _ _ => by kernel_rfl)
theorem Ae1 : Bs Tryz.prog 90 sd_impl_Apply :=
 Av (pat := pa_impl_Apply) [co_impl_Apply_6, co_impl_Apply_11, co_impl_Apply_21] L0 Kw ⟨y5, b6, b5, trivial⟩ Tryz.func90 (de := fun x => Ol x.1 x.2.1) (fun x r h => (Ae0 x.1 x.2.1).trans h) fun _ => by kernel_rfl
def Ho (p : Pg) (w : Int) : Bool := I5 p w
def Xt : Sig := ⟨[.rd yPg, .rd tI], [some 4, none], [.rd .bool], [none]⟩
noncomputable def sd_impl_validPage : SD := ⟨Xt, fun x => some (((Ho x.1 x.2.1), ()), (()))⟩
noncomputable def Jk (a0 : Pg) (a1 : Int) : Option ((((Bool) × Unit) × (Unit))) :=
 bif Br a1 1 8 then bif Br a0.1 1 4 then bif Br a0.2.1 1 60000 then bif Br a0.2.2.1 1 1000000000 then bif decide (nI (ByteArray.size a0.2.2.2.1) ≤ IntKind.i64.wrap (IntKind.i64.wrap (64 - a1) - 8)) then bif a0.1 != 3 then some ((true, ()), ()) else some ((ByteArray.toList a0.2.2.2.1 == (ByteArray.mk #[]).toList, ()), ()) else some ((false, ()), ()) else some ((false, ()), ()) else some ((false, ()), ()) else some ((false, ()), ()) else some ((false, ()), ())
theorem Xu (a0 : Pg) (a1 : Int) : Jk a0 a1 = some (((Ho a0 a1), ()), (())) := by
 unfold Jk Ho I5
 have tl : ByteArray.toList (ByteArray.mk #[]) = [] := by decide +kernel
 rw [tl]
 show (bif Fp a1 1 8 then (bif Fp a0.1 1 4 then (bif Fp a0.2.1 1 60000 then (bif Fp a0.2.2.1 1 1000000000 then _ else _) else _) else _) else _) = _
 cases hw : Fp a1 1 8 with
 | false => rfl
 | true =>
  have k1 := of_decide_eq_true (Cq hw).1
  have k2 := of_decide_eq_true (Cq hw).2
  rw [Ae (n := 64 - a1) (by omega) (by omega), Ae (by omega) (by omega), show 64 - a1 - 8 = 56 - a1 by omega]
  cases Fp a0.1 1 4 <;> cases Fp a0.2.1 1 60000 <;> cases Fp a0.2.2.1 1 1000000000 <;> try rfl
  show (bif decide ((ByteArray.size a0.2.2.2.1 : Int) ≤ 56 - a1) then _ else _) = _
  cases decide ((ByteArray.size a0.2.2.2.1 : Int) ≤ 56 - a1) <;> cases (a0.1 != 3) <;> rfl
theorem Xv : Bs Tryz.prog 188 sd_impl_validPage :=
 Av (pat := Ck) [] F5 (Ax (l := [(112, sd_impl_in), (157, sd_impl_room)]) ⟨Fq, Qs, trivial⟩) trivial Tryz.func188 (de := fun x => Jk x.1 x.2.1) (fun x r h => (Xu x.1 x.2.1).trans h) fun _ => by kernel_rfl
def Xw : Sig := ⟨[.rd .str, .rd (.int .i64)], [none, none], [.rd .str], [none]⟩
noncomputable def Jl : SD := ⟨Xw, fun x => (U9 x.1 x.2.1).bind fun r => some ((r, ()), ())⟩
theorem Xx : Gf Tryz.prog 189 ∧ Rr Tryz.prog 189 Jl.sg Jl.den := ⟨⟨_, Tryz.func189, by kernel_rfl, by kernel_rfl⟩, Aqc⟩
def Kj (s : ByteArray) (w : Int) : Option ByteArray := if s.size < 4611686018427387904 then some (Wz s w) else none
def H4 (v0 : ByteArray) (v1 v5 v6 : Int) : Nat := (nI v0.size - v6).toNat + 1
def Akl : Sig := ⟨[.rd .str, .rd tI], [none, none], [.rd .str], [none]⟩
noncomputable def sd_impl_Sum : SD := ⟨Akl, fun x => (Kj x.1 x.2.1).bind fun r => some ((r, ()), (()))⟩
noncomputable def ta_impl_Sum : Tb := tb [(112, sd_impl_in), (175, sd_impl_be)]
def pa_impl_Sum : Nat → Pat × (Nat → Pat) := Gw [(6, ⟨[], [(0, .lf (.d .str)), (1, .lf (.d tI)), (5, .lf (.d (.int .u64))), (6, .lf (.d tI))], []⟩, [(2, ⟨[], [(1, .lf (.d tI)), (5, .lf (.d (.int .u64)))], []⟩)])]
noncomputable def co_impl_Sum_6 : Code := (An (Bn Tryz.f190)).getD 0 .skip
noncomputable def H5 {R : Type}  (NX : ((ByteArray) × (Int) × (Int) × (Int) × Unit) → Option R) (X2 : ((Int) × (Int) × Unit) → Option R) (v0 : ByteArray) (v1 : Int) (v5 : Int) (v6 : Int) : Option R :=
 bif decide (v6 < nI v0.size) then bif decide (0 ≤ v6) then bif decide (v6 < nI v0.size) then NX (v0, v1, IntKind.u64.wrap (IntKind.u64.wrap (nI (BitVec.ofInt 64 v5 ^^^ BitVec.ofInt 64 (IntKind.u64.wrap (J5 v0 v6))).toNat) * 1099511628211), IntKind.i64.wrap (v6 + 1), ()) else none else none else X2 (v1, v5, ())
noncomputable def Dr : Nat → (ByteArray) → (Int) → (Int) → (Int) →  Option ((Int) × (Int) × Unit)
 | 0, _, _, _, _ => none
 | m + 1, v0, v1, v5, v6 => H5  (fun d => Dr m d.1 d.2.1 d.2.2.1 d.2.2.2.1) (fun d => some (d)) v0 v1 v5 v6
noncomputable def S3 (a0 : ByteArray) (a1 : Int) : Option ((((ByteArray) × Unit) × (Unit))) :=
 bif !Br a1 1 8 then some ((ByteArray.mk #[], ()), ()) else ((fun d => Dr (H4 d.1 d.2.1 d.2.2.1 d.2.2.2.1) d.1 d.2.1 d.2.2.1 d.2.2.2.1) (a0, a1, 14695981039346656037, 0, ())).bind fun val => bif decide (0 ≤ IntKind.i64.wrap (8 - val.1)) then bif decide (IntKind.i64.wrap (8 - val.1) ≤ nI (Cl (IntKind.i64.wrap val.2.1) (Int.toNat 8)).size) then some ((Cj (Cl (IntKind.i64.wrap val.2.1) (Int.toNat 8)) (IntKind.i64.wrap (8 - val.1)) (nI (Cl (IntKind.i64.wrap val.2.1) (Int.toNat 8)).size), ()), ()) else none else none
theorem Akm (a0 : ByteArray) (a1 : Int) r (h : Kj a0 a1 = some r) : S3 a0 a1 = some ((r, ()), (())) := by
 unfold Kj at h
 split at h
 rotate_left
 ·cases h
 rename_i hsz
 cases h
 unfold S3 Wz
 generalize hC : (14695981039346656037 : Int) = C
 have h0 : U64 C := by rw [← hC]; exact ⟨by decide, by decide⟩
 show (bif !Fp a1 1 8 then _ else _) = _
 cases hw : Fp a1 1 8 with
 | false => rfl
 | true =>
  have k1 := of_decide_eq_true (Cq hw).1
  have k2 := of_decide_eq_true (Cq hw).2
  ·simp only [Bool.not_true, cond_false, cond_true]
   have hL := To a0.size (fun _ _ => True) (fun i h => Sa h (J5 a0 i)) (g := fun m i h => Dr m a0 a1 h i) (ok := fun h => (a1, h, ())) (fun m i h hi _ => by
    show Dr (m + 1) a0 a1 h i = _
    simp only [Dr, H5]
    have c1 : (i : Int) < nI a0.size := by simp only [nI]; omega
    rw [decide_eq_true c1, Gk, wI (show i < 4611686018427387904 by omega)]
    rfl) (fun m h _ => by
    show Dr (m + 1) a0 a1 h a0.size = _
    simp only [Dr, H5]
    rw [decide_eq_false (show ¬ ((a0.size : Int) < nI a0.size) by simp only [nI]; omega)]
    rfl) (fun _ _ _ _ => trivial) a0.size (H4 a0 a1 C 0) 0 C (by omega) (by simp only [H4, nI]; omega) trivial
   rw [show ((0 : Nat) : Int) = 0 from rfl] at hL
   refine Tu hL ?_
   have e1 : IntKind.i64.wrap (8 - a1) = 8 - a1 := Ae (by omega) (by omega)
   have hh := Anb a0 a0.size 0 h0
   have eH : iter (fun i h => Sa h (J5 a0 i)) a0.size 0 C = Zd a0 a0.size 0 C := rfl
   rw [eH]
   generalize Zd a0 a0.size 0 C = H at hh ⊢
   show (bif decide (0 ≤ IntKind.i64.wrap (8 - a1)) then (bif decide (IntKind.i64.wrap (8 - a1) ≤ nI (ByteArray.size (Cl (IntKind.i64.wrap H) (Int.toNat 8)))) then some ((Cj (Cl (IntKind.i64.wrap H) (Int.toNat 8)) (IntKind.i64.wrap (8 - a1)) (nI (ByteArray.size (Cl (IntKind.i64.wrap H) (Int.toNat 8)))), ()), ()) else none) else none) = some ((Cl H a1.toNat, ()), ())
   rw [e1, Arm hh k1 k2, decide_eq_true (show 0 ≤ 8 - a1 by omega), decide_eq_true (show 8 - a1 ≤ nI (ByteArray.size (Cl (IntKind.i64.wrap H) (Int.toNat 8))) by rw [G5]; simp [nI]; omega)]
   rfl
noncomputable def Uo {R : Type} (k : Kt R) := (Ln (pa_impl_Sum 6) (.exit 0) 2 k)
noncomputable def Adt {R : Type} : Lt R pa_impl_Sum := (Gb (pat := pa_impl_Sum) 6 (fun d k => (Dr (H4 d.1 d.2.1 d.2.2.1 d.2.2.2.1) d.1 d.2.1 d.2.2.1 d.2.2.2.1).bind (Uo k)) F5)
theorem l5 : At Tryz.prog ta_impl_Sum := Ax ⟨Fq, Vw, trivial⟩
theorem Ae2 {R : Type} : Ba Tryz.prog R 29 0 pa_impl_Sum Adt co_impl_Sum_6 :=
 Dd (cfg := ⟨ta_impl_Sum, 0, 29, pa_impl_Sum⟩) 6 [] (fun NX X d => H5  NX X d.1 d.2.1 d.2.2.1 d.2.2.2.1) (fun m d => Dr m d.1 d.2.1 d.2.2.1 d.2.2.2.1) (fun d => H4 d.1 d.2.1 d.2.2.1 d.2.2.2.1) Uo l5 trivial (fun f NX d => by unfold H5; simp only [Am, Az, Ai, Option.bind_assoc, Option.bind_none, Option.bind_some]) (fun _ _ _ => by kernel_rfl)
theorem Akn : Bs Tryz.prog 190 sd_impl_Sum :=
 Av (pat := pa_impl_Sum) [co_impl_Sum_6] Adt l5 ⟨Ae2, trivial⟩ Tryz.func190 (de := fun x => S3 x.1 x.2.1) (fun x r h => Ay (Akm x.1 x.2.1) h) fun _ => by kernel_rfl
def D9 (p : Pg) (w : Int) : ByteArray := F7 p w
def b7 : Sig := ⟨[.rd yPg, .rd tI], [some 4, none], [.rd .str], [none]⟩
noncomputable def sd_impl_FormPage : SD := ⟨b7, fun x => some (((D9 x.1 x.2.1), ()), (()))⟩
noncomputable def Kk (a0 : Pg) (a1 : Int) : Option ((((ByteArray) × Unit) × (Unit))) :=
 bif !Ho a0 a1 then some ((ByteArray.mk #[], ()), ()) else bif decide ((Cl a0.1 (Int.toNat 1) ++ Cl a0.2.1 (Int.toNat 2) ++ Cl a0.2.2.1 (Int.toNat 4) ++ Cl (nI (ByteArray.size a0.2.2.2.1)) (Int.toNat 1)).size + ByteArray.size a0.2.2.2.1 ≤ 9223372036854775807) then ((U9 (ByteArray.mk #[0]) (IntKind.i64.wrap (IntKind.i64.wrap (64 - a1) - nI (Cl a0.1 (Int.toNat 1) ++ Cl a0.2.1 (Int.toNat 2) ++ Cl a0.2.2.1 (Int.toNat 4) ++ Cl (nI (ByteArray.size a0.2.2.2.1)) (Int.toNat 1) ++ a0.2.2.2.1).size))).bind fun val => some ((val, ()), ())).bind fun val => bif decide ((Cl a0.1 (Int.toNat 1) ++ Cl a0.2.1 (Int.toNat 2) ++ Cl a0.2.2.1 (Int.toNat 4) ++ Cl (nI (ByteArray.size a0.2.2.2.1)) (Int.toNat 1) ++ a0.2.2.2.1).size + ByteArray.size val.1.1 ≤ 9223372036854775807) then ((Kj (Cl a0.1 (Int.toNat 1) ++ Cl a0.2.1 (Int.toNat 2) ++ Cl a0.2.2.1 (Int.toNat 4) ++ Cl (nI (ByteArray.size a0.2.2.2.1)) (Int.toNat 1) ++ a0.2.2.2.1 ++ val.1.1) a1).bind fun val => some ((val, ()), ())).bind fun val_1 => bif decide (ByteArray.size val_1.1.1 + (Cl a0.1 (Int.toNat 1) ++ Cl a0.2.1 (Int.toNat 2) ++ Cl a0.2.2.1 (Int.toNat 4) ++ Cl (nI (ByteArray.size a0.2.2.2.1)) (Int.toNat 1) ++ a0.2.2.2.1 ++ val.1.1).size ≤ 9223372036854775807) then some ((val_1.1.1 ++ (Cl a0.1 (Int.toNat 1) ++ Cl a0.2.1 (Int.toNat 2) ++ Cl a0.2.2.1 (Int.toNat 4) ++ Cl (nI (ByteArray.size a0.2.2.2.1)) (Int.toNat 1) ++ a0.2.2.2.1 ++ val.1.1), ()), ()) else none else none else none
theorem b8 (a0 : Pg) (a1 : Int) : Kk a0 a1 = some (((D9 a0 a1), ()), (())) := by
 unfold Kk D9 F7
 show (bif !I5 a0 a1 then _ else _) = _
 cases hp : I5 a0 a1 with
 | false => rfl
 | true =>
  obtain ⟨hw, k1, k2, kp⟩ := W3 hp
  simp only [Bool.not_true, cond_false, cond_true]
  have hb : Hx a0 a1 = Cl a0.1 1 ++ Cl a0.2.1 2 ++ Cl a0.2.2.1 4 ++ Cl (nI a0.2.2.2.1.size) 1 ++ a0.2.2.2.1 ++ strOfNums (List.replicate (56 - a1 - a0.2.2.2.1.size).toNat 0) := rfl
  have hs4 : (Cl a0.1 1 ++ Cl a0.2.1 2 ++ Cl a0.2.2.1 4 ++ Cl (nI a0.2.2.2.1.size) 1).size = 8 := by simp only [ByteArray.size_append, G5]
  have hs5 : (Cl a0.1 1 ++ Cl a0.2.1 2 ++ Cl a0.2.2.1 4 ++ Cl (nI a0.2.2.2.1.size) 1 ++ a0.2.2.2.1).size = 8 + a0.2.2.2.1.size := by rw [ByteArray.size_append, hs4]
  show (bif decide ((Cl a0.1 1 ++ Cl a0.2.1 2 ++ Cl a0.2.2.1 4 ++ Cl (nI a0.2.2.2.1.size) 1).size + a0.2.2.2.1.size ≤ 9223372036854775807) then Option.bind (Option.bind (U9 (ByteArray.mk #[0]) (IntKind.i64.wrap (IntKind.i64.wrap (64 - a1) - nI (Cl a0.1 1 ++ Cl a0.2.1 2 ++ Cl a0.2.2.1 4 ++ Cl (nI a0.2.2.2.1.size) 1 ++ a0.2.2.2.1).size))) _) _ else none) = _
  generalize hB : Cl a0.1 1 ++ Cl a0.2.1 2 ++ Cl a0.2.2.1 4 ++ Cl (nI a0.2.2.2.1.size) 1 ++ a0.2.2.2.1 = B at *
  rw [hs4, decide_eq_true (by omega), Ae (n := 64 - a1) (by omega) (by omega), hs5, Ae (by simp only [nI]; omega) (by simp only [nI]; omega)]
  have hr : U9 (ByteArray.mk #[0]) (64 - a1 - nI (8 + a0.2.2.2.1.size)) = some (strOfNums (List.replicate (56 - a1 - a0.2.2.2.1.size).toNat 0)) := by
   have := At4 (56 - a1 - a0.2.2.2.1.size).toNat (by omega)
   rw [show ((56 - a1 - a0.2.2.2.1.size).toNat : Int) = 64 - a1 - nI (8 + a0.2.2.2.1.size) by simp only [nI]; omega] at this
   exact this
  have hz : (strOfNums (List.replicate (56 - a1 - a0.2.2.2.1.size).toNat 0)).size = (56 - a1 - a0.2.2.2.1.size).toNat := by rw [C3, List.length_replicate]
  generalize strOfNums (List.replicate (56 - a1 - a0.2.2.2.1.size).toNat 0) = Z at *
  refine Tu (Tu hr rfl) ?_
  have hbs : (Hx a0 a1).size ≤ 64 := by rw [hb, ByteArray.size_append, hs5, hz]; omega
  dsimp only
  have hB' : Cl a0.1 (Int.toNat 1) ++ Cl a0.2.1 (Int.toNat 2) ++ Cl a0.2.2.1 (Int.toNat 4) ++ Cl (nI a0.2.2.2.1.size) (Int.toNat 1) ++ a0.2.2.2.1 = B := hB
  rw [hB']
  show (bif decide (ByteArray.size B + ByteArray.size Z ≤ 9223372036854775807) then Option.bind (Option.bind (Kj (B ++ Z) a1) _) _ else none) = _
  have hm : Kj (B ++ Z) a1 = some (Wz (Hx a0 a1) a1) := by
   rw [← hb]
   exact if_pos (by omega)
  rw [hs5, hz, decide_eq_true (by omega)]
  refine Tu (Tu hm rfl) ?_
  show (bif decide (ByteArray.size (Wz (Hx a0 a1) a1) + ByteArray.size (B ++ Z) ≤ 9223372036854775807) then some ((Wz (Hx a0 a1) a1 ++ (B ++ Z), ()), ()) else none) = _
  rw [← hb, O5 hw, decide_eq_true (by omega)]
  rfl
theorem b9 : Bs Tryz.prog 116 sd_impl_FormPage :=
 Av (pat := Ck) [] F5 (Ax (l := [(175, sd_impl_be), (188, sd_impl_validPage), (189, Jl), (190, sd_impl_Sum)]) ⟨Vw, Xv, Xx, Akn, trivial⟩) trivial Tryz.func116 (de := fun x => Kk x.1 x.2.1) (fun x r h => (b8 x.1 x.2.1).trans h) fun _ => by kernel_rfl
def M1 (e : ByteArray) (life first w : Int) : Option (List ByteArray) := if e.size ≤ 1048576 then some (Aek e life first w) else none
def Gu (v0 : ByteArray) (v1 v2 v3 v9 v11 : Int) (r0 : List ByteArray) : Nat := (v9 - v11).toNat + 1
def Ako : Sig := ⟨[.rd .str, .rd tI, .rd tI, .rd tI], [none, none, none, none], [.own 9 .str], [none]⟩
noncomputable def sd_impl_Cut : SD := ⟨Ako, fun x => (M1 x.1 x.2.1 x.2.2.1 x.2.2.2.1).bind fun r => some ((r, ()), (()))⟩
noncomputable def ta_impl_Cut : Tb := tb [(112, sd_impl_in), (116, sd_impl_FormPage), (157, sd_impl_room), (173, sd_impl_Pages)]
def pa_impl_Cut : Nat → Pat × (Nat → Pat) := Gw [(7, ⟨[.row 10 0 9 .str], [(0, .lf (.d .str)), (1, .lf (.d tI)), (2, .lf (.d tI)), (3, .lf (.d tI)), (9, .lf (.d tI)), (10, .lf (.row 0)), (11, .lf (.d tI))], [.row 9 .str]⟩, [(2, ⟨[.row 10 0 9 .str], [(10, .lf (.row 0))], [.row 9 .str]⟩)])]
noncomputable def co_impl_Cut_7 : Code := (An (Bn Tryz.f93)).getD 0 .skip
noncomputable def H6 {R : Type}  (NX : ((ByteArray) × (Int) × (Int) × (Int) × (Int) × (Int) × (List ByteArray) × Unit) → Option R) (X2 : ((List ByteArray) × Unit) → Option R) (v0 : ByteArray) (v1 : Int) (v2 : Int) (v3 : Int) (v9 : Int) (v11 : Int) (r0 : List ByteArray) : Option R :=
 bif decide (v11 < v9) then bif v11 == IntKind.i64.wrap (v9 - 1) then bif decide ((r0.length + [D9 (2, v1, IntKind.i64.wrap (v2 + v11), v0, ()) v3].length) * 16 ≤ 140737488355328) then NX (v0, v1, v2, v3, v9, IntKind.i64.wrap (v11 + 1), r0 ++ [D9 (2, v1, IntKind.i64.wrap (v2 + v11), v0, ()) v3], ()) else none else bif decide (0 ≤ IntKind.i64.wrap (IntKind.i64.wrap (64 - v3) - 8)) then bif decide (IntKind.i64.wrap (IntKind.i64.wrap (64 - v3) - 8) ≤ nI v0.size) then bif decide (0 ≤ IntKind.i64.wrap (IntKind.i64.wrap (64 - v3) - 8)) then bif decide (IntKind.i64.wrap (IntKind.i64.wrap (64 - v3) - 8) ≤ nI v0.size) then bif decide ((r0.length + [D9 (1, v1, IntKind.i64.wrap (v2 + v11), Cj v0 0 (IntKind.i64.wrap (IntKind.i64.wrap (64 - v3) - 8)), ()) v3].length) * 16 ≤ 140737488355328) then NX (Cj v0 (IntKind.i64.wrap (IntKind.i64.wrap (64 - v3) - 8)) (nI v0.size), v1, v2, v3, v9, IntKind.i64.wrap (v11 + 1), r0 ++ [D9 (1, v1, IntKind.i64.wrap (v2 + v11), Cj v0 0 (IntKind.i64.wrap (IntKind.i64.wrap (64 - v3) - 8)), ()) v3], ()) else none else none else none else none else none else X2 (r0, ())
noncomputable def Ds : Nat → (ByteArray) → (Int) → (Int) → (Int) → (Int) → (Int) → (List ByteArray) →  Option ((List ByteArray) × Unit)
 | 0, _, _, _, _, _, _, _ => none
 | m + 1, v0, v1, v2, v3, v9, v11, r0 => H6  (fun d => Ds m d.1 d.2.1 d.2.2.1 d.2.2.2.1 d.2.2.2.2.1 d.2.2.2.2.2.1 d.2.2.2.2.2.2.1) (fun d => some (d)) v0 v1 v2 v3 v9 v11 r0
noncomputable def S4 (a0 : ByteArray) (a1 : Int) (a2 : Int) (a3 : Int) : Option ((((List ByteArray) × Unit) × (Unit))) :=
 ((Gd a0 a3).bind fun val => some ((val, ()), ())).bind fun val => bif val.1.1 == 0 then some (([], ()), ()) else bif !Br a1 1 60000 then some (([], ()), ()) else bif decide (a2 < 1) then some (([], ()), ()) else bif decide (a2 > IntKind.i64.wrap (IntKind.i64.wrap (1000000000 - val.1.1) + 1)) then some (([], ()), ()) else ((fun d => Ds (Gu d.1 d.2.1 d.2.2.1 d.2.2.2.1 d.2.2.2.2.1 d.2.2.2.2.2.1 d.2.2.2.2.2.2.1) d.1 d.2.1 d.2.2.1 d.2.2.2.1 d.2.2.2.2.1 d.2.2.2.2.2.1 d.2.2.2.2.2.2.1) (a0, a1, a2, a3, val.1.1, 0, [], ())).bind fun val => some (val, ())
theorem Aqq (life first w : Int) (n N : Nat) (hn : 56 - w = (n : Int)) (hw1 : 1 ≤ w) (hw8 : w ≤ 8) (hf1 : 1 ≤ first) (hf2 : first ≤ 1000000000) (hN : N ≤ 2000000) : ∀ (f m i : Nat) (s : ByteArray) (r : List ByteArray), s.size ≤ f → i + (Df n f s).length = N → (Df n f s).length < m → r.length = i →
  Ds m s life first w N i r = some (r ++ j6 life w (first + (i : Int)) (Df n f s), ()) := by
 have one : ∀ (m i : Nat) (s : ByteArray) (r : List ByteArray), i + 1 = N → 1 < m → r.length = i → Ds m s life first w N i r = some (r ++ j6 life w (first + (i : Int)) [s], ()) := by
  intro m i s r hi hm hr
  obtain ⟨m, rfl⟩ : ∃ k, m = k + 2 := ⟨m - 2, by omega⟩
  simp only [Ds, H6]
  rw [decide_eq_true (show (i : Int) < (N : Int) by omega), Ae (n := (N : Int) - 1) (by omega) (by omega), show (N : Int) - 1 = (i : Int) by omega, beq_self_eq_true, Ae (n := first + (i : Int)) (by omega) (by omega), Ae (n := (i : Int) + 1) (by omega) (by omega), List.length_singleton, decide_eq_true (show (r.length + 1) * 16 ≤ 140737488355328 by omega), decide_eq_false (show ¬ ((i : Int) + 1 < (N : Int)) by omega)]
  rfl
 intro f
 induction f with
 | zero =>
  intro m i s r hs hi hm hr
  exact one m i s r hi hm hr
 | succ f ih =>
  intro m i s r hs hi hm hr
  by_cases q : s.size > n
  ·simp only [Df, if_pos q, List.length_cons] at hi hm ⊢
   have hc : (Cj s n (nI s.size)).size = s.size - n := by rw [Vb (by omega) (by simp only [nI]; omega) (by simp [nI])]; simp only [nI]; omega
   obtain ⟨m, rfl⟩ : ∃ k, m = k + 1 := ⟨m - 1, by omega⟩
   have hL : 1 ≤ (Df n f (Cj s n (nI s.size))).length := by
    cases f with
    | zero => simp [Df]
    | succ f => unfold Df; split <;> simp
   have ih := ih m (i + 1) (Cj s n (nI s.size)) (r ++ [F7 (1, life, first + (i : Int), Cj s 0 n, ()) w]) (by omega) (by omega) (by omega) (by rw [List.length_append, List.length_singleton, hr])
   simp only [Ds, H6]
   rw [decide_eq_true (show (i : Int) < (N : Int) by omega), Ae (n := (N : Int) - 1) (by omega) (by omega), beq_eq_false_iff_ne.2 (show (i : Int) ≠ (N : Int) - 1 by omega), Ae (n := first + (i : Int)) (by omega) (by omega), wI (show i < 4611686018427387904 by omega), Ae (n := 64 - w) (by omega) (by omega), Ae (n := 64 - w - 8) (by omega) (by omega), show 64 - w - 8 = (n : Int) by omega, decide_eq_true (show (0 : Int) ≤ (n : Int) by omega), decide_eq_true (show (n : Int) ≤ nI s.size by simp only [nI]; omega), List.length_singleton, List.length_singleton, decide_eq_true (show (r.length + 1) * 16 ≤ 140737488355328 by omega)]
   refine Eq.trans ih ?_
   rw [List.append_assoc, show first + ((i + 1 : Nat) : Int) = first + (i : Int) + 1 by omega]
   generalize Df n f (Cj s n (nI s.size)) = L at *
   cases L with
   | nil => simp at hL
   | cons a b => rfl
  ·simp only [Df, if_neg q, List.length_singleton] at hi hm ⊢
   exact one m i s r hi hm hr
theorem Akp (a0 : ByteArray) (a1 : Int) (a2 : Int) (a3 : Int) r (h : M1 a0 a1 a2 a3 = some r) : S4 a0 a1 a2 a3 = some ((r, ()), (())) := by
 unfold M1 at h
 split at h
 rotate_left
 ·cases h
 rename_i hc
 cases h
 have n1 : Gd a0 a3 = some (C2 a0.size a3) := if_pos (by omega)
 unfold S4 Aek
 refine Tu (Tu n1 rfl) ?_
 show (bif C2 a0.size a3 == 0 then _ else (bif !Fp a1 1 60000 then _ else _)) = _
 cases hw : Fp a3 1 8 with
 | false =>
  have : C2 a0.size a3 = 0 := by unfold C2; rw [hw]; rfl
  rw [this]
  rfl
 | true =>
  obtain ⟨k1, k2⟩ := Ep hw
  have hp := Vd (s := a0) hw
  have hP : C2 a0.size a3 = ((Bu a0 a3).length : Int) := by unfold C2; rw [hw]; exact hp.symm
  have hlen : (Bu a0 a3).length ≤ a0.size + 1 := Sf _ _ _
  have h1 : 1 ≤ (Bu a0 a3).length := by
   have : (1 : Int) ≤ ((Bu a0 a3).length : Int) := by rw [hp]; split <;> omega
   omega
  rw [hP, beq_eq_false_iff_ne.2 (show ((Bu a0 a3).length : Int) ≠ 0 by omega)]
  cases hl : Fp a1 1 60000 with
  | false => rfl
  | true =>
   show (bif decide (a2 < 1) then _ else (bif decide (a2 > IntKind.i64.wrap (IntKind.i64.wrap (1000000000 - ((Bu a0 a3).length : Int)) + 1)) then _ else (Option.bind (Ds (Gu a0 a1 a2 a3 ((Bu a0 a3).length : Int) 0 []) a0 a1 a2 a3 ((Bu a0 a3).length : Int) 0 []) _))) = _
   rw [Ae (n := 1000000000 - ((Bu a0 a3).length : Int)) (by omega) (by omega), Ae (n := 1000000000 - ((Bu a0 a3).length : Int) + 1) (by omega) (by omega)]
   by_cases q1 : a2 < 1
   ·rw [decide_eq_true q1, decide_eq_false (show ¬ 1 ≤ a2 by omega)]; rfl
   ·rw [decide_eq_false q1, decide_eq_true (show 1 ≤ a2 by omega)]
    by_cases q2 : a2 > 1000000000 - ((Bu a0 a3).length : Int) + 1
    ·rw [decide_eq_true q2, decide_eq_false (show ¬ a2 ≤ 1000000000 - ((Bu a0 a3).length : Int) + 1 by omega)]; rfl
    ·rw [decide_eq_false q2, decide_eq_true (show a2 ≤ 1000000000 - ((Bu a0 a3).length : Int) + 1 by omega)]
     obtain ⟨n, hn⟩ : ∃ n : Nat, 56 - a3 = (n : Int) := ⟨(56 - a3).toNat, by omega⟩
     have hS : Bu a0 a3 = Df n a0.size a0 := by unfold Bu; rw [hn, Int.toNat_natCast]
     have hL := Aqq a1 a2 a3 n (Bu a0 a3).length hn k1 k2 (by omega) (by omega) (by omega) a0.size (Gu a0 a1 a2 a3 ((Bu a0 a3).length : Int) 0 []) 0 a0 [] (Nat.le_refl _) (by rw [← hS]; omega) (by rw [← hS]; simp only [Gu]; omega) rfl
     rw [← hS, List.nil_append, show a2 + ((0 : Nat) : Int) = a2 by omega] at hL
     exact Tu hL rfl
noncomputable def Up {R : Type} (k : Kt R) := (Ln (pa_impl_Cut 7) (.exit 0) 2 k)
noncomputable def Adu {R : Type} : Lt R pa_impl_Cut := (Gb (pat := pa_impl_Cut) 7 (fun d k => (Ds (Gu d.1 d.2.1 d.2.2.1 d.2.2.2.1 d.2.2.2.2.1 d.2.2.2.2.2.1 d.2.2.2.2.2.2.1) d.1 d.2.1 d.2.2.1 d.2.2.2.1 d.2.2.2.2.1 d.2.2.2.2.2.1 d.2.2.2.2.2.2.1).bind (Up k)) F5)
theorem l6 : At Tryz.prog ta_impl_Cut := Ax ⟨Fq, b9, Qs, Un, trivial⟩
theorem Ae3 {R : Type} : Ba Tryz.prog R 67 0 pa_impl_Cut Adu co_impl_Cut_7 :=
 Dd (cfg := ⟨ta_impl_Cut, 0, 67, pa_impl_Cut⟩) 7 [] (fun NX X d => H6  NX X d.1 d.2.1 d.2.2.1 d.2.2.2.1 d.2.2.2.2.1 d.2.2.2.2.2.1 d.2.2.2.2.2.2.1) (fun m d => Ds m d.1 d.2.1 d.2.2.1 d.2.2.2.1 d.2.2.2.2.1 d.2.2.2.2.2.1 d.2.2.2.2.2.2.1) (fun d => Gu d.1 d.2.1 d.2.2.1 d.2.2.2.1 d.2.2.2.2.1 d.2.2.2.2.2.1 d.2.2.2.2.2.2.1) Up l6 trivial (fun f NX d => by unfold H6; simp only [Am, Az, Ai, Option.bind_assoc, Option.bind_none, Option.bind_some]) (fun _ _ _ => by kernel_rfl)
theorem Akq : Bs Tryz.prog 93 sd_impl_Cut :=
 Av (pat := pa_impl_Cut) [co_impl_Cut_7] Adu l6 ⟨Ae3, trivial⟩ Tryz.func93 (de := fun x => S4 x.1 x.2.1 x.2.2.1 x.2.2.2.1) (fun x r h => Ay (Akp x.1 x.2.1 x.2.2.1 x.2.2.2.1) h) fun _ => by kernel_rfl
def Jm (h n : Int) : Int := IntKind.i64.wrap (2 + IntKind.i64.wrap (h * B9 n))
def Ae4 : Sig := ⟨[.rd tI, .rd tI], [none, none], [.rd tI], [none]⟩
noncomputable def sd_impl_begin : SD := ⟨Ae4, fun x => some (((Jm x.1 x.2.1), ()), (()))⟩
noncomputable def Uq (a0 : Int) (a1 : Int) : Option ((((Int) × Unit) × (Unit))) :=
 some ((IntKind.i64.wrap (2 + IntKind.i64.wrap (a0 * B9 a1)), ()), ())
theorem Ae5 (a0 : Int) (a1 : Int) : Uq a0 a1 = some (((Jm a0 a1), ()), (())) := rfl
theorem Ae6 : Bs Tryz.prog 95 sd_impl_begin :=
 Av (pat := Ck) [] F5 (Ax (l := [(91, sd_impl_Halves)]) ⟨Mx, trivial⟩) trivial Tryz.func95 (de := fun x => Uq x.1 x.2.1) (fun x r h => (Ae5 x.1 x.2.1).trans h) fun _ => by kernel_rfl
def Aa (s : Sto) (b : List Chg) : Don := Tt s b
def Adv : Sig := ⟨[.rd Jz, .rd (.sl A2)], [some 10, none], [.rd tI, .rd tI, .rd tI, .rd tI, .rd tI, .rd tI, .rd tI, .rd tI, .rd tI, .rd tI, .own 167 Af, .own 126 B0], [some 12]⟩
noncomputable def sd_impl_Commit : SD := ⟨Adv, fun x => some (((Aa x.1 x.2.1).1, (Aa x.1 x.2.1).2.1.1, (Aa x.1 x.2.1).2.1.2.1, (Aa x.1 x.2.1).2.1.2.2.1, (Aa x.1 x.2.1).2.1.2.2.2.1.1, (Aa x.1 x.2.1).2.1.2.2.2.1.2.1, (Aa x.1 x.2.1).2.1.2.2.2.1.2.2.1, (Aa x.1 x.2.1).2.1.2.2.2.1.2.2.2.1, (Aa x.1 x.2.1).2.1.2.2.2.2.1, (Aa x.1 x.2.1).2.1.2.2.2.2.2.1, (Aa x.1 x.2.1).2.1.2.2.2.2.2.2.1.1, (Aa x.1 x.2.1).2.2.1, ()), (()))⟩
noncomputable def ta_impl_Commit : Tb := tb [(88, sd_impl_ValidStore), (89, sd_impl_ValidBatch), (90, sd_impl_Apply), (91, sd_impl_Halves), (92, sd_impl_Room), (93, sd_impl_Cut), (94, sd_impl_FormBatch), (95, sd_impl_begin)]
def pa_impl_Commit : Nat → Pat × (Nat → Pat) := Gw [(16, ⟨[.sl 8 0 .str, .sl 69 0 .str, .boxSl 2 9 Af, .boxRow 4 10 167 Af, .boxRow 4 11 126 B0, .boxRow 9 10 167 Af, .boxRow 9 11 126 B0], [(2, .lf (.ptr 0 0)), (4, .lf (.ptr 1 0)), (8, .lf (.d (.sl .str))), (9, .lf (.ptr 2 0)), (69, .lf (.d (.sl .str))), (70, .lf (.d tI)), (71, .lf (.d tI))], [.box 33 [.d tI, .d tI, .d tI, .d tI, .d tI, .d tI, .d tI, .d tI, .d tI, .d (.sl Af)], .box 56 [.d tI, .d tI, .d tI, .d tI, .d tI, .d tI, .d tI, .d tI, .d tI, .d tI, .row 3, .row 4], .box 56 [.d tI, .d tI, .d tI, .d tI, .d tI, .d tI, .d tI, .d tI, .d tI, .d tI, .row 5, .row 6], .row 167 Af, .row 126 B0, .row 167 Af, .row 126 B0]⟩, [(2, ⟨[.sl 8 0 .str, .boxRow 4 10 167 Af, .boxRow 4 11 126 B0, .boxRow 9 10 167 Af, .boxRow 9 11 126 B0], [(4, .lf (.ptr 0 0)), (8, .lf (.d (.sl .str))), (9, .lf (.ptr 1 0))], [.box 56 [.d tI, .d tI, .d tI, .d tI, .d tI, .d tI, .d tI, .d tI, .d tI, .d tI, .row 2, .row 3], .box 56 [.d tI, .d tI, .d tI, .d tI, .d tI, .d tI, .d tI, .d tI, .d tI, .d tI, .row 4, .row 5], .row 167 Af, .row 126 B0, .row 167 Af, .row 126 B0]⟩)])]
noncomputable def co_impl_Commit_16 : Code := (An (Bn Tryz.f20)).getD 0 .skip
def D5 (v8 : List ByteArray) (v69 : List ByteArray) (v70 : Int) (v71 : Int) (b0_0 : Int) (b0_1 : Int) (b0_2 : Int) (b0_3 : Int) (b0_4 : Int) (b0_5 : Int) (b0_6 : Int) (b0_7 : Int) (b0_8 : Int) (b0_9 : List Pr2) (b1_0 : Int) (b1_1 : Int) (b1_2 : Int) (b1_3 : Int) (b1_4 : Int) (b1_5 : Int) (b1_6 : Int) (b1_7 : Int) (b1_8 : Int) (b1_9 : Int) (b2_0 : Int) (b2_1 : Int) (b2_2 : Int) (b2_3 : Int) (b2_4 : Int) (b2_5 : Int) (b2_6 : Int) (b2_7 : Int) (b2_8 : Int) (b2_9 : Int) (r3 : List Pr2) (r4 : List Opn) (r5 : List Pr2) (r6 : List Opn) : Nat := (v70 - v71).toNat + 1
noncomputable def Fk {R : Type}  (NX : ((List ByteArray) × (List ByteArray) × (Int) × (Int) × (Int) × (Int) × (Int) × (Int) × (Int) × (Int) × (Int) × (Int) × (Int) × (List Pr2) × (Int) × (Int) × (Int) × (Int) × (Int) × (Int) × (Int) × (Int) × (Int) × (Int) × (Int) × (Int) × (Int) × (Int) × (Int) × (Int) × (Int) × (Int) × (Int) × (Int) × (List Pr2) × (List Opn) × (List Pr2) × (List Opn) × Unit) → Option R) (X2 : ((List ByteArray) × (Int) × (Int) × (Int) × (Int) × (Int) × (Int) × (Int) × (Int) × (Int) × (Int) × (Int) × (Int) × (Int) × (Int) × (Int) × (Int) × (Int) × (Int) × (Int) × (Int) × (List Pr2) × (List Opn) × (List Pr2) × (List Opn) × Unit) → Option R) (v8 : List ByteArray) (v69 : List ByteArray) (v70 : Int) (v71 : Int) (b0_0 : Int) (b0_1 : Int) (b0_2 : Int) (b0_3 : Int) (b0_4 : Int) (b0_5 : Int) (b0_6 : Int) (b0_7 : Int) (b0_8 : Int) (b0_9 : List Pr2) (b1_0 : Int) (b1_1 : Int) (b1_2 : Int) (b1_3 : Int) (b1_4 : Int) (b1_5 : Int) (b1_6 : Int) (b1_7 : Int) (b1_8 : Int) (b1_9 : Int) (b2_0 : Int) (b2_1 : Int) (b2_2 : Int) (b2_3 : Int) (b2_4 : Int) (b2_5 : Int) (b2_6 : Int) (b2_7 : Int) (b2_8 : Int) (b2_9 : Int) (r3 : List Pr2) (r4 : List Opn) (r5 : List Pr2) (r6 : List Opn) : Option R :=
 bif decide (v71 < v70) then bif decide (0 ≤ v71) then bif decide (v71 < nI v69.length) then bif decide ((r6.length + [(false, IntKind.i64.wrap (IntKind.i64.wrap (Jm b0_4 b0_1 + b0_7) + v71), v69.getD v71.toNat (ByteArray.mk #[]), ())].length) * 32 ≤ 140737488355328) then NX (v8, v69, v70, IntKind.i64.wrap (v71 + 1), b0_0, b0_1, b0_2, b0_3, b0_4, b0_5, b0_6, b0_7, b0_8, b0_9, b1_0, b1_1, b1_2, b1_3, b1_4, b1_5, b1_6, b1_7, b1_8, b1_9, b2_0, b2_1, b2_2, b2_3, b2_4, b2_5, b2_6, b2_7, b2_8, b2_9, r3, r4, r5, r6 ++ [(false, IntKind.i64.wrap (IntKind.i64.wrap (Jm b0_4 b0_1 + b0_7) + v71), v69.getD v71.toNat (ByteArray.mk #[]), ())], ()) else none else none else none else X2 (v8, b1_0, b1_1, b1_2, b1_3, b1_4, b1_5, b1_6, b1_7, b1_8, b1_9, b2_0, b2_1, b2_2, b2_3, b2_4, b2_5, b2_6, b2_7, b2_8, b2_9, r3, r4, r5, r6, ())
noncomputable def Bt : Nat → (List ByteArray) → (List ByteArray) → (Int) → (Int) → (Int) → (Int) → (Int) → (Int) → (Int) → (Int) → (Int) → (Int) → (Int) → (List Pr2) → (Int) → (Int) → (Int) → (Int) → (Int) → (Int) → (Int) → (Int) → (Int) → (Int) → (Int) → (Int) → (Int) → (Int) → (Int) → (Int) → (Int) → (Int) → (Int) → (Int) → (List Pr2) → (List Opn) → (List Pr2) → (List Opn) →  Option ((List ByteArray) × (Int) × (Int) × (Int) × (Int) × (Int) × (Int) × (Int) × (Int) × (Int) × (Int) × (Int) × (Int) × (Int) × (Int) × (Int) × (Int) × (Int) × (Int) × (Int) × (Int) × (List Pr2) × (List Opn) × (List Pr2) × (List Opn) × Unit)
 | 0, _, _, _, _, _, _, _, _, _, _, _, _, _, _, _, _, _, _, _, _, _, _, _, _, _, _, _, _, _, _, _, _, _, _, _, _, _, _ => none
 | m + 1, v8, v69, v70, v71, b0_0, b0_1, b0_2, b0_3, b0_4, b0_5, b0_6, b0_7, b0_8, b0_9, b1_0, b1_1, b1_2, b1_3, b1_4, b1_5, b1_6, b1_7, b1_8, b1_9, b2_0, b2_1, b2_2, b2_3, b2_4, b2_5, b2_6, b2_7, b2_8, b2_9, r3, r4, r5, r6 => Fk  (fun d => Bt m d.1 d.2.1 d.2.2.1 d.2.2.2.1 d.2.2.2.2.1 d.2.2.2.2.2.1 d.2.2.2.2.2.2.1 d.2.2.2.2.2.2.2.1 d.2.2.2.2.2.2.2.2.1 d.2.2.2.2.2.2.2.2.2.1 d.2.2.2.2.2.2.2.2.2.2.1 d.2.2.2.2.2.2.2.2.2.2.2.1 d.2.2.2.2.2.2.2.2.2.2.2.2.1 d.2.2.2.2.2.2.2.2.2.2.2.2.2.1 d.2.2.2.2.2.2.2.2.2.2.2.2.2.2.1 d.2.2.2.2.2.2.2.2.2.2.2.2.2.2.2.1 d.2.2.2.2.2.2.2.2.2.2.2.2.2.2.2.2.1 d.2.2.2.2.2.2.2.2.2.2.2.2.2.2.2.2.2.1 d.2.2.2.2.2.2.2.2.2.2.2.2.2.2.2.2.2.2.1 d.2.2.2.2.2.2.2.2.2.2.2.2.2.2.2.2.2.2.2.1 d.2.2.2.2.2.2.2.2.2.2.2.2.2.2.2.2.2.2.2.2.1 d.2.2.2.2.2.2.2.2.2.2.2.2.2.2.2.2.2.2.2.2.2.1 d.2.2.2.2.2.2.2.2.2.2.2.2.2.2.2.2.2.2.2.2.2.2.1 d.2.2.2.2.2.2.2.2.2.2.2.2.2.2.2.2.2.2.2.2.2.2.2.1 d.2.2.2.2.2.2.2.2.2.2.2.2.2.2.2.2.2.2.2.2.2.2.2.2.1 d.2.2.2.2.2.2.2.2.2.2.2.2.2.2.2.2.2.2.2.2.2.2.2.2.2.1 d.2.2.2.2.2.2.2.2.2.2.2.2.2.2.2.2.2.2.2.2.2.2.2.2.2.2.1 d.2.2.2.2.2.2.2.2.2.2.2.2.2.2.2.2.2.2.2.2.2.2.2.2.2.2.2.1 d.2.2.2.2.2.2.2.2.2.2.2.2.2.2.2.2.2.2.2.2.2.2.2.2.2.2.2.2.1 d.2.2.2.2.2.2.2.2.2.2.2.2.2.2.2.2.2.2.2.2.2.2.2.2.2.2.2.2.2.1 d.2.2.2.2.2.2.2.2.2.2.2.2.2.2.2.2.2.2.2.2.2.2.2.2.2.2.2.2.2.2.1 d.2.2.2.2.2.2.2.2.2.2.2.2.2.2.2.2.2.2.2.2.2.2.2.2.2.2.2.2.2.2.2.1 d.2.2.2.2.2.2.2.2.2.2.2.2.2.2.2.2.2.2.2.2.2.2.2.2.2.2.2.2.2.2.2.2.1 d.2.2.2.2.2.2.2.2.2.2.2.2.2.2.2.2.2.2.2.2.2.2.2.2.2.2.2.2.2.2.2.2.2.1 d.2.2.2.2.2.2.2.2.2.2.2.2.2.2.2.2.2.2.2.2.2.2.2.2.2.2.2.2.2.2.2.2.2.2.1 d.2.2.2.2.2.2.2.2.2.2.2.2.2.2.2.2.2.2.2.2.2.2.2.2.2.2.2.2.2.2.2.2.2.2.2.1 d.2.2.2.2.2.2.2.2.2.2.2.2.2.2.2.2.2.2.2.2.2.2.2.2.2.2.2.2.2.2.2.2.2.2.2.2.1 d.2.2.2.2.2.2.2.2.2.2.2.2.2.2.2.2.2.2.2.2.2.2.2.2.2.2.2.2.2.2.2.2.2.2.2.2.2.1) (fun d => some (d)) v8 v69 v70 v71 b0_0 b0_1 b0_2 b0_3 b0_4 b0_5 b0_6 b0_7 b0_8 b0_9 b1_0 b1_1 b1_2 b1_3 b1_4 b1_5 b1_6 b1_7 b1_8 b1_9 b2_0 b2_1 b2_2 b2_3 b2_4 b2_5 b2_6 b2_7 b2_8 b2_9 r3 r4 r5 r6
noncomputable def M2 (a0 : Sto) (a1 : List Chg) : Option ((((Int) × (Int) × (Int) × (Int) × (Int) × (Int) × (Int) × (Int) × (Int) × (Int) × (List Pr2) × (List Opn) × Unit) × (Unit))) :=
 bif !G1 a0 then some ((1, 0, 0, 0, 0, 0, 0, 0, 0, 0, [], [], ()), ()) else bif !D4 a1 then some ((1, 0, 0, 0, 0, 0, 0, 0, 0, 0, [], [], ()), ()) else bif (Dq a0.2.2.2.2.2.2.1 a1).2 != 0 then some (((Dq a0.2.2.2.2.2.2.1 a1).2, 0, 0, 0, 0, 0, 0, 0, 0, 0, [], [], ()), ()) else bif decide (Hd (Dq a0.2.2.2.2.2.2.1 a1).1 a0.1 > IntKind.i64.wrap (B9 a0.2.1 - 1)) then some ((3, 0, 0, 0, 0, 0, 0, 0, 0, 0, [], [], ()), ()) else ((M1 (Do a1) a0.2.2.1 (IntKind.i64.wrap (a0.2.2.2.1.2.2.1 + a0.2.2.2.2.1)) a0.1).bind fun val => some ((val, ()), ())).bind fun val => bif decide (nI (List.length val.1.1) > IntKind.i64.wrap (B9 a0.2.1 - a0.2.2.2.2.1)) then some ((4, 0, 0, 0, 0, 0, 0, 0, 0, 0, [], [], ()), ()) else ((fun d => Bt (D5 d.1 d.2.1 d.2.2.1 d.2.2.2.1 d.2.2.2.2.1 d.2.2.2.2.2.1 d.2.2.2.2.2.2.1 d.2.2.2.2.2.2.2.1 d.2.2.2.2.2.2.2.2.1 d.2.2.2.2.2.2.2.2.2.1 d.2.2.2.2.2.2.2.2.2.2.1 d.2.2.2.2.2.2.2.2.2.2.2.1 d.2.2.2.2.2.2.2.2.2.2.2.2.1 d.2.2.2.2.2.2.2.2.2.2.2.2.2.1 d.2.2.2.2.2.2.2.2.2.2.2.2.2.2.1 d.2.2.2.2.2.2.2.2.2.2.2.2.2.2.2.1 d.2.2.2.2.2.2.2.2.2.2.2.2.2.2.2.2.1 d.2.2.2.2.2.2.2.2.2.2.2.2.2.2.2.2.2.1 d.2.2.2.2.2.2.2.2.2.2.2.2.2.2.2.2.2.2.1 d.2.2.2.2.2.2.2.2.2.2.2.2.2.2.2.2.2.2.2.1 d.2.2.2.2.2.2.2.2.2.2.2.2.2.2.2.2.2.2.2.2.1 d.2.2.2.2.2.2.2.2.2.2.2.2.2.2.2.2.2.2.2.2.2.1 d.2.2.2.2.2.2.2.2.2.2.2.2.2.2.2.2.2.2.2.2.2.2.1 d.2.2.2.2.2.2.2.2.2.2.2.2.2.2.2.2.2.2.2.2.2.2.2.1 d.2.2.2.2.2.2.2.2.2.2.2.2.2.2.2.2.2.2.2.2.2.2.2.2.1 d.2.2.2.2.2.2.2.2.2.2.2.2.2.2.2.2.2.2.2.2.2.2.2.2.2.1 d.2.2.2.2.2.2.2.2.2.2.2.2.2.2.2.2.2.2.2.2.2.2.2.2.2.2.1 d.2.2.2.2.2.2.2.2.2.2.2.2.2.2.2.2.2.2.2.2.2.2.2.2.2.2.2.1 d.2.2.2.2.2.2.2.2.2.2.2.2.2.2.2.2.2.2.2.2.2.2.2.2.2.2.2.2.1 d.2.2.2.2.2.2.2.2.2.2.2.2.2.2.2.2.2.2.2.2.2.2.2.2.2.2.2.2.2.1 d.2.2.2.2.2.2.2.2.2.2.2.2.2.2.2.2.2.2.2.2.2.2.2.2.2.2.2.2.2.2.1 d.2.2.2.2.2.2.2.2.2.2.2.2.2.2.2.2.2.2.2.2.2.2.2.2.2.2.2.2.2.2.2.1 d.2.2.2.2.2.2.2.2.2.2.2.2.2.2.2.2.2.2.2.2.2.2.2.2.2.2.2.2.2.2.2.2.1 d.2.2.2.2.2.2.2.2.2.2.2.2.2.2.2.2.2.2.2.2.2.2.2.2.2.2.2.2.2.2.2.2.2.1 d.2.2.2.2.2.2.2.2.2.2.2.2.2.2.2.2.2.2.2.2.2.2.2.2.2.2.2.2.2.2.2.2.2.2.1 d.2.2.2.2.2.2.2.2.2.2.2.2.2.2.2.2.2.2.2.2.2.2.2.2.2.2.2.2.2.2.2.2.2.2.2.1 d.2.2.2.2.2.2.2.2.2.2.2.2.2.2.2.2.2.2.2.2.2.2.2.2.2.2.2.2.2.2.2.2.2.2.2.2.1 d.2.2.2.2.2.2.2.2.2.2.2.2.2.2.2.2.2.2.2.2.2.2.2.2.2.2.2.2.2.2.2.2.2.2.2.2.2.1) d.1 d.2.1 d.2.2.1 d.2.2.2.1 d.2.2.2.2.1 d.2.2.2.2.2.1 d.2.2.2.2.2.2.1 d.2.2.2.2.2.2.2.1 d.2.2.2.2.2.2.2.2.1 d.2.2.2.2.2.2.2.2.2.1 d.2.2.2.2.2.2.2.2.2.2.1 d.2.2.2.2.2.2.2.2.2.2.2.1 d.2.2.2.2.2.2.2.2.2.2.2.2.1 d.2.2.2.2.2.2.2.2.2.2.2.2.2.1 d.2.2.2.2.2.2.2.2.2.2.2.2.2.2.1 d.2.2.2.2.2.2.2.2.2.2.2.2.2.2.2.1 d.2.2.2.2.2.2.2.2.2.2.2.2.2.2.2.2.1 d.2.2.2.2.2.2.2.2.2.2.2.2.2.2.2.2.2.1 d.2.2.2.2.2.2.2.2.2.2.2.2.2.2.2.2.2.2.1 d.2.2.2.2.2.2.2.2.2.2.2.2.2.2.2.2.2.2.2.1 d.2.2.2.2.2.2.2.2.2.2.2.2.2.2.2.2.2.2.2.2.1 d.2.2.2.2.2.2.2.2.2.2.2.2.2.2.2.2.2.2.2.2.2.1 d.2.2.2.2.2.2.2.2.2.2.2.2.2.2.2.2.2.2.2.2.2.2.1 d.2.2.2.2.2.2.2.2.2.2.2.2.2.2.2.2.2.2.2.2.2.2.2.1 d.2.2.2.2.2.2.2.2.2.2.2.2.2.2.2.2.2.2.2.2.2.2.2.2.1 d.2.2.2.2.2.2.2.2.2.2.2.2.2.2.2.2.2.2.2.2.2.2.2.2.2.1 d.2.2.2.2.2.2.2.2.2.2.2.2.2.2.2.2.2.2.2.2.2.2.2.2.2.2.1 d.2.2.2.2.2.2.2.2.2.2.2.2.2.2.2.2.2.2.2.2.2.2.2.2.2.2.2.1 d.2.2.2.2.2.2.2.2.2.2.2.2.2.2.2.2.2.2.2.2.2.2.2.2.2.2.2.2.1 d.2.2.2.2.2.2.2.2.2.2.2.2.2.2.2.2.2.2.2.2.2.2.2.2.2.2.2.2.2.1 d.2.2.2.2.2.2.2.2.2.2.2.2.2.2.2.2.2.2.2.2.2.2.2.2.2.2.2.2.2.2.1 d.2.2.2.2.2.2.2.2.2.2.2.2.2.2.2.2.2.2.2.2.2.2.2.2.2.2.2.2.2.2.2.1 d.2.2.2.2.2.2.2.2.2.2.2.2.2.2.2.2.2.2.2.2.2.2.2.2.2.2.2.2.2.2.2.2.1 d.2.2.2.2.2.2.2.2.2.2.2.2.2.2.2.2.2.2.2.2.2.2.2.2.2.2.2.2.2.2.2.2.2.1 d.2.2.2.2.2.2.2.2.2.2.2.2.2.2.2.2.2.2.2.2.2.2.2.2.2.2.2.2.2.2.2.2.2.2.1 d.2.2.2.2.2.2.2.2.2.2.2.2.2.2.2.2.2.2.2.2.2.2.2.2.2.2.2.2.2.2.2.2.2.2.2.1 d.2.2.2.2.2.2.2.2.2.2.2.2.2.2.2.2.2.2.2.2.2.2.2.2.2.2.2.2.2.2.2.2.2.2.2.2.1 d.2.2.2.2.2.2.2.2.2.2.2.2.2.2.2.2.2.2.2.2.2.2.2.2.2.2.2.2.2.2.2.2.2.2.2.2.2.1) (val.1.1, val.1.1, nI (List.length val.1.1), 0, a0.1, a0.2.1, a0.2.2.1, a0.2.2.2.1.1, a0.2.2.2.1.2.1, a0.2.2.2.1.2.2.1, a0.2.2.2.1.2.2.2.1, a0.2.2.2.2.1, a0.2.2.2.2.2.1, a0.2.2.2.2.2.2.1.1, 0, 0, 0, 0, 0, 0, 0, 0, 0, 0, 0, a0.1, a0.2.1, a0.2.2.1, a0.2.2.2.1.1, a0.2.2.2.1.2.1, a0.2.2.2.1.2.2.1, a0.2.2.2.1.2.2.2.1, a0.2.2.2.2.1, a0.2.2.2.2.2.1, [], [], (Dq a0.2.2.2.2.2.2.1 a1).1.1, [], ())).bind fun val => some ((val.2.2.2.2.2.2.2.2.2.2.2.1, val.2.2.2.2.2.2.2.2.2.2.2.2.1, val.2.2.2.2.2.2.2.2.2.2.2.2.2.1, val.2.2.2.2.2.2.2.2.2.2.2.2.2.2.1, val.2.2.2.2.2.2.2.2.2.2.2.2.2.2.2.1, val.2.2.2.2.2.2.2.2.2.2.2.2.2.2.2.2.1, val.2.2.2.2.2.2.2.2.2.2.2.2.2.2.2.2.2.1, val.2.2.2.2.2.2.2.2.2.2.2.2.2.2.2.2.2.2.1, IntKind.i64.wrap (val.2.2.2.2.2.2.2.2.2.2.2.2.2.2.2.2.2.2.2.1 + nI (List.length val.1)), IntKind.i64.wrap (val.2.2.2.2.2.2.2.2.2.2.2.2.2.2.2.2.2.2.2.2.1 + nI (List.length val.1)), val.2.2.2.2.2.2.2.2.2.2.2.2.2.2.2.2.2.2.2.2.2.2.2), ())
theorem Ae7 (p0 p1 p2 p3 p4 p5 p6 p7 p8 q0 q1 q2 q3 q4 q5 q6 q7 q8 q9 : Int) (p9 r5 : List Pr2) (L : List ByteArray) (hL : L.length ≤ 4001) (hH : 0 ≤ p4 ∧ p4 ≤ 1) (hU : 0 ≤ p7 ∧ p7 ≤ 99) :
  Bt (D5 L L (nI L.length) 0 p0 p1 p2 p3 p4 p5 p6 p7 p8 p9 0 0 0 0 0 0 0 0 0 0 q0 q1 q2 q3 q4 q5 q6 q7 q8 q9 [] [] r5 []) L L (nI L.length) 0 p0 p1 p2 p3 p4 p5 p6 p7 p8 p9 0 0 0 0 0 0 0 0 0 0 q0 q1 q2 q3 q4 q5 q6 q7 q8 q9 [] [] r5 [] = some (L, 0, 0, 0, 0, 0, 0, 0, 0, 0, 0, q0, q1, q2, q3, q4, q5, q6, q7, q8, q9, [], [], r5, (j9 (Ht p4 p1 + p7) L), ()) := by
 have hm := And (n := p1) hH
 have e0 : Jm p4 p1 = Ht p4 p1 := by
  show IntKind.i64.wrap (2 + IntKind.i64.wrap (p4 * A0 p1)) = 2 + p4 * A0 p1
  rw [Ae (n := p4 * A0 p1) (by omega) (by omega), Ae (by omega) (by omega)]
 have hB : 0 ≤ Ht p4 p1 ∧ Ht p4 p1 ≤ 101 := by unfold Ht; omega
 have hL := Er (xs := L) z0 (fun i (r : List Opn) => i ≤ 4001 ∧ r.length = i) (fun (i : Nat) x r => r ++ [Aqf (Ht p4 p1 + p7 + (i : Int)) x]) (g := fun m i r => Bt m L L (nI L.length) i p0 p1 p2 p3 p4 p5 p6 p7 p8 p9 0 0 0 0 0 0 0 0 0 0 q0 q1 q2 q3 q4 q5 q6 q7 q8 q9 [] [] r5 r) (ok := fun r => (L, 0, 0, 0, 0, 0, 0, 0, 0, 0, 0, q0, q1, q2, q3, q4, q5, q6, q7, q8, q9, [], [], r5, r, ())) (fun m i r hi hI => by
   show Bt (m + 1) L L (nI L.length) i p0 p1 p2 p3 p4 p5 p6 p7 p8 p9 0 0 0 0 0 0 0 0 0 0 q0 q1 q2 q3 q4 q5 q6 q7 q8 q9 [] [] r5 r = _
   simp only [Bt, Fk]
   obtain ⟨h1, h2⟩ := hI
   rw [Pw hi, Gk, wI (show i < 4611686018427387904 by omega), Int.toNat_natCast, e0, Ae (n := Ht p4 p1 + p7) (by omega) (by omega), Ae (n := Ht p4 p1 + p7 + (i : Int)) (by omega) (by omega), List.length_singleton, decide_eq_true (show (r.length + 1) * 32 ≤ 140737488355328 by omega)]
   rfl) (fun i r hi hI => ⟨by omega, by rw [List.length_append, List.length_singleton, hI.2]⟩) (fun m r hI => by
   show Bt (m + 1) L L (nI L.length) (L.length : Int) p0 p1 p2 p3 p4 p5 p6 p7 p8 p9 0 0 0 0 0 0 0 0 0 0 q0 q1 q2 q3 q4 q5 q6 q7 q8 q9 [] [] r5 r = _
   simp only [Bt, Fk]
   rw [I6]
   rfl) (D5 L L (nI L.length) 0 p0 p1 p2 p3 p4 p5 p6 p7 p8 p9 0 0 0 0 0 0 0 0 0 0 q0 q1 q2 q3 q4 q5 q6 q7 q8 q9 [] [] r5 []) 0 [] (by omega) (by simp [D5, nI]) ⟨by omega, rfl⟩
 rw [Zm, List.drop_zero, List.nil_append, show Ht p4 p1 + p7 + ((0 : Nat) : Int) = Ht p4 p1 + p7 by omega] at hL
 exact hL
theorem Adw (a0 : Sto) (a1 : List Chg) : M2 a0 a1 = some (((Aa a0 a1).1, (Aa a0 a1).2.1.1, (Aa a0 a1).2.1.2.1, (Aa a0 a1).2.1.2.2.1, (Aa a0 a1).2.1.2.2.2.1.1, (Aa a0 a1).2.1.2.2.2.1.2.1, (Aa a0 a1).2.1.2.2.2.1.2.2.1, (Aa a0 a1).2.1.2.2.2.1.2.2.2.1, (Aa a0 a1).2.1.2.2.2.2.1, (Aa a0 a1).2.1.2.2.2.2.2.1, (Aa a0 a1).2.1.2.2.2.2.2.2.1.1, (Aa a0 a1).2.2.1, ()), (())) := by
 unfold M2 Aa Tt
 simp only [B9, Do, Dq, Hd]
 show (bif !D6 a0 then _ else bif !A4 a1 then _ else _) = _
 cases hv : D6 a0 with
 | false => rfl
 | true =>
  cases hb : A4 a1 with
  | false => rfl
  | true =>
   simp only [Bool.not_true, cond_false]
   obtain ⟨_, _, h3, _, _, h6, _, h8, h9, _⟩ := Anc hv
   obtain ⟨r1, r2⟩ := Cq h6
   have r1 := Ep r1
   have r2 := Ep r2
   have hh := O6 a0.2.1
   show (bif (D7 a0.2.2.2.2.2.2.1 a1).2 != 0 then _ else _) = _
   rcases Acy h3 hb with hc | hc
   ·rw [hc]
    show (bif decide (Mg (D7 a0.2.2.2.2.2.2.1 a1).1 a0.1 > IntKind.i64.wrap (A0 a0.2.1 - 1)) then _ else _) = (_ : Option _)
    rw [Nk]
    show _ = some (((bif decide (Mg (D7 a0.2.2.2.2.2.2.1 a1).1 a0.1 > A0 a0.2.1 - 1) then Al0 3 else _ : Don).1, _), _)
    cases hr : decide (Mg (D7 a0.2.2.2.2.2.2.1 a1).1 a0.1 > A0 a0.2.1 - 1) with
    | true => simp only [cond_true, bne_self_eq_false, cond_false]; rfl
    | false =>
     simp only [cond_false, bne_self_eq_false]
     have hl := Aa1 a1 a0.2.2.1 (a0.2.2.2.1.2.2.1 + a0.2.2.2.2.1) a0.1
     have e1 : M1 (F8 a1) a0.2.2.1 (a0.2.2.2.1.2.2.1 + a0.2.2.2.2.1) a0.1 = some (Fs a0 a1) := if_pos (Nat.le_trans (If _) (by decide))
     rw [Ae (n := a0.2.2.2.1.2.2.1 + a0.2.2.2.2.1) (by omega) (by omega), e1]
     simp only [Option.bind_some]
     have hw : IntKind.i64.wrap (A0 a0.2.1 - a0.2.2.2.2.1) = A0 a0.2.1 - a0.2.2.2.2.1 := Ae (by omega) (by omega)
     simp only [hw]
     cases hq : decide (nI (Fs a0 a1).length > A0 a0.2.1 - a0.2.2.2.2.1) with
     | true => rfl
     | false =>
      simp only [cond_false]
      have hl : (Fs a0 a1).length ≤ 4001 := hl
      refine Zl (Ae7 a0.1 a0.2.1 a0.2.2.1 a0.2.2.2.1.1 a0.2.2.2.1.2.1 a0.2.2.2.1.2.2.1 a0.2.2.2.1.2.2.2.1 a0.2.2.2.2.1 a0.2.2.2.2.2.1 0 a0.1 a0.2.1 a0.2.2.1 a0.2.2.2.1.1 a0.2.2.2.1.2.1 a0.2.2.2.1.2.2.1 a0.2.2.2.1.2.2.2.1 a0.2.2.2.2.1 a0.2.2.2.2.2.1 a0.2.2.2.2.2.2.1.1 (D7 a0.2.2.2.2.2.2.1 a1).1.1 (Fs a0 a1) hl r1 ⟨by omega, by omega⟩) ?_
      dsimp only
      rw [Ae (n := a0.2.2.2.2.1 + nI (Fs a0 a1).length) (by simp only [nI]; omega) (by simp only [nI]; omega), Ae (n := a0.2.2.2.2.2.1 + nI (Fs a0 a1).length) (by simp only [nI]; omega) (by simp only [nI]; omega)]
   ·rw [hc]
    rfl
noncomputable def N2 {R : Type} (k : Kt R) := (Ln (pa_impl_Commit 16) (.exit 0) 2 k)
noncomputable def Ur {R : Type} : Lt R pa_impl_Commit := (Gb (pat := pa_impl_Commit) 16 (fun d k => (Bt (D5 d.1 d.2.1 d.2.2.1 d.2.2.2.1 d.2.2.2.2.1 d.2.2.2.2.2.1 d.2.2.2.2.2.2.1 d.2.2.2.2.2.2.2.1 d.2.2.2.2.2.2.2.2.1 d.2.2.2.2.2.2.2.2.2.1 d.2.2.2.2.2.2.2.2.2.2.1 d.2.2.2.2.2.2.2.2.2.2.2.1 d.2.2.2.2.2.2.2.2.2.2.2.2.1 d.2.2.2.2.2.2.2.2.2.2.2.2.2.1 d.2.2.2.2.2.2.2.2.2.2.2.2.2.2.1 d.2.2.2.2.2.2.2.2.2.2.2.2.2.2.2.1 d.2.2.2.2.2.2.2.2.2.2.2.2.2.2.2.2.1 d.2.2.2.2.2.2.2.2.2.2.2.2.2.2.2.2.2.1 d.2.2.2.2.2.2.2.2.2.2.2.2.2.2.2.2.2.2.1 d.2.2.2.2.2.2.2.2.2.2.2.2.2.2.2.2.2.2.2.1 d.2.2.2.2.2.2.2.2.2.2.2.2.2.2.2.2.2.2.2.2.1 d.2.2.2.2.2.2.2.2.2.2.2.2.2.2.2.2.2.2.2.2.2.1 d.2.2.2.2.2.2.2.2.2.2.2.2.2.2.2.2.2.2.2.2.2.2.1 d.2.2.2.2.2.2.2.2.2.2.2.2.2.2.2.2.2.2.2.2.2.2.2.1 d.2.2.2.2.2.2.2.2.2.2.2.2.2.2.2.2.2.2.2.2.2.2.2.2.1 d.2.2.2.2.2.2.2.2.2.2.2.2.2.2.2.2.2.2.2.2.2.2.2.2.2.1 d.2.2.2.2.2.2.2.2.2.2.2.2.2.2.2.2.2.2.2.2.2.2.2.2.2.2.1 d.2.2.2.2.2.2.2.2.2.2.2.2.2.2.2.2.2.2.2.2.2.2.2.2.2.2.2.1 d.2.2.2.2.2.2.2.2.2.2.2.2.2.2.2.2.2.2.2.2.2.2.2.2.2.2.2.2.1 d.2.2.2.2.2.2.2.2.2.2.2.2.2.2.2.2.2.2.2.2.2.2.2.2.2.2.2.2.2.1 d.2.2.2.2.2.2.2.2.2.2.2.2.2.2.2.2.2.2.2.2.2.2.2.2.2.2.2.2.2.2.1 d.2.2.2.2.2.2.2.2.2.2.2.2.2.2.2.2.2.2.2.2.2.2.2.2.2.2.2.2.2.2.2.1 d.2.2.2.2.2.2.2.2.2.2.2.2.2.2.2.2.2.2.2.2.2.2.2.2.2.2.2.2.2.2.2.2.1 d.2.2.2.2.2.2.2.2.2.2.2.2.2.2.2.2.2.2.2.2.2.2.2.2.2.2.2.2.2.2.2.2.2.1 d.2.2.2.2.2.2.2.2.2.2.2.2.2.2.2.2.2.2.2.2.2.2.2.2.2.2.2.2.2.2.2.2.2.2.1 d.2.2.2.2.2.2.2.2.2.2.2.2.2.2.2.2.2.2.2.2.2.2.2.2.2.2.2.2.2.2.2.2.2.2.2.1 d.2.2.2.2.2.2.2.2.2.2.2.2.2.2.2.2.2.2.2.2.2.2.2.2.2.2.2.2.2.2.2.2.2.2.2.2.1 d.2.2.2.2.2.2.2.2.2.2.2.2.2.2.2.2.2.2.2.2.2.2.2.2.2.2.2.2.2.2.2.2.2.2.2.2.2.1) d.1 d.2.1 d.2.2.1 d.2.2.2.1 d.2.2.2.2.1 d.2.2.2.2.2.1 d.2.2.2.2.2.2.1 d.2.2.2.2.2.2.2.1 d.2.2.2.2.2.2.2.2.1 d.2.2.2.2.2.2.2.2.2.1 d.2.2.2.2.2.2.2.2.2.2.1 d.2.2.2.2.2.2.2.2.2.2.2.1 d.2.2.2.2.2.2.2.2.2.2.2.2.1 d.2.2.2.2.2.2.2.2.2.2.2.2.2.1 d.2.2.2.2.2.2.2.2.2.2.2.2.2.2.1 d.2.2.2.2.2.2.2.2.2.2.2.2.2.2.2.1 d.2.2.2.2.2.2.2.2.2.2.2.2.2.2.2.2.1 d.2.2.2.2.2.2.2.2.2.2.2.2.2.2.2.2.2.1 d.2.2.2.2.2.2.2.2.2.2.2.2.2.2.2.2.2.2.1 d.2.2.2.2.2.2.2.2.2.2.2.2.2.2.2.2.2.2.2.1 d.2.2.2.2.2.2.2.2.2.2.2.2.2.2.2.2.2.2.2.2.1 d.2.2.2.2.2.2.2.2.2.2.2.2.2.2.2.2.2.2.2.2.2.1 d.2.2.2.2.2.2.2.2.2.2.2.2.2.2.2.2.2.2.2.2.2.2.1 d.2.2.2.2.2.2.2.2.2.2.2.2.2.2.2.2.2.2.2.2.2.2.2.1 d.2.2.2.2.2.2.2.2.2.2.2.2.2.2.2.2.2.2.2.2.2.2.2.2.1 d.2.2.2.2.2.2.2.2.2.2.2.2.2.2.2.2.2.2.2.2.2.2.2.2.2.1 d.2.2.2.2.2.2.2.2.2.2.2.2.2.2.2.2.2.2.2.2.2.2.2.2.2.2.1 d.2.2.2.2.2.2.2.2.2.2.2.2.2.2.2.2.2.2.2.2.2.2.2.2.2.2.2.1 d.2.2.2.2.2.2.2.2.2.2.2.2.2.2.2.2.2.2.2.2.2.2.2.2.2.2.2.2.1 d.2.2.2.2.2.2.2.2.2.2.2.2.2.2.2.2.2.2.2.2.2.2.2.2.2.2.2.2.2.1 d.2.2.2.2.2.2.2.2.2.2.2.2.2.2.2.2.2.2.2.2.2.2.2.2.2.2.2.2.2.2.1 d.2.2.2.2.2.2.2.2.2.2.2.2.2.2.2.2.2.2.2.2.2.2.2.2.2.2.2.2.2.2.2.1 d.2.2.2.2.2.2.2.2.2.2.2.2.2.2.2.2.2.2.2.2.2.2.2.2.2.2.2.2.2.2.2.2.1 d.2.2.2.2.2.2.2.2.2.2.2.2.2.2.2.2.2.2.2.2.2.2.2.2.2.2.2.2.2.2.2.2.2.1 d.2.2.2.2.2.2.2.2.2.2.2.2.2.2.2.2.2.2.2.2.2.2.2.2.2.2.2.2.2.2.2.2.2.2.1 d.2.2.2.2.2.2.2.2.2.2.2.2.2.2.2.2.2.2.2.2.2.2.2.2.2.2.2.2.2.2.2.2.2.2.2.1 d.2.2.2.2.2.2.2.2.2.2.2.2.2.2.2.2.2.2.2.2.2.2.2.2.2.2.2.2.2.2.2.2.2.2.2.2.1 d.2.2.2.2.2.2.2.2.2.2.2.2.2.2.2.2.2.2.2.2.2.2.2.2.2.2.2.2.2.2.2.2.2.2.2.2.2.1).bind (N2 k)) F5)
theorem S5 : At Tryz.prog ta_impl_Commit := Ax ⟨V2, Im, Ae1, Mx, Xp, Akq, N0, Ae6, trivial⟩
theorem Xy {R : Type} : Ba Tryz.prog R 112 0 pa_impl_Commit Ur co_impl_Commit_16 :=
 Dd (cfg := ⟨ta_impl_Commit, 0, 112, pa_impl_Commit⟩) 16 [] (fun NX X d => Fk  NX X d.1 d.2.1 d.2.2.1 d.2.2.2.1 d.2.2.2.2.1 d.2.2.2.2.2.1 d.2.2.2.2.2.2.1 d.2.2.2.2.2.2.2.1 d.2.2.2.2.2.2.2.2.1 d.2.2.2.2.2.2.2.2.2.1 d.2.2.2.2.2.2.2.2.2.2.1 d.2.2.2.2.2.2.2.2.2.2.2.1 d.2.2.2.2.2.2.2.2.2.2.2.2.1 d.2.2.2.2.2.2.2.2.2.2.2.2.2.1 d.2.2.2.2.2.2.2.2.2.2.2.2.2.2.1 d.2.2.2.2.2.2.2.2.2.2.2.2.2.2.2.1 d.2.2.2.2.2.2.2.2.2.2.2.2.2.2.2.2.1 d.2.2.2.2.2.2.2.2.2.2.2.2.2.2.2.2.2.1 d.2.2.2.2.2.2.2.2.2.2.2.2.2.2.2.2.2.2.1 d.2.2.2.2.2.2.2.2.2.2.2.2.2.2.2.2.2.2.2.1 d.2.2.2.2.2.2.2.2.2.2.2.2.2.2.2.2.2.2.2.2.1 d.2.2.2.2.2.2.2.2.2.2.2.2.2.2.2.2.2.2.2.2.2.1 d.2.2.2.2.2.2.2.2.2.2.2.2.2.2.2.2.2.2.2.2.2.2.1 d.2.2.2.2.2.2.2.2.2.2.2.2.2.2.2.2.2.2.2.2.2.2.2.1 d.2.2.2.2.2.2.2.2.2.2.2.2.2.2.2.2.2.2.2.2.2.2.2.2.1 d.2.2.2.2.2.2.2.2.2.2.2.2.2.2.2.2.2.2.2.2.2.2.2.2.2.1 d.2.2.2.2.2.2.2.2.2.2.2.2.2.2.2.2.2.2.2.2.2.2.2.2.2.2.1 d.2.2.2.2.2.2.2.2.2.2.2.2.2.2.2.2.2.2.2.2.2.2.2.2.2.2.2.1 d.2.2.2.2.2.2.2.2.2.2.2.2.2.2.2.2.2.2.2.2.2.2.2.2.2.2.2.2.1 d.2.2.2.2.2.2.2.2.2.2.2.2.2.2.2.2.2.2.2.2.2.2.2.2.2.2.2.2.2.1 d.2.2.2.2.2.2.2.2.2.2.2.2.2.2.2.2.2.2.2.2.2.2.2.2.2.2.2.2.2.2.1 d.2.2.2.2.2.2.2.2.2.2.2.2.2.2.2.2.2.2.2.2.2.2.2.2.2.2.2.2.2.2.2.1 d.2.2.2.2.2.2.2.2.2.2.2.2.2.2.2.2.2.2.2.2.2.2.2.2.2.2.2.2.2.2.2.2.1 d.2.2.2.2.2.2.2.2.2.2.2.2.2.2.2.2.2.2.2.2.2.2.2.2.2.2.2.2.2.2.2.2.2.1 d.2.2.2.2.2.2.2.2.2.2.2.2.2.2.2.2.2.2.2.2.2.2.2.2.2.2.2.2.2.2.2.2.2.2.1 d.2.2.2.2.2.2.2.2.2.2.2.2.2.2.2.2.2.2.2.2.2.2.2.2.2.2.2.2.2.2.2.2.2.2.2.1 d.2.2.2.2.2.2.2.2.2.2.2.2.2.2.2.2.2.2.2.2.2.2.2.2.2.2.2.2.2.2.2.2.2.2.2.2.1 d.2.2.2.2.2.2.2.2.2.2.2.2.2.2.2.2.2.2.2.2.2.2.2.2.2.2.2.2.2.2.2.2.2.2.2.2.2.1) (fun m d => Bt m d.1 d.2.1 d.2.2.1 d.2.2.2.1 d.2.2.2.2.1 d.2.2.2.2.2.1 d.2.2.2.2.2.2.1 d.2.2.2.2.2.2.2.1 d.2.2.2.2.2.2.2.2.1 d.2.2.2.2.2.2.2.2.2.1 d.2.2.2.2.2.2.2.2.2.2.1 d.2.2.2.2.2.2.2.2.2.2.2.1 d.2.2.2.2.2.2.2.2.2.2.2.2.1 d.2.2.2.2.2.2.2.2.2.2.2.2.2.1 d.2.2.2.2.2.2.2.2.2.2.2.2.2.2.1 d.2.2.2.2.2.2.2.2.2.2.2.2.2.2.2.1 d.2.2.2.2.2.2.2.2.2.2.2.2.2.2.2.2.1 d.2.2.2.2.2.2.2.2.2.2.2.2.2.2.2.2.2.1 d.2.2.2.2.2.2.2.2.2.2.2.2.2.2.2.2.2.2.1 d.2.2.2.2.2.2.2.2.2.2.2.2.2.2.2.2.2.2.2.1 d.2.2.2.2.2.2.2.2.2.2.2.2.2.2.2.2.2.2.2.2.1 d.2.2.2.2.2.2.2.2.2.2.2.2.2.2.2.2.2.2.2.2.2.1 d.2.2.2.2.2.2.2.2.2.2.2.2.2.2.2.2.2.2.2.2.2.2.1 d.2.2.2.2.2.2.2.2.2.2.2.2.2.2.2.2.2.2.2.2.2.2.2.1 d.2.2.2.2.2.2.2.2.2.2.2.2.2.2.2.2.2.2.2.2.2.2.2.2.1 d.2.2.2.2.2.2.2.2.2.2.2.2.2.2.2.2.2.2.2.2.2.2.2.2.2.1 d.2.2.2.2.2.2.2.2.2.2.2.2.2.2.2.2.2.2.2.2.2.2.2.2.2.2.1 d.2.2.2.2.2.2.2.2.2.2.2.2.2.2.2.2.2.2.2.2.2.2.2.2.2.2.2.1 d.2.2.2.2.2.2.2.2.2.2.2.2.2.2.2.2.2.2.2.2.2.2.2.2.2.2.2.2.1 d.2.2.2.2.2.2.2.2.2.2.2.2.2.2.2.2.2.2.2.2.2.2.2.2.2.2.2.2.2.1 d.2.2.2.2.2.2.2.2.2.2.2.2.2.2.2.2.2.2.2.2.2.2.2.2.2.2.2.2.2.2.1 d.2.2.2.2.2.2.2.2.2.2.2.2.2.2.2.2.2.2.2.2.2.2.2.2.2.2.2.2.2.2.2.1 d.2.2.2.2.2.2.2.2.2.2.2.2.2.2.2.2.2.2.2.2.2.2.2.2.2.2.2.2.2.2.2.2.1 d.2.2.2.2.2.2.2.2.2.2.2.2.2.2.2.2.2.2.2.2.2.2.2.2.2.2.2.2.2.2.2.2.2.1 d.2.2.2.2.2.2.2.2.2.2.2.2.2.2.2.2.2.2.2.2.2.2.2.2.2.2.2.2.2.2.2.2.2.2.1 d.2.2.2.2.2.2.2.2.2.2.2.2.2.2.2.2.2.2.2.2.2.2.2.2.2.2.2.2.2.2.2.2.2.2.2.1 d.2.2.2.2.2.2.2.2.2.2.2.2.2.2.2.2.2.2.2.2.2.2.2.2.2.2.2.2.2.2.2.2.2.2.2.2.1 d.2.2.2.2.2.2.2.2.2.2.2.2.2.2.2.2.2.2.2.2.2.2.2.2.2.2.2.2.2.2.2.2.2.2.2.2.2.1) (fun d => D5 d.1 d.2.1 d.2.2.1 d.2.2.2.1 d.2.2.2.2.1 d.2.2.2.2.2.1 d.2.2.2.2.2.2.1 d.2.2.2.2.2.2.2.1 d.2.2.2.2.2.2.2.2.1 d.2.2.2.2.2.2.2.2.2.1 d.2.2.2.2.2.2.2.2.2.2.1 d.2.2.2.2.2.2.2.2.2.2.2.1 d.2.2.2.2.2.2.2.2.2.2.2.2.1 d.2.2.2.2.2.2.2.2.2.2.2.2.2.1 d.2.2.2.2.2.2.2.2.2.2.2.2.2.2.1 d.2.2.2.2.2.2.2.2.2.2.2.2.2.2.2.1 d.2.2.2.2.2.2.2.2.2.2.2.2.2.2.2.2.1 d.2.2.2.2.2.2.2.2.2.2.2.2.2.2.2.2.2.1 d.2.2.2.2.2.2.2.2.2.2.2.2.2.2.2.2.2.2.1 d.2.2.2.2.2.2.2.2.2.2.2.2.2.2.2.2.2.2.2.1 d.2.2.2.2.2.2.2.2.2.2.2.2.2.2.2.2.2.2.2.2.1 d.2.2.2.2.2.2.2.2.2.2.2.2.2.2.2.2.2.2.2.2.2.1 d.2.2.2.2.2.2.2.2.2.2.2.2.2.2.2.2.2.2.2.2.2.2.1 d.2.2.2.2.2.2.2.2.2.2.2.2.2.2.2.2.2.2.2.2.2.2.2.1 d.2.2.2.2.2.2.2.2.2.2.2.2.2.2.2.2.2.2.2.2.2.2.2.2.1 d.2.2.2.2.2.2.2.2.2.2.2.2.2.2.2.2.2.2.2.2.2.2.2.2.2.1 d.2.2.2.2.2.2.2.2.2.2.2.2.2.2.2.2.2.2.2.2.2.2.2.2.2.2.1 d.2.2.2.2.2.2.2.2.2.2.2.2.2.2.2.2.2.2.2.2.2.2.2.2.2.2.2.1 d.2.2.2.2.2.2.2.2.2.2.2.2.2.2.2.2.2.2.2.2.2.2.2.2.2.2.2.2.1 d.2.2.2.2.2.2.2.2.2.2.2.2.2.2.2.2.2.2.2.2.2.2.2.2.2.2.2.2.2.1 d.2.2.2.2.2.2.2.2.2.2.2.2.2.2.2.2.2.2.2.2.2.2.2.2.2.2.2.2.2.2.1 d.2.2.2.2.2.2.2.2.2.2.2.2.2.2.2.2.2.2.2.2.2.2.2.2.2.2.2.2.2.2.2.1 d.2.2.2.2.2.2.2.2.2.2.2.2.2.2.2.2.2.2.2.2.2.2.2.2.2.2.2.2.2.2.2.2.1 d.2.2.2.2.2.2.2.2.2.2.2.2.2.2.2.2.2.2.2.2.2.2.2.2.2.2.2.2.2.2.2.2.2.1 d.2.2.2.2.2.2.2.2.2.2.2.2.2.2.2.2.2.2.2.2.2.2.2.2.2.2.2.2.2.2.2.2.2.2.1 d.2.2.2.2.2.2.2.2.2.2.2.2.2.2.2.2.2.2.2.2.2.2.2.2.2.2.2.2.2.2.2.2.2.2.2.1 d.2.2.2.2.2.2.2.2.2.2.2.2.2.2.2.2.2.2.2.2.2.2.2.2.2.2.2.2.2.2.2.2.2.2.2.2.1 d.2.2.2.2.2.2.2.2.2.2.2.2.2.2.2.2.2.2.2.2.2.2.2.2.2.2.2.2.2.2.2.2.2.2.2.2.2.1) N2 S5 trivial (fun f NX d => by unfold Fk; simp only [Am, Az, Ai, Option.bind_assoc, Option.bind_none, Option.bind_some]) (fun _ _ _ => by kernel_rfl)
theorem Adx : Bs Tryz.prog 20 sd_impl_Commit :=
 Av (pat := pa_impl_Commit) [co_impl_Commit_16] Ur S5 ⟨Xy, trivial⟩ Tryz.func20 (de := fun x => M2 x.1 x.2.1) (fun x r h => (Adw x.1 x.2.1).trans h) fun _ => by kernel_rfl
def Kx (a b : Pr2) : Option Bool := eqM Af a b
def Ady : Sig := ⟨[.rd Af, .rd Af], [some 2, some 2], [.rd .bool], [none]⟩
noncomputable def sd_laws_eqPair : SD := ⟨Ady, fun x => (Kx x.1 x.2.1).bind fun r => some ((r, ()), (()))⟩
noncomputable def M3 (a0 : Pr2) (a1 : Pr2) : Option ((((Bool) × Unit) × (Unit))) :=
 bif !ByteArray.toList a0.1 == ByteArray.toList a1.1 then some ((false, ()), ()) else bif !ByteArray.toList a0.2.1 == ByteArray.toList a1.2.1 then some ((false, ()), ()) else some ((true, ()), ())
theorem Adz (a0 : Pr2) (a1 : Pr2) r (h : Kx a0 a1 = some r) : M3 a0 a1 = some ((r, ()), (())) := by
 obtain ⟨hc, hd, rfl⟩ := Hy (t := Af) h
 obtain ⟨hc0, hc1, _⟩ : Al .str a0.1 = true ∧ Al .str a0.2.1 = true ∧ True := by
  have s := hc
  obtain ⟨h0, s⟩ := Ab s
  obtain ⟨h1, s⟩ := Ab s
  exact ⟨h0, h1, trivial⟩
 obtain ⟨hd0, hd1, _⟩ : Al .str a1.1 = true ∧ Al .str a1.2.1 = true ∧ True := by
  have s := hd
  obtain ⟨h0, s⟩ := Ab s
  obtain ⟨h1, s⟩ := Ab s
  exact ⟨h0, h1, trivial⟩
 unfold M3
 have e0 : (!(ByteArray.toList a0.1 == ByteArray.toList a1.1)) = !Zc a0.1 a1.1 := rfl
 have e1 : (!(ByteArray.toList a0.2.1 == ByteArray.toList a1.2.1)) = !Zc a0.2.1 a1.2.1 := rfl
 simp only [e0, e1, Option.bind_some]
 show _ = some (((Zc a0.1 a1.1 && (Zc a0.2.1 a1.2.1 && true)), ()), ())
 generalize Zc a0.1 a1.1 = p0
 generalize Zc a0.2.1 a1.2.1 = p1
 cases p0 <;> cases p1 <;> rfl
theorem Ad0 : Bs Tryz.prog 193 sd_laws_eqPair :=
 Av (pat := Ck) [] F5 (Ax (l := []) trivial) trivial Tryz.func193 (de := fun x => M3 x.1 x.2.1) (fun x r h => Ay (Adz x.1 x.2.1) h) fun _ => by kernel_rfl
def Jn (a b : List Pr2) : Option Bool := eqM (.sl Af) a b
def y6 : Sig := ⟨[.rd (.sl Af), .rd (.sl Af)], [none, none], [.rd .bool], [none]⟩
noncomputable def sd_laws_eqPairS : SD := ⟨y6, fun x => (Jn x.1 x.2.1).bind fun r => some ((r, ()), (()))⟩
noncomputable def ta_laws_eqPairS : Tb := tb [(193, sd_laws_eqPair)]
def pa_laws_eqPairS : Nat → Pat × (Nat → Pat) := Gw [(5, ⟨[.sl 0 0 Af, .sl 1 0 Af], [(0, .lf (.d (.sl Af))), (1, .lf (.d (.sl Af))), (5, .lf (.d tI))], []⟩, [(2, p0), (1, ⟨[], [(4, .lf (.d .bool))], []⟩)])]
noncomputable def co_laws_eqPairS_5 : Code := (An (Bn Tryz.f128)).getD 0 .skip
def C8 (v0 : List Pr2) (v1 : List Pr2) (v5 : Int) : Nat := ((v0.length : Int) - v5).toNat + 1
noncomputable def Fl {R : Type}  (NX : ((List Pr2) × (List Pr2) × (Int) × Unit) → Option R) (X2 : (Unit) → Option R) (X1 : ((Bool) × Unit) → Option R) (v0 : List Pr2) (v1 : List Pr2) (v5 : Int) : Option R :=
 bif decide (v5 < nI v0.length) then bif decide (0 ≤ v5) then bif decide (v5 < nI v0.length) then bif decide (0 ≤ v5) then bif decide (v5 < nI v1.length) then ((Kx (v0.getD v5.toNat (ByteArray.mk #[], ByteArray.mk #[], ())) (v1.getD v5.toNat (ByteArray.mk #[], ByteArray.mk #[], ()))).bind fun val => some ((val, ()), ())).bind fun val => bif !val.1.1 then X1 (false, ()) else NX (v0, v1, IntKind.i64.wrap (v5 + 1), ()) else none else none else none else none else X2 PUnit.unit
noncomputable def Bm : Nat → (List Pr2) → (List Pr2) → (Int) →  Option ((Unit) ⊕ ((Bool) × Unit))
 | 0, _, _, _ => none
 | m + 1, v0, v1, v5 => Fl  (fun d => Bm m d.1 d.2.1 d.2.2.1) (fun d => some (.inl (d))) (fun d => some (.inr (d))) v0 v1 v5
noncomputable def Li (a0 : List Pr2) (a1 : List Pr2) : Option ((((Bool) × Unit) × (Unit))) :=
 bif nI a0.length != nI a1.length then some ((false, ()), ()) else ((fun d => Bm (C8 d.1 d.2.1 d.2.2.1) d.1 d.2.1 d.2.2.1) (a0, a1, 0, ())).bind fun val => Gz (fun val => some ((true, ()), ())) (fun val => some (val, ())) val
theorem y7 (a0 : List Pr2) (a1 : List Pr2) r (h : Jn a0 a1 = some r) : Li a0 a1 = some ((r, ()), (())) := by
 obtain ⟨hc, hd, rfl⟩ := Hy (t := .sl Af) h
 obtain ⟨hlx0, hx⟩ := K1 hc
 obtain ⟨hly0, hy⟩ := K1 hd
 have hlx : a0.length < 1152921504606846976 := hlx0
 have hly : a1.length < 1152921504606846976 := hly0
 clear hlx0 hly0 hc hd h
 ·unfold Li
  by_cases hl : a1.length = a0.length
  ·have c1 : (nI a0.length != nI a1.length) = false := by simp [nI, hl]
   have hL := Aa0 (xs := a0) (ys := a1) ((ByteArray.mk #[]), (ByteArray.mk #[]), ()) (fun x y : Pr2 => J2 Af x y) (g := fun m i => Bm m a0 a1 i) (ok := .inl ()) (bad := .inr (false, ())) hl (fun m i hi => by
    show Bm (m + 1) a0 a1 i = _
    simp only [Bm, Fl]
    rw [Pw hi, Gk, Pw (show i < a1.length by omega), wI (by omega)]
    simp only [cond_true, Int.toNat_natCast]
    have f1 : Al Af (List.getD (α := Pr2) a0 i ((ByteArray.mk #[]), (ByteArray.mk #[]), ())) = true := hx _ (K0 ((ByteArray.mk #[]), (ByteArray.mk #[]), ()) hi)
    have f2 : Al Af (List.getD (α := Pr2) a1 i ((ByteArray.mk #[]), (ByteArray.mk #[]), ())) = true := hy _ (K0 ((ByteArray.mk #[]), (ByteArray.mk #[]), ()) (by omega))
    have hE : Kx (List.getD (α := Pr2) a0 i ((ByteArray.mk #[]), (ByteArray.mk #[]), ())) (List.getD (α := Pr2) a1 i ((ByteArray.mk #[]), (ByteArray.mk #[]), ())) = some (J2 Af (List.getD (α := Pr2) a0 i ((ByteArray.mk #[]), (ByteArray.mk #[]), ())) (List.getD (α := Pr2) a1 i ((ByteArray.mk #[]), (ByteArray.mk #[]), ()))) := by
     exact Sc (t := Af) (x := (List.getD (α := Pr2) a0 i ((ByteArray.mk #[]), (ByteArray.mk #[]), ()))) (y := (List.getD (α := Pr2) a1 i ((ByteArray.mk #[]), (ByteArray.mk #[]), ()))) f1 f2
    rw [hE]
    cases q : J2 Af (List.getD (α := Pr2) a0 i ((ByteArray.mk #[]), (ByteArray.mk #[]), ())) (List.getD (α := Pr2) a1 i ((ByteArray.mk #[]), (ByteArray.mk #[]), ())) <;> simp only [Option.bind_some, q] <;> rfl) (fun m => by
    show Bm (m + 1) a0 a1 a0.length = _
    simp only [Bm, Fl]
    rw [I6]
    rfl) (C8 a0 a1 0) 0 (by omega) (by simp [C8])
   rw [c1]
   have hL' : Bm (C8 a0 a1 0) a0 a1 0 = _ := hL
   show (Bm (C8 a0 a1 0) a0 a1 0).bind _ = some ((j5 (α := Pr2) (fun x y : Pr2 => J2 Af x y) a0 a1, ()), ())
   rw [hL', List.drop_zero, List.drop_zero]
   cases j5 (α := Pr2) (fun x y : Pr2 => J2 Af x y) a0 a1 <;> rfl
  ·have c1 : (nI a0.length != nI a1.length) = true := by simp [nI]; omega
   rw [c1]
   show _ = some ((j5 (α := Pr2) (fun x y : Pr2 => J2 Af x y) a0 a1, ()), ())
   rw [Aaz (fun q => hl q.symm)]
   rfl
noncomputable def N3 {R : Type} (k : Kt R) := (Gz (Ln (pa_laws_eqPairS 5) (.exit 0) 2 k) (Ln (pa_laws_eqPairS 5) .ret 1 k))
noncomputable def S6 {R : Type} : Lt R pa_laws_eqPairS := (Gb (pat := pa_laws_eqPairS) 5 (fun d k => (Bm (C8 d.1 d.2.1 d.2.2.1) d.1 d.2.1 d.2.2.1).bind (N3 k)) F5)
theorem Re : At Tryz.prog ta_laws_eqPairS := Ax ⟨Ad0, trivial⟩
theorem Xz {R : Type} : Ba Tryz.prog R 27 0 pa_laws_eqPairS S6 co_laws_eqPairS_5 :=
 Dd (cfg := ⟨ta_laws_eqPairS, 0, 27, pa_laws_eqPairS⟩) 5 [] (fun NX X d => Fl  NX (fun e => X (.inl (e))) (fun e => X (.inr (e))) d.1 d.2.1 d.2.2.1) (fun m d => Bm m d.1 d.2.1 d.2.2.1) (fun d => C8 d.1 d.2.1 d.2.2.1) N3 Re trivial (fun f NX d => by unfold Fl; simp only [Am, Az, Ai, Option.bind_assoc, Option.bind_none, Option.bind_some]) (fun _ _ _ => by kernel_rfl)
theorem y8 : Bs Tryz.prog 128 sd_laws_eqPairS :=
 Av (pat := pa_laws_eqPairS) [co_laws_eqPairS_5] S6 Re ⟨Xz, trivial⟩ Tryz.func128 (de := fun x => Li x.1 x.2.1) (fun x r h => Ay (y7 x.1 x.2.1) h) fun _ => by kernel_rfl
def Hf (a b : Stt) : Option Bool := eqM Gi a b
def y9 : Sig := ⟨[.rd Gi, .rd Gi], [some 1, some 1], [.rd .bool], [none]⟩
noncomputable def sd_laws_eqState : SD := ⟨y9, fun x => (Hf x.1 x.2.1).bind fun r => some ((r, ()), (()))⟩
noncomputable def Lj (a0 : Stt) (a1 : Stt) : Option ((((Bool) × Unit) × (Unit))) :=
 ((Jn a0.1 a1.1).bind fun val => some ((val, ()), ())).bind fun val => bif !val.1.1 then some ((false, ()), ()) else some ((true, ()), ())
theorem z1 (a0 : Stt) (a1 : Stt) r (h : Hf a0 a1 = some r) : Lj a0 a1 = some ((r, ()), (())) := by
 obtain ⟨hc, hd, rfl⟩ := Hy (t := Gi) h
 obtain ⟨hc0, _⟩ : Al (.sl Af) a0.1 = true ∧ True := by
  have s := hc
  obtain ⟨h0, s⟩ := Ab s
  exact ⟨h0, trivial⟩
 obtain ⟨hd0, _⟩ : Al (.sl Af) a1.1 = true ∧ True := by
  have s := hd
  obtain ⟨h0, s⟩ := Ab s
  exact ⟨h0, trivial⟩
 unfold Lj
 have e0 : Jn a0.1 a1.1 = some (J2 (.sl Af) a0.1 a1.1) := Sc (t := (.sl Af)) hc0 hd0
 simp only [e0, Option.bind_some]
 show _ = some (((J2 (.sl Af) a0.1 a1.1 && true), ()), ())
 generalize J2 (.sl Af) a0.1 a1.1 = p0
 cases p0 <;> rfl
theorem z2 : Bs Tryz.prog 41 sd_laws_eqState :=
 Av (pat := Ck) [] F5 (Ax (l := [(128, sd_laws_eqPairS)]) ⟨y8, trivial⟩) trivial Tryz.func41 (de := fun x => Lj x.1 x.2.1) (fun x r h => Ay (z1 x.1 x.2.1) h) fun _ => by kernel_rfl
def Us (a b : Rt) : Option Bool := eqM yRt a b
def Ad1 : Sig := ⟨[.rd yRt, .rd yRt], [some 4, some 4], [.rd .bool], [none]⟩
noncomputable def sd_laws_eqRoot : SD := ⟨Ad1, fun x => (Us x.1 x.2.1).bind fun r => some ((r, ()), (()))⟩
noncomputable def M4 (a0 : Rt) (a1 : Rt) : Option ((((Bool) × Unit) × (Unit))) :=
 bif a0.1 != a1.1 then some ((false, ()), ()) else bif a0.2.1 != a1.2.1 then some ((false, ()), ()) else bif a0.2.2.1 != a1.2.2.1 then some ((false, ()), ()) else bif a0.2.2.2.1 != a1.2.2.2.1 then some ((false, ()), ()) else some ((true, ()), ())
theorem Ad2 (a0 : Rt) (a1 : Rt) r (h : Us a0 a1 = some r) : M4 a0 a1 = some ((r, ()), (())) := by
 obtain ⟨hc, hd, rfl⟩ := Hy (t := yRt) h
 obtain ⟨hc0, hc1, hc2, hc3, _⟩ : Al tI a0.1 = true ∧ Al tI a0.2.1 = true ∧ Al tI a0.2.2.1 = true ∧ Al tI a0.2.2.2.1 = true ∧ True := by
  have s := hc
  obtain ⟨h0, s⟩ := Ab s
  obtain ⟨h1, s⟩ := Ab s
  obtain ⟨h2, s⟩ := Ab s
  obtain ⟨h3, s⟩ := Ab s
  exact ⟨h0, h1, h2, h3, trivial⟩
 obtain ⟨hd0, hd1, hd2, hd3, _⟩ : Al tI a1.1 = true ∧ Al tI a1.2.1 = true ∧ Al tI a1.2.2.1 = true ∧ Al tI a1.2.2.2.1 = true ∧ True := by
  have s := hd
  obtain ⟨h0, s⟩ := Ab s
  obtain ⟨h1, s⟩ := Ab s
  obtain ⟨h2, s⟩ := Ab s
  obtain ⟨h3, s⟩ := Ab s
  exact ⟨h0, h1, h2, h3, trivial⟩
 unfold M4
 have e0 : (a0.1 != a1.1) = !Pu a0.1 a1.1 := m9 _ _
 have e1 : (a0.2.1 != a1.2.1) = !Pu a0.2.1 a1.2.1 := m9 _ _
 have e2 : (a0.2.2.1 != a1.2.2.1) = !Pu a0.2.2.1 a1.2.2.1 := m9 _ _
 have e3 : (a0.2.2.2.1 != a1.2.2.2.1) = !Pu a0.2.2.2.1 a1.2.2.2.1 := m9 _ _
 simp only [e0, e1, e2, e3, Option.bind_some]
 show _ = some (((Pu a0.1 a1.1 && (Pu a0.2.1 a1.2.1 && (Pu a0.2.2.1 a1.2.2.1 && (Pu a0.2.2.2.1 a1.2.2.2.1 && true)))), ()), ())
 generalize Pu a0.1 a1.1 = p0
 generalize Pu a0.2.1 a1.2.1 = p1
 generalize Pu a0.2.2.1 a1.2.2.1 = p2
 generalize Pu a0.2.2.2.1 a1.2.2.2.1 = p3
 cases p0 <;> cases p1 <;> cases p2 <;> cases p3 <;> rfl
theorem Ad3 : Bs Tryz.prog 97 sd_laws_eqRoot :=
 Av (pat := Ck) [] F5 (Ax (l := []) trivial) trivial Tryz.func97 (de := fun x => M4 x.1 x.2.1) (fun x r h => Ay (Ad2 x.1 x.2.1) h) fun _ => by kernel_rfl
def E6 (a b : Sto) : Option Bool := eqM Jz a b
def z6 : Sig := ⟨[.rd Jz, .rd Jz], [some 10, some 10], [.rd .bool], [none]⟩
noncomputable def sd_laws_eqStore : SD := ⟨z6, fun x => (E6 x.1 x.2.1).bind fun r => some ((r, ()), (()))⟩
noncomputable def Lk (a0 : Sto) (a1 : Sto) : Option ((((Bool) × Unit) × (Unit))) :=
 bif a0.1 != a1.1 then some ((false, ()), ()) else bif a0.2.1 != a1.2.1 then some ((false, ()), ()) else bif a0.2.2.1 != a1.2.2.1 then some ((false, ()), ()) else bif !(decide (a0.2.2.2.1.1 = a1.2.2.2.1.1) && (decide (a0.2.2.2.1.2.1 = a1.2.2.2.1.2.1) && (decide (a0.2.2.2.1.2.2.1 = a1.2.2.2.1.2.2.1) && (decide (a0.2.2.2.1.2.2.2.1 = a1.2.2.2.1.2.2.2.1) && true)))) then some ((false, ()), ()) else bif a0.2.2.2.2.1 != a1.2.2.2.2.1 then some ((false, ()), ()) else bif a0.2.2.2.2.2.1 != a1.2.2.2.2.2.1 then some ((false, ()), ()) else ((Hf a0.2.2.2.2.2.2.1 a1.2.2.2.2.2.2.1).bind fun val => some ((val, ()), ())).bind fun val => bif !val.1.1 then some ((false, ()), ()) else some ((true, ()), ())
theorem z7 (a0 : Sto) (a1 : Sto) r (h : E6 a0 a1 = some r) : Lk a0 a1 = some ((r, ()), (())) := by
 obtain ⟨hc, hd, rfl⟩ := Hy (t := Jz) h
 obtain ⟨hc0, hc1, hc2, hc3, hc4, hc5, hc6, _⟩ : Al tI a0.1 = true ∧ Al tI a0.2.1 = true ∧ Al tI a0.2.2.1 = true ∧ Al yRt a0.2.2.2.1 = true ∧ Al tI a0.2.2.2.2.1 = true ∧ Al tI a0.2.2.2.2.2.1 = true ∧ Al Gi a0.2.2.2.2.2.2.1 = true ∧ True := by
  have s := hc
  obtain ⟨h0, s⟩ := Ab s
  obtain ⟨h1, s⟩ := Ab s
  obtain ⟨h2, s⟩ := Ab s
  obtain ⟨h3, s⟩ := Ab s
  obtain ⟨h4, s⟩ := Ab s
  obtain ⟨h5, s⟩ := Ab s
  obtain ⟨h6, s⟩ := Ab s
  exact ⟨h0, h1, h2, h3, h4, h5, h6, trivial⟩
 obtain ⟨hd0, hd1, hd2, hd3, hd4, hd5, hd6, _⟩ : Al tI a1.1 = true ∧ Al tI a1.2.1 = true ∧ Al tI a1.2.2.1 = true ∧ Al yRt a1.2.2.2.1 = true ∧ Al tI a1.2.2.2.2.1 = true ∧ Al tI a1.2.2.2.2.2.1 = true ∧ Al Gi a1.2.2.2.2.2.2.1 = true ∧ True := by
  have s := hd
  obtain ⟨h0, s⟩ := Ab s
  obtain ⟨h1, s⟩ := Ab s
  obtain ⟨h2, s⟩ := Ab s
  obtain ⟨h3, s⟩ := Ab s
  obtain ⟨h4, s⟩ := Ab s
  obtain ⟨h5, s⟩ := Ab s
  obtain ⟨h6, s⟩ := Ab s
  exact ⟨h0, h1, h2, h3, h4, h5, h6, trivial⟩
 unfold Lk
 have e0 : (a0.1 != a1.1) = !Pu a0.1 a1.1 := m9 _ _
 have e1 : (a0.2.1 != a1.2.1) = !Pu a0.2.1 a1.2.1 := m9 _ _
 have e2 : (a0.2.2.1 != a1.2.2.1) = !Pu a0.2.2.1 a1.2.2.1 := m9 _ _
 have e4 : (a0.2.2.2.2.1 != a1.2.2.2.2.1) = !Pu a0.2.2.2.2.1 a1.2.2.2.2.1 := m9 _ _
 have e5 : (a0.2.2.2.2.2.1 != a1.2.2.2.2.2.1) = !Pu a0.2.2.2.2.2.1 a1.2.2.2.2.2.1 := m9 _ _
 have e6 : Hf a0.2.2.2.2.2.2.1 a1.2.2.2.2.2.2.1 = some (J2 Gi a0.2.2.2.2.2.2.1 a1.2.2.2.2.2.2.1) := Sc (t := Gi) hc6 hd6
 have e6 : Hf a0.2.2.2.2.2.2.1 a1.2.2.2.2.2.2.1 = some (J2 Gi a0.2.2.2.2.2.2.1 a1.2.2.2.2.2.2.1) := e6
 simp only [e0, e1, e2, e4, e5, e6, Option.bind_some]
 show _ = some (((Pu a0.1 a1.1 && (Pu a0.2.1 a1.2.1 && (Pu a0.2.2.1 a1.2.2.1 && ((decide (a0.2.2.2.1.1 = a1.2.2.2.1.1) && (decide (a0.2.2.2.1.2.1 = a1.2.2.2.1.2.1) && (decide (a0.2.2.2.1.2.2.1 = a1.2.2.2.1.2.2.1) && (decide (a0.2.2.2.1.2.2.2.1 = a1.2.2.2.1.2.2.2.1) && true)))) && (Pu a0.2.2.2.2.1 a1.2.2.2.2.1 && (Pu a0.2.2.2.2.2.1 a1.2.2.2.2.2.1 && (J2 Gi a0.2.2.2.2.2.2.1 a1.2.2.2.2.2.2.1 && true))))))), ()), ())
 generalize Pu a0.1 a1.1 = p0
 generalize Pu a0.2.1 a1.2.1 = p1
 generalize Pu a0.2.2.1 a1.2.2.1 = p2
 generalize (decide (a0.2.2.2.1.1 = a1.2.2.2.1.1) && (decide (a0.2.2.2.1.2.1 = a1.2.2.2.1.2.1) && (decide (a0.2.2.2.1.2.2.1 = a1.2.2.2.1.2.2.1) && (decide (a0.2.2.2.1.2.2.2.1 = a1.2.2.2.1.2.2.2.1) && true)))) = p3
 generalize Pu a0.2.2.2.2.1 a1.2.2.2.2.1 = p4
 generalize Pu a0.2.2.2.2.2.1 a1.2.2.2.2.2.1 = p5
 generalize J2 Gi a0.2.2.2.2.2.2.1 a1.2.2.2.2.2.2.1 = p6
 cases p0 <;> cases p1 <;> cases p2 <;> cases p3 <;> cases p4 <;> cases p5 <;> cases p6 <;> rfl
theorem Rf : Bs Tryz.prog 22 sd_laws_eqStore :=
 Av (pat := Ck) [] F5 (Ax (l := [(41, sd_laws_eqState), (97, sd_laws_eqRoot)]) ⟨z2, Ad3, trivial⟩) trivial Tryz.func22 (de := fun x => Lk x.1 x.2.1) (fun x r h => Ay (z7 x.1 x.2.1) h) fun _ => by kernel_rfl
def N4 (a b : Opn) : Option Bool := eqM B0 a b
def Aie : Sig := ⟨[.rd B0, .rd B0], [some 3, some 3], [.rd .bool], [none]⟩
noncomputable def sd_laws_eqOp : SD := ⟨Aie, fun x => (N4 x.1 x.2.1).bind fun r => some ((r, ()), (()))⟩
noncomputable def Qu (a0 : Opn) (a1 : Opn) : Option ((((Bool) × Unit) × (Unit))) :=
 bif !a0.1 == a1.1 then some ((false, ()), ()) else bif a0.2.1 != a1.2.1 then some ((false, ()), ()) else bif !ByteArray.toList a0.2.2.1 == ByteArray.toList a1.2.2.1 then some ((false, ()), ()) else some ((true, ()), ())
theorem Aif (a0 : Opn) (a1 : Opn) r (h : N4 a0 a1 = some r) : Qu a0 a1 = some ((r, ()), (())) := by
 obtain ⟨hc, hd, rfl⟩ := Hy (t := B0) h
 obtain ⟨hc0, hc1, hc2, _⟩ : Al .bool a0.1 = true ∧ Al tI a0.2.1 = true ∧ Al .str a0.2.2.1 = true ∧ True := by
  have s := hc
  obtain ⟨h0, s⟩ := Ab s
  obtain ⟨h1, s⟩ := Ab s
  obtain ⟨h2, s⟩ := Ab s
  exact ⟨h0, h1, h2, trivial⟩
 obtain ⟨hd0, hd1, hd2, _⟩ : Al .bool a1.1 = true ∧ Al tI a1.2.1 = true ∧ Al .str a1.2.2.1 = true ∧ True := by
  have s := hd
  obtain ⟨h0, s⟩ := Ab s
  obtain ⟨h1, s⟩ := Ab s
  obtain ⟨h2, s⟩ := Ab s
  exact ⟨h0, h1, h2, trivial⟩
 unfold Qu
 have e0 : (!(a0.1 == a1.1)) = !eqO a0.1 a1.1 := rfl
 have e1 : (a0.2.1 != a1.2.1) = !Pu a0.2.1 a1.2.1 := m9 _ _
 have e2 : (!(ByteArray.toList a0.2.2.1 == ByteArray.toList a1.2.2.1)) = !Zc a0.2.2.1 a1.2.2.1 := rfl
 simp only [e0, e1, e2, Option.bind_some]
 show _ = some (((eqO a0.1 a1.1 && (Pu a0.2.1 a1.2.1 && (Zc a0.2.2.1 a1.2.2.1 && true))), ()), ())
 generalize eqO a0.1 a1.1 = p0
 generalize Pu a0.2.1 a1.2.1 = p1
 generalize Zc a0.2.2.1 a1.2.2.1 = p2
 cases p0 <;> cases p1 <;> cases p2 <;> rfl
theorem Aig : Bs Tryz.prog 177 sd_laws_eqOp :=
 Av (pat := Ck) [] F5 (Ax (l := []) trivial) trivial Tryz.func177 (de := fun x => Qu x.1 x.2.1) (fun x r h => Ay (Aif x.1 x.2.1) h) fun _ => by kernel_rfl
def L1 (a b : List Opn) : Option Bool := eqM (.sl B0) a b
def Ae8 : Sig := ⟨[.rd (.sl B0), .rd (.sl B0)], [none, none], [.rd .bool], [none]⟩
noncomputable def sd_laws_eqOpS : SD := ⟨Ae8, fun x => (L1 x.1 x.2.1).bind fun r => some ((r, ()), (()))⟩
noncomputable def ta_laws_eqOpS : Tb := tb [(177, sd_laws_eqOp)]
def pa_laws_eqOpS : Nat → Pat × (Nat → Pat) := Gw [(5, ⟨[.sl 0 0 B0, .sl 1 0 B0], [(0, .lf (.d (.sl B0))), (1, .lf (.d (.sl B0))), (5, .lf (.d tI))], []⟩, [(2, p0), (1, ⟨[], [(4, .lf (.d .bool))], []⟩)])]
noncomputable def co_laws_eqOpS_5 : Code := (An (Bn Tryz.f96)).getD 0 .skip
def Ea (v0 : List Opn) (v1 : List Opn) (v5 : Int) : Nat := ((v0.length : Int) - v5).toNat + 1
noncomputable def Gr {R : Type}  (NX : ((List Opn) × (List Opn) × (Int) × Unit) → Option R) (X2 : (Unit) → Option R) (X1 : ((Bool) × Unit) → Option R) (v0 : List Opn) (v1 : List Opn) (v5 : Int) : Option R :=
 bif decide (v5 < nI v0.length) then bif decide (0 ≤ v5) then bif decide (v5 < nI v0.length) then bif decide (0 ≤ v5) then bif decide (v5 < nI v1.length) then ((N4 (v0.getD v5.toNat (false, 0, ByteArray.mk #[], ())) (v1.getD v5.toNat (false, 0, ByteArray.mk #[], ()))).bind fun val => some ((val, ()), ())).bind fun val => bif !val.1.1 then X1 (false, ()) else NX (v0, v1, IntKind.i64.wrap (v5 + 1), ()) else none else none else none else none else X2 PUnit.unit
noncomputable def By : Nat → (List Opn) → (List Opn) → (Int) →  Option ((Unit) ⊕ ((Bool) × Unit))
 | 0, _, _, _ => none
 | m + 1, v0, v1, v5 => Gr  (fun d => By m d.1 d.2.1 d.2.2.1) (fun d => some (.inl (d))) (fun d => some (.inr (d))) v0 v1 v5
noncomputable def Om (a0 : List Opn) (a1 : List Opn) : Option ((((Bool) × Unit) × (Unit))) :=
 bif nI a0.length != nI a1.length then some ((false, ()), ()) else ((fun d => By (Ea d.1 d.2.1 d.2.2.1) d.1 d.2.1 d.2.2.1) (a0, a1, 0, ())).bind fun val => Gz (fun val => some ((true, ()), ())) (fun val => some (val, ())) val
theorem Ae9 (a0 : List Opn) (a1 : List Opn) r (h : L1 a0 a1 = some r) : Om a0 a1 = some ((r, ()), (())) := by
 obtain ⟨hc, hd, rfl⟩ := Hy (t := .sl B0) h
 obtain ⟨hlx0, hx⟩ := K1 hc
 obtain ⟨hly0, hy⟩ := K1 hd
 have hlx : a0.length < 1152921504606846976 := hlx0
 have hly : a1.length < 1152921504606846976 := hly0
 clear hlx0 hly0 hc hd h
 ·unfold Om
  by_cases hl : a1.length = a0.length
  ·have c1 : (nI a0.length != nI a1.length) = false := by simp [nI, hl]
   have hL := Aa0 (xs := a0) (ys := a1) (false, 0, (ByteArray.mk #[]), ()) (fun x y : Opn => J2 B0 x y) (g := fun m i => By m a0 a1 i) (ok := .inl ()) (bad := .inr (false, ())) hl (fun m i hi => by
    show By (m + 1) a0 a1 i = _
    simp only [By, Gr]
    rw [Pw hi, Gk, Pw (show i < a1.length by omega), wI (by omega)]
    simp only [cond_true, Int.toNat_natCast]
    have f1 : Al B0 (List.getD (α := Opn) a0 i (false, 0, (ByteArray.mk #[]), ())) = true := hx _ (K0 (false, 0, (ByteArray.mk #[]), ()) hi)
    have f2 : Al B0 (List.getD (α := Opn) a1 i (false, 0, (ByteArray.mk #[]), ())) = true := hy _ (K0 (false, 0, (ByteArray.mk #[]), ()) (by omega))
    have hE : N4 (List.getD (α := Opn) a0 i (false, 0, (ByteArray.mk #[]), ())) (List.getD (α := Opn) a1 i (false, 0, (ByteArray.mk #[]), ())) = some (J2 B0 (List.getD (α := Opn) a0 i (false, 0, (ByteArray.mk #[]), ())) (List.getD (α := Opn) a1 i (false, 0, (ByteArray.mk #[]), ()))) := by
     exact Sc (t := B0) (x := (List.getD (α := Opn) a0 i (false, 0, (ByteArray.mk #[]), ()))) (y := (List.getD (α := Opn) a1 i (false, 0, (ByteArray.mk #[]), ()))) f1 f2
    rw [hE]
    cases q : J2 B0 (List.getD (α := Opn) a0 i (false, 0, (ByteArray.mk #[]), ())) (List.getD (α := Opn) a1 i (false, 0, (ByteArray.mk #[]), ())) <;> simp only [Option.bind_some, q] <;> rfl) (fun m => by
    show By (m + 1) a0 a1 a0.length = _
    simp only [By, Gr]
    rw [I6]
    rfl) (Ea a0 a1 0) 0 (by omega) (by simp [Ea])
   rw [c1]
   have hL' : By (Ea a0 a1 0) a0 a1 0 = _ := hL
   show (By (Ea a0 a1 0) a0 a1 0).bind _ = some ((j5 (α := Opn) (fun x y : Opn => J2 B0 x y) a0 a1, ()), ())
   rw [hL', List.drop_zero, List.drop_zero]
   cases j5 (α := Opn) (fun x y : Opn => J2 B0 x y) a0 a1 <;> rfl
  ·have c1 : (nI a0.length != nI a1.length) = true := by simp [nI]; omega
   rw [c1]
   show _ = some ((j5 (α := Opn) (fun x y : Opn => J2 B0 x y) a0 a1, ()), ())
   rw [Aaz (fun q => hl q.symm)]
   rfl
noncomputable def Rg {R : Type} (k : Kt R) := (Gz (Ln (pa_laws_eqOpS 5) (.exit 0) 2 k) (Ln (pa_laws_eqOpS 5) .ret 1 k))
noncomputable def X0 {R : Type} : Lt R pa_laws_eqOpS := (Gb (pat := pa_laws_eqOpS) 5 (fun d k => (By (Ea d.1 d.2.1 d.2.2.1) d.1 d.2.1 d.2.2.1).bind (Rg k)) F5)
theorem Ut : At Tryz.prog ta_laws_eqOpS := Ax ⟨Aig, trivial⟩
theorem z8 {R : Type} : Ba Tryz.prog R 27 0 pa_laws_eqOpS X0 co_laws_eqOpS_5 :=
 Dd (cfg := ⟨ta_laws_eqOpS, 0, 27, pa_laws_eqOpS⟩) 5 [] (fun NX X d => Gr  NX (fun e => X (.inl (e))) (fun e => X (.inr (e))) d.1 d.2.1 d.2.2.1) (fun m d => By m d.1 d.2.1 d.2.2.1) (fun d => Ea d.1 d.2.1 d.2.2.1) Rg Ut trivial (fun f NX d => by unfold Gr; simp only [Am, Az, Ai, Option.bind_assoc, Option.bind_none, Option.bind_some]) (fun _ _ _ => by kernel_rfl)
theorem Afa : Bs Tryz.prog 96 sd_laws_eqOpS :=
 Av (pat := pa_laws_eqOpS) [co_laws_eqOpS_5] X0 Ut ⟨z8, trivial⟩ Tryz.func96 (de := fun x => Om x.1 x.2.1) (fun x r h => Ay (Ae9 x.1 x.2.1) h) fun _ => by kernel_rfl
def Gv (a b : Don) : Option Bool := eqM Alr a b
def Ad4 : Sig := ⟨[.rd Alr, .rd Alr], [some 12, some 12], [.rd .bool], [none]⟩
noncomputable def sd_laws_eqDone : SD := ⟨Ad4, fun x => (Gv x.1 x.2.1).bind fun r => some ((r, ()), (()))⟩
noncomputable def M5 (a0 : Don) (a1 : Don) : Option ((((Bool) × Unit) × (Unit))) :=
 bif a0.1 != a1.1 then some ((false, ()), ()) else ((E6 a0.2.1 a1.2.1).bind fun val => some ((val, ()), ())).bind fun val => bif !val.1.1 then some ((false, ()), ()) else ((L1 a0.2.2.1 a1.2.2.1).bind fun val => some ((val, ()), ())).bind fun val => bif !val.1.1 then some ((false, ()), ()) else some ((true, ()), ())
theorem Ad5 (a0 : Don) (a1 : Don) r (h : Gv a0 a1 = some r) : M5 a0 a1 = some ((r, ()), (())) := by
 obtain ⟨hc, hd, rfl⟩ := Hy (t := Alr) h
 obtain ⟨hc0, hc1, hc2, _⟩ : Al tI a0.1 = true ∧ Al Jz a0.2.1 = true ∧ Al (.sl B0) a0.2.2.1 = true ∧ True := by
  have s := hc
  obtain ⟨h0, s⟩ := Ab s
  obtain ⟨h1, s⟩ := Ab s
  obtain ⟨h2, s⟩ := Ab s
  exact ⟨h0, h1, h2, trivial⟩
 obtain ⟨hd0, hd1, hd2, _⟩ : Al tI a1.1 = true ∧ Al Jz a1.2.1 = true ∧ Al (.sl B0) a1.2.2.1 = true ∧ True := by
  have s := hd
  obtain ⟨h0, s⟩ := Ab s
  obtain ⟨h1, s⟩ := Ab s
  obtain ⟨h2, s⟩ := Ab s
  exact ⟨h0, h1, h2, trivial⟩
 unfold M5
 have e0 : (a0.1 != a1.1) = !Pu a0.1 a1.1 := m9 _ _
 have e1 : E6 a0.2.1 a1.2.1 = some (J2 Jz a0.2.1 a1.2.1) := Sc (t := Jz) hc1 hd1
 have e1 : E6 a0.2.1 a1.2.1 = some (J2 Jz a0.2.1 a1.2.1) := e1
 have e2 : L1 a0.2.2.1 a1.2.2.1 = some (J2 (.sl B0) a0.2.2.1 a1.2.2.1) := Sc (t := (.sl B0)) hc2 hd2
 simp only [e0, e1, e2, Option.bind_some]
 show _ = some (((Pu a0.1 a1.1 && (J2 Jz a0.2.1 a1.2.1 && (J2 (.sl B0) a0.2.2.1 a1.2.2.1 && true))), ()), ())
 generalize Pu a0.1 a1.1 = p0
 generalize J2 Jz a0.2.1 a1.2.1 = p1
 generalize J2 (.sl B0) a0.2.2.1 a1.2.2.1 = p2
 cases p0 <;> cases p1 <;> cases p2 <;> rfl
theorem Ad6 : Bs Tryz.prog 21 sd_laws_eqDone :=
 Av (pat := Ck) [] F5 (Ax (l := [(22, sd_laws_eqStore), (96, sd_laws_eqOpS)]) ⟨Rf, Afa, trivial⟩) trivial Tryz.func21 (de := fun x => M5 x.1 x.2.1) (fun x r h => Ay (Ad5 x.1 x.2.1) h) fun _ => by kernel_rfl
def Ib (a b : Chg) : Option Bool := eqM A2 a b
def c7 : Sig := ⟨[.rd A2, .rd A2], [some 3, some 3], [.rd .bool], [none]⟩
noncomputable def sd_laws_eqChange : SD := ⟨c7, fun x => (Ib x.1 x.2.1).bind fun r => some ((r, ()), (()))⟩
noncomputable def Kl (a0 : Chg) (a1 : Chg) : Option ((((Bool) × Unit) × (Unit))) :=
 bif !ByteArray.toList a0.1 == ByteArray.toList a1.1 then some ((false, ()), ()) else bif !ByteArray.toList a0.2.1 == ByteArray.toList a1.2.1 then some ((false, ()), ()) else bif !a0.2.2.1 == a1.2.2.1 then some ((false, ()), ()) else some ((true, ()), ())
theorem c8 (a0 : Chg) (a1 : Chg) r (h : Ib a0 a1 = some r) : Kl a0 a1 = some ((r, ()), (())) := by
 obtain ⟨hc, hd, rfl⟩ := Hy (t := A2) h
 obtain ⟨hc0, hc1, hc2, _⟩ : Al .str a0.1 = true ∧ Al .str a0.2.1 = true ∧ Al .bool a0.2.2.1 = true ∧ True := by
  have s := hc
  obtain ⟨h0, s⟩ := Ab s
  obtain ⟨h1, s⟩ := Ab s
  obtain ⟨h2, s⟩ := Ab s
  exact ⟨h0, h1, h2, trivial⟩
 obtain ⟨hd0, hd1, hd2, _⟩ : Al .str a1.1 = true ∧ Al .str a1.2.1 = true ∧ Al .bool a1.2.2.1 = true ∧ True := by
  have s := hd
  obtain ⟨h0, s⟩ := Ab s
  obtain ⟨h1, s⟩ := Ab s
  obtain ⟨h2, s⟩ := Ab s
  exact ⟨h0, h1, h2, trivial⟩
 unfold Kl
 have e0 : (!(ByteArray.toList a0.1 == ByteArray.toList a1.1)) = !Zc a0.1 a1.1 := rfl
 have e1 : (!(ByteArray.toList a0.2.1 == ByteArray.toList a1.2.1)) = !Zc a0.2.1 a1.2.1 := rfl
 have e2 : (!(a0.2.2.1 == a1.2.2.1)) = !eqO a0.2.2.1 a1.2.2.1 := rfl
 simp only [e0, e1, e2, Option.bind_some]
 show _ = some (((Zc a0.1 a1.1 && (Zc a0.2.1 a1.2.1 && (eqO a0.2.2.1 a1.2.2.1 && true))), ()), ())
 generalize Zc a0.1 a1.1 = p0
 generalize Zc a0.2.1 a1.2.1 = p1
 generalize eqO a0.2.2.1 a1.2.2.1 = p2
 cases p0 <;> cases p1 <;> cases p2 <;> rfl
theorem c9 : Bs Tryz.prog 98 sd_laws_eqChange :=
 Av (pat := Ck) [] F5 (Ax (l := []) trivial) trivial Tryz.func98 (de := fun x => Kl x.1 x.2.1) (fun x r h => Ay (c8 x.1 x.2.1) h) fun _ => by kernel_rfl
def Hp (a b : List Chg) : Option Bool := eqM (.sl A2) a b
def X3 : Sig := ⟨[.rd (.sl A2), .rd (.sl A2)], [none, none], [.rd .bool], [none]⟩
noncomputable def sd_laws_eqChangeS : SD := ⟨X3, fun x => (Hp x.1 x.2.1).bind fun r => some ((r, ()), (()))⟩
noncomputable def ta_laws_eqChangeS : Tb := tb [(98, sd_laws_eqChange)]
def pa_laws_eqChangeS : Nat → Pat × (Nat → Pat) := Gw [(5, ⟨[.sl 0 0 A2, .sl 1 0 A2], [(0, .lf (.d (.sl A2))), (1, .lf (.d (.sl A2))), (5, .lf (.d tI))], []⟩, [(2, p0), (1, ⟨[], [(4, .lf (.d .bool))], []⟩)])]
noncomputable def co_laws_eqChangeS_5 : Code := (An (Bn Tryz.f23)).getD 0 .skip
def Cg (v0 : List Chg) (v1 : List Chg) (v5 : Int) : Nat := ((v0.length : Int) - v5).toNat + 1
noncomputable def Eh {R : Type}  (NX : ((List Chg) × (List Chg) × (Int) × Unit) → Option R) (X2 : (Unit) → Option R) (X1 : ((Bool) × Unit) → Option R) (v0 : List Chg) (v1 : List Chg) (v5 : Int) : Option R :=
 bif decide (v5 < nI v0.length) then bif decide (0 ≤ v5) then bif decide (v5 < nI v0.length) then bif decide (0 ≤ v5) then bif decide (v5 < nI v1.length) then ((Ib (v0.getD v5.toNat (ByteArray.mk #[], ByteArray.mk #[], false, ())) (v1.getD v5.toNat (ByteArray.mk #[], ByteArray.mk #[], false, ()))).bind fun val => some ((val, ()), ())).bind fun val => bif !val.1.1 then X1 (false, ()) else NX (v0, v1, IntKind.i64.wrap (v5 + 1), ()) else none else none else none else none else X2 PUnit.unit
noncomputable def Bd : Nat → (List Chg) → (List Chg) → (Int) →  Option ((Unit) ⊕ ((Bool) × Unit))
 | 0, _, _, _ => none
 | m + 1, v0, v1, v5 => Eh  (fun d => Bd m d.1 d.2.1 d.2.2.1) (fun d => some (.inl (d))) (fun d => some (.inr (d))) v0 v1 v5
noncomputable def Jo (a0 : List Chg) (a1 : List Chg) : Option ((((Bool) × Unit) × (Unit))) :=
 bif nI a0.length != nI a1.length then some ((false, ()), ()) else ((fun d => Bd (Cg d.1 d.2.1 d.2.2.1) d.1 d.2.1 d.2.2.1) (a0, a1, 0, ())).bind fun val => Gz (fun val => some ((true, ()), ())) (fun val => some (val, ())) val
theorem X5 (a0 : List Chg) (a1 : List Chg) r (h : Hp a0 a1 = some r) : Jo a0 a1 = some ((r, ()), (())) := by
 obtain ⟨hc, hd, rfl⟩ := Hy (t := .sl A2) h
 obtain ⟨hlx0, hx⟩ := K1 hc
 obtain ⟨hly0, hy⟩ := K1 hd
 have hlx : a0.length < 1152921504606846976 := hlx0
 have hly : a1.length < 1152921504606846976 := hly0
 clear hlx0 hly0 hc hd h
 ·unfold Jo
  by_cases hl : a1.length = a0.length
  ·have c1 : (nI a0.length != nI a1.length) = false := by simp [nI, hl]
   have hL := Aa0 (xs := a0) (ys := a1) ((ByteArray.mk #[]), (ByteArray.mk #[]), false, ()) (fun x y : Chg => J2 A2 x y) (g := fun m i => Bd m a0 a1 i) (ok := .inl ()) (bad := .inr (false, ())) hl (fun m i hi => by
    show Bd (m + 1) a0 a1 i = _
    simp only [Bd, Eh]
    rw [Pw hi, Gk, Pw (show i < a1.length by omega), wI (by omega)]
    simp only [cond_true, Int.toNat_natCast]
    have f1 : Al A2 (List.getD (α := Chg) a0 i ((ByteArray.mk #[]), (ByteArray.mk #[]), false, ())) = true := hx _ (K0 ((ByteArray.mk #[]), (ByteArray.mk #[]), false, ()) hi)
    have f2 : Al A2 (List.getD (α := Chg) a1 i ((ByteArray.mk #[]), (ByteArray.mk #[]), false, ())) = true := hy _ (K0 ((ByteArray.mk #[]), (ByteArray.mk #[]), false, ()) (by omega))
    have hE : Ib (List.getD (α := Chg) a0 i ((ByteArray.mk #[]), (ByteArray.mk #[]), false, ())) (List.getD (α := Chg) a1 i ((ByteArray.mk #[]), (ByteArray.mk #[]), false, ())) = some (J2 A2 (List.getD (α := Chg) a0 i ((ByteArray.mk #[]), (ByteArray.mk #[]), false, ())) (List.getD (α := Chg) a1 i ((ByteArray.mk #[]), (ByteArray.mk #[]), false, ()))) := by
     exact Sc (t := A2) (x := (List.getD (α := Chg) a0 i ((ByteArray.mk #[]), (ByteArray.mk #[]), false, ()))) (y := (List.getD (α := Chg) a1 i ((ByteArray.mk #[]), (ByteArray.mk #[]), false, ()))) f1 f2
    rw [hE]
    cases q : J2 A2 (List.getD (α := Chg) a0 i ((ByteArray.mk #[]), (ByteArray.mk #[]), false, ())) (List.getD (α := Chg) a1 i ((ByteArray.mk #[]), (ByteArray.mk #[]), false, ())) <;> simp only [Option.bind_some, q] <;> rfl) (fun m => by
    show Bd (m + 1) a0 a1 a0.length = _
    simp only [Bd, Eh]
    rw [I6]
    rfl) (Cg a0 a1 0) 0 (by omega) (by simp [Cg])
   rw [c1]
   have hL' : Bd (Cg a0 a1 0) a0 a1 0 = _ := hL
   show (Bd (Cg a0 a1 0) a0 a1 0).bind _ = some ((j5 (α := Chg) (fun x y : Chg => J2 A2 x y) a0 a1, ()), ())
   rw [hL', List.drop_zero, List.drop_zero]
   cases j5 (α := Chg) (fun x y : Chg => J2 A2 x y) a0 a1 <;> rfl
  ·have c1 : (nI a0.length != nI a1.length) = true := by simp [nI]; omega
   rw [c1]
   show _ = some ((j5 (α := Chg) (fun x y : Chg => J2 A2 x y) a0 a1, ()), ())
   rw [Aaz (fun q => hl q.symm)]
   rfl
noncomputable def Lu {R : Type} (k : Kt R) := (Gz (Ln (pa_laws_eqChangeS 5) (.exit 0) 2 k) (Ln (pa_laws_eqChangeS 5) .ret 1 k))
noncomputable def Po {R : Type} : Lt R pa_laws_eqChangeS := (Gb (pat := pa_laws_eqChangeS) 5 (fun d k => (Bd (Cg d.1 d.2.1 d.2.2.1) d.1 d.2.1 d.2.2.1).bind (Lu k)) F5)
theorem N5 : At Tryz.prog ta_laws_eqChangeS := Ax ⟨c9, trivial⟩
theorem T3 {R : Type} : Ba Tryz.prog R 27 0 pa_laws_eqChangeS Po co_laws_eqChangeS_5 :=
 Dd (cfg := ⟨ta_laws_eqChangeS, 0, 27, pa_laws_eqChangeS⟩) 5 [] (fun NX X d => Eh  NX (fun e => X (.inl (e))) (fun e => X (.inr (e))) d.1 d.2.1 d.2.2.1) (fun m d => Bd m d.1 d.2.1 d.2.2.1) (fun d => Cg d.1 d.2.1 d.2.2.1) Lu N5 trivial (fun f NX d => by unfold Eh; simp only [Am, Az, Ai, Option.bind_assoc, Option.bind_none, Option.bind_some]) (fun _ _ _ => by kernel_rfl)
theorem X6 : Bs Tryz.prog 23 sd_laws_eqChangeS :=
 Av (pat := pa_laws_eqChangeS) [co_laws_eqChangeS_5] Po N5 ⟨T3, trivial⟩ Tryz.func23 (de := fun x => Jo x.1 x.2.1) (fun x r h => Ay (X5 x.1 x.2.1) h) fun _ => by kernel_rfl
end Go.Proofs.YteaoabdlcefkhaaGreat.V

