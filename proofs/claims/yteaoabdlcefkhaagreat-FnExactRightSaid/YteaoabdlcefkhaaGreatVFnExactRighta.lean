/- What the functions that FnExactRight reaches come to: part 1. No condition. -/
import Derived.Test.YteaoabdlcefkhaaGreatQBase
import Derived.Test.YteaoabdlcefkhaaGreatTLay
import Derived.Test.YteaoabdlcefkhaaGreatProg
import Derived.Test.YteaoabdlcefkhaaGreatQS
import Derived.Test.YteaoabdlcefkhaaGreatQA
import Derived.Test.YteaoabdlcefkhaaGreatQT
import Derived.Test.YteaoabdlcefkhaaGreatQO
import Derived.Test.YteaoabdlcefkhaaGreatTSort
import Derived.KernelRfl
namespace Go.Proofs.YteaoabdlcefkhaaGreat.V
open Go Go.Proofs.YteaoabdlcefkhaaGreat.R Go.Proofs
set_option maxRecDepth 100000
set_option linter.unusedVariables false
set_option linter.unusedSimpArgs false
def Px (a : Pr2) (left : Int) : Option Int := szM Ak a left
def Amo : Sig := ⟨[.rd Ak, .rd tI], [some 2, none], [.rd tI], [none]⟩
noncomputable def sd_laws_szPair : SD := ⟨Amo, fun x => (Px x.1 x.2.1).bind fun r => some ((r, ()), (()))⟩
noncomputable def R8 (a0 : Pr2) (a1 : Int) : Option ((((Int) × Unit) × (Unit))) :=
 bif decide (IntKind.i64.wrap (a1 - nI (ByteArray.size a0.1)) < 0) then some ((-1, ()), ()) else bif decide (IntKind.i64.wrap (IntKind.i64.wrap (a1 - nI (ByteArray.size a0.1)) - nI (ByteArray.size a0.2.1)) < 0) then some ((-1, ()), ()) else some ((IntKind.i64.wrap (IntKind.i64.wrap (a1 - nI (ByteArray.size a0.1)) - nI (ByteArray.size a0.2.1)), ()), ())
theorem Amp (a0 : Pr2) (a1 : Int) r (h : Px a0 a1 = some r) : R8 a0 a1 = some ((r, ()), (())) := by
 obtain ⟨hc, g0, g1, rfl⟩ := Lm (t := Ak) h
 obtain ⟨hc0, hc1, _⟩ : A2 .str a0.1 = true ∧ A2 .str a0.2.1 = true ∧ True := by
  have s := hc
  obtain ⟨h0, s⟩ := Af s
  obtain ⟨h1, s⟩ := Af s
  exact ⟨h0, h1, trivial⟩
 unfold R8
 have hwt : (wt Ak a0 : Int) = (ByteArray.size a0.1 : Int) + (ByteArray.size a0.2.1 : Int) := by simp only [wt]; omega
 rw [hwt]
 have hs0 : ByteArray.size a0.1 < 1152921504606846976 := l4 hc0
 have e0 : IntKind.i64.wrap (a1 - nI (ByteArray.size a0.1)) = a1 - (ByteArray.size a0.1 : Int) := Ag (by simp only [nI]; omega) (by simp only [nI]; omega)
 simp only [e0]
 by_cases q0 : a1 - (ByteArray.size a0.1 : Int) < 0
 ·simp only [decide_eq_true q0, cond_true]; try rw [if_pos (by omega)]
 ·simp only [decide_eq_false q0, cond_false]
  have hs1 : ByteArray.size a0.2.1 < 1152921504606846976 := l4 hc1
  have e1 : IntKind.i64.wrap (a1 - (ByteArray.size a0.1 : Int) - nI (ByteArray.size a0.2.1)) = a1 - (ByteArray.size a0.1 : Int) - (ByteArray.size a0.2.1 : Int) := Ag (by simp only [nI]; omega) (by simp only [nI]; omega)
  simp only [e1]
  by_cases q1 : a1 - (ByteArray.size a0.1 : Int) - (ByteArray.size a0.2.1 : Int) < 0
  ·simp only [decide_eq_true q1, cond_true]; try rw [if_pos (by omega)]
  ·simp only [decide_eq_false q1, cond_false]
   rw [if_neg (by omega)]
   simp only [Int.sub_sub, Int.add_assoc]
theorem Amq : Bf Tryz.prog 207 sd_laws_szPair :=
 Ar (pat := Ci) [] Ff (At (l := []) trivial) trivial Tryz.func207 (de := fun x => R8 x.1 x.2.1) (fun x r h => A3 (Amp x.1 x.2.1) h) fun _ => by kernel_rfl
def Ks (a : List Pr2) (left : Int) : Option Int := szM (.sl Ak) a left
def Aif : Sig := ⟨[.rd (.sl Ak), .rd tI], [none, none], [.rd tI], [none]⟩
noncomputable def sd_laws_szPairS : SD := ⟨Aif, fun x => (Ks x.1 x.2.1).bind fun r => some ((r, ()), (()))⟩
noncomputable def ta_laws_szPairS : Tb := tb [(207, sd_laws_szPair)]
def pa_laws_szPairS : Nat → Pat × (Nat → Pat) := Fj [(6, ⟨[.sl 0 0 Ak], [(0, .lf (.d (.sl Ak))), (1, .lf (.d tI)), (5, .lf (.d tI))], []⟩, [(2, ⟨[], [(1, .lf (.d tI))], []⟩), (1, ⟨[], [(4, .lf (.d tI))], []⟩)])]
noncomputable def co_laws_szPairS_6 : Code := (Ao (A4 Tryz.f164)).getD 0 .skip
def E2 (v0 : List Pr2) (v1 : Int) (v5 : Int) : Nat := ((v0.length : Int) - v5).toNat + 1
noncomputable def H9 {R : Type}  (NX : ((List Pr2) × (Int) × (Int) × Unit) → Option R) (X2 : ((Int) × Unit) → Option R) (X1 : ((Int) × Unit) → Option R) (v0 : List Pr2) (v1 : Int) (v5 : Int) : Option R :=
 bif decide (v5 < nI v0.length) then bif decide (0 ≤ v5) then bif decide (v5 < nI v0.length) then ((Px (v0.getD v5.toNat (ByteArray.mk #[], ByteArray.mk #[], ())) v1).bind fun val => some ((val, ()), ())).bind fun val => bif decide (val.1.1 < 0) then X1 (-1, ()) else NX (v0, val.1.1, IntKind.i64.wrap (v5 + 1), ()) else none else none else X2 (v1, ())
noncomputable def Ca : Nat → (List Pr2) → (Int) → (Int) →  Option (((Int) × Unit) ⊕ ((Int) × Unit))
 | 0, _, _, _ => none
 | m + 1, v0, v1, v5 => H9  (fun d => Ca m d.1 d.2.1 d.2.2.1) (fun d => some (.inl (d))) (fun d => some (.inr (d))) v0 v1 v5
noncomputable def Qj (a0 : List Pr2) (a1 : Int) : Option ((((Int) × Unit) × (Unit))) :=
 bif decide (IntKind.i64.wrap (a1 - nI a0.length) < 0) then some ((-1, ()), ()) else ((fun d => Ca (E2 d.1 d.2.1 d.2.2.1) d.1 d.2.1 d.2.2.1) (a0, IntKind.i64.wrap (a1 - nI a0.length), 0, ())).bind fun val => Be (fun val => some (val, ())) (fun val => some (val, ())) val
theorem Aig (a0 : List Pr2) (a1 : Int) r (h : Ks a0 a1 = some r) : Qj a0 a1 = some ((r, ()), (())) := by
 obtain ⟨hc, g0, g1, rfl⟩ := Lm (t := .sl Ak) h
 obtain ⟨hl0, hall⟩ := Ju hc
 have hl : a0.length < 1152921504606846976 := hl0
 clear hl0 hc
 ·unfold Qj
  have hw1 : IntKind.i64.wrap (a1 - nI a0.length) = a1 - (a0.length : Int) := Ag (by simp only [nI]; omega) (by simp only [nI]; omega)
  rw [hw1]
  have hL := Acw (xs := a0) ((ByteArray.mk #[]), (ByteArray.mk #[]), ()) (fun x : Pr2 => wt Ak x) (g := fun m l i => Ca m a0 l i) (ok := fun l => .inl (l, ())) (bad := .inr (-1, ())) (fun m i l hi h0 h1 => by
   show Ca (m + 1) a0 l i = _
   simp only [Ca, H9]
   rw [Mg hi, Fh, wI (by omega)]
   simp only [cond_true, Int.toNat_natCast]
   have hE : Px (List.getD (α := Pr2) a0 i ((ByteArray.mk #[]), (ByteArray.mk #[]), ())) l = some (if l - (wt Ak (List.getD (α := Pr2) a0 i ((ByteArray.mk #[]), (ByteArray.mk #[]), ())) : Int) < 0 then -1 else l - wt Ak (List.getD (α := Pr2) a0 i ((ByteArray.mk #[]), (ByteArray.mk #[]), ()))) := by
    exact Qh (t := Ak) (x := (List.getD (α := Pr2) a0 i ((ByteArray.mk #[]), (ByteArray.mk #[]), ()))) (hall _ (Kn ((ByteArray.mk #[]), (ByteArray.mk #[]), ()) hi)) h0 h1
   rw [hE]
   by_cases q : l - (wt Ak (List.getD (α := Pr2) a0 i ((ByteArray.mk #[]), (ByteArray.mk #[]), ())) : Int) < 0
   ·simp only [if_pos q, decide_eq_true q, Option.bind_some, cond_true]; rfl
   ·simp only [if_neg q, decide_eq_false q, Option.bind_some, cond_false]
  ) (fun m l => by
   show Ca (m + 1) a0 l a0.length = _
   simp only [Ca, H9]
   rw [Hx]
   rfl) (E2 a0 (a1 - (a0.length : Int)) 0) 0 (a1 - (a0.length : Int)) (by omega) (by simp [E2])
  have hW : wt (.sl Ak) a0 = a0.length + (a0.map (fun x : Pr2 => wt Ak x)).sum := rfl
  rw [hW]
  by_cases q : a1 - (a0.length : Int) < 0
  ·simp only [decide_eq_true q, cond_true]; rw [if_pos (by omega)]
  ·simp only [decide_eq_false q, cond_false]
   have hL := hL (by omega) (by omega)
   rw [List.drop_zero] at hL
   show (Ca (E2 a0 (a1 - (a0.length : Int)) 0) a0 (a1 - (a0.length : Int)) 0).bind _ = _
   have hL' : Ca (E2 a0 (a1 - (a0.length : Int)) 0) a0 (a1 - (a0.length : Int)) 0 = _ := hL
   rw [hL']
   have hsum : a1 - ((a0.length + (a0.map (fun x : Pr2 => wt Ak x)).sum : Nat) : Int) = a1 - (a0.length : Int) - ((a0.map (fun x : Pr2 => wt Ak x)).sum : Int) := by omega
   rw [hsum]
   by_cases q2 : a1 - (a0.length : Int) - ((a0.map (fun x : Pr2 => wt Ak x)).sum : Int) < 0
   ·simp only [if_pos q2]; rfl
   ·simp only [if_neg q2]; rfl
noncomputable def Tr {R : Type} (k : Kt R) := (Be (Hw (pa_laws_szPairS 6) (.exit 0) 2 k) (Hw (pa_laws_szPairS 6) .ret 1 k))
noncomputable def Zr {R : Type} : Lt R pa_laws_szPairS := (D5 (pat := pa_laws_szPairS) 6 (fun d k => (Ca (E2 d.1 d.2.1 d.2.2.1) d.1 d.2.1 d.2.2.1).bind (Tr k)) Ff)
theorem Xt : Au Tryz.prog ta_laws_szPairS := At ⟨Amq, trivial⟩
theorem Ac4 {R : Type} : Aw Tryz.prog R 27 0 pa_laws_szPairS Zr co_laws_szPairS_6 :=
 B1 (cfg := ⟨ta_laws_szPairS, 0, 27, pa_laws_szPairS⟩) 6 [] (fun NX X d => H9  NX (fun e => X (.inl (e))) (fun e => X (.inr (e))) d.1 d.2.1 d.2.2.1) (fun m d => Ca m d.1 d.2.1 d.2.2.1) (fun d => E2 d.1 d.2.1 d.2.2.1) Tr Xt trivial (fun f NX d => by unfold H9; simp only [Aj, Ap, Ai, Option.bind_assoc, Option.bind_none, Option.bind_some]) (fun _ _ _ => by kernel_rfl)
theorem Aih : Bf Tryz.prog 164 sd_laws_szPairS :=
 Ar (pat := pa_laws_szPairS) [co_laws_szPairS_6] Zr Xt ⟨Ac4, trivial⟩ Tryz.func164 (de := fun x => Qj x.1 x.2.1) (fun x r h => A3 (Aig x.1 x.2.1) h) fun _ => by kernel_rfl
def G9 (a : Stt) (left : Int) : Option Int := szM Bd a left
def Aii : Sig := ⟨[.rd Bd, .rd tI], [some 1, none], [.rd tI], [none]⟩
noncomputable def sd_laws_szState : SD := ⟨Aii, fun x => (G9 x.1 x.2.1).bind fun r => some ((r, ()), (()))⟩
noncomputable def Qk (a0 : Stt) (a1 : Int) : Option ((((Int) × Unit) × (Unit))) :=
 ((Ks a0.1 a1).bind fun val => some ((val, ()), ())).bind fun val => bif decide (val.1.1 < 0) then some ((-1, ()), ()) else some val
theorem Aij (a0 : Stt) (a1 : Int) r (h : G9 a0 a1 = some r) : Qk a0 a1 = some ((r, ()), (())) := by
 obtain ⟨hc, g0, g1, rfl⟩ := Lm (t := Bd) h
 obtain ⟨hc0, _⟩ : A2 (.sl Ak) a0.1 = true ∧ True := by
  have s := hc
  obtain ⟨h0, s⟩ := Af s
  exact ⟨h0, trivial⟩
 unfold Qk
 have hwt : (wt Bd a0 : Int) = (wt (.sl Ak) a0.1 : Int) := by simp only [wt]; omega
 rw [hwt]
 have e0 : Ks a0.1 (a1) = some (if a1 - (wt (.sl Ak) a0.1 : Int) < 0 then -1 else a1 - (wt (.sl Ak) a0.1 : Int)) := Qh (t := (.sl Ak)) (x := a0.1) hc0 (by omega) (by omega)
 simp only [show Ks a0.1 (a1) = _ from e0, Option.bind_some]
 by_cases q0 : a1 - (wt (.sl Ak) a0.1 : Int) < 0
 ·simp only [if_pos q0, show decide ((-1 : Int) < 0) = true from rfl, cond_true]; try rw [if_pos (by omega)]
 ·simp only [if_neg q0, decide_eq_false q0, cond_false]
  try rw [if_neg q0]
theorem Xu : Bf Tryz.prog 77 sd_laws_szState :=
 Ar (pat := Ci) [] Ff (At (l := [(164, sd_laws_szPairS)]) ⟨Aih, trivial⟩) trivial Tryz.func77 (de := fun x => Qk x.1 x.2.1) (fun x r h => A3 (Aij x.1 x.2.1) h) fun _ => by kernel_rfl
def Ku (a : Sto) (left : Int) : Option Int := szM Il a left
def Aik : Sig := ⟨[.rd Il, .rd tI], [some 10, none], [.rd tI], [none]⟩
noncomputable def sd_laws_szStore : SD := ⟨Aik, fun x => (Ku x.1 x.2.1).bind fun r => some ((r, ()), (()))⟩
noncomputable def Ql (a0 : Sto) (a1 : Int) : Option ((((Int) × Unit) × (Unit))) :=
 ((G9 a0.2.2.2.2.2.2.1 a1).bind fun val => some ((val, ()), ())).bind fun val => bif decide (val.1.1 < 0) then some ((-1, ()), ()) else some val
theorem Ail (a0 : Sto) (a1 : Int) r (h : Ku a0 a1 = some r) : Ql a0 a1 = some ((r, ()), (())) := by
 obtain ⟨hc, g0, g1, rfl⟩ := Lm (t := Il) h
 obtain ⟨hc0, hc1, hc2, hc3, hc4, hc5, hc6, _⟩ : A2 tI a0.1 = true ∧ A2 tI a0.2.1 = true ∧ A2 tI a0.2.2.1 = true ∧ A2 yRt a0.2.2.2.1 = true ∧ A2 tI a0.2.2.2.2.1 = true ∧ A2 tI a0.2.2.2.2.2.1 = true ∧ A2 Bd a0.2.2.2.2.2.2.1 = true ∧ True := by
  have s := hc
  obtain ⟨h0, s⟩ := Af s
  obtain ⟨h1, s⟩ := Af s
  obtain ⟨h2, s⟩ := Af s
  obtain ⟨h3, s⟩ := Af s
  obtain ⟨h4, s⟩ := Af s
  obtain ⟨h5, s⟩ := Af s
  obtain ⟨h6, s⟩ := Af s
  exact ⟨h0, h1, h2, h3, h4, h5, h6, trivial⟩
 unfold Ql
 have hwt : (wt Il a0 : Int) = (wt Bd a0.2.2.2.2.2.2.1 : Int) := by simp only [wt]; omega
 rw [hwt]
 have e0 : G9 a0.2.2.2.2.2.2.1 (a1) = some (if a1 - (wt Bd a0.2.2.2.2.2.2.1 : Int) < 0 then -1 else a1 - (wt Bd a0.2.2.2.2.2.2.1 : Int)) := Qh (t := Bd) (x := a0.2.2.2.2.2.2.1) hc6 (by omega) (by omega)
 simp only [show G9 a0.2.2.2.2.2.2.1 (a1) = _ from e0, Option.bind_some]
 by_cases q0 : a1 - (wt Bd a0.2.2.2.2.2.2.1 : Int) < 0
 ·simp only [if_pos q0, show decide ((-1 : Int) < 0) = true from rfl, cond_true]; try rw [if_pos (by omega)]
 ·simp only [if_neg q0, decide_eq_false q0, cond_false]
  try rw [if_neg q0]
theorem Aim : Bf Tryz.prog 15 sd_laws_szStore :=
 Ar (pat := Ci) [] Ff (At (l := [(77, sd_laws_szState)]) ⟨Xu, trivial⟩) trivial Tryz.func15 (de := fun x => Ql x.1 x.2.1) (fun x r h => A3 (Ail x.1 x.2.1) h) fun _ => by kernel_rfl
def Es (a : List ByteArray) (left : Int) : Option Int := szM (.sl .str) a left
def Ac5 : Sig := ⟨[.rd (.sl .str), .rd tI], [none, none], [.rd tI], [none]⟩
noncomputable def sd_laws_szStringS : SD := ⟨Ac5, fun x => (Es x.1 x.2.1).bind fun r => some ((r, ()), (()))⟩
noncomputable def ta_laws_szStringS : Tb := tb []
def pa_laws_szStringS : Nat → Pat × (Nat → Pat) := Fj [(6, ⟨[.sl 0 0 .str], [(0, .lf (.d (.sl .str))), (1, .lf (.d tI)), (5, .lf (.d tI))], []⟩, [(2, ⟨[], [(1, .lf (.d tI))], []⟩), (1, ⟨[], [(4, .lf (.d tI))], []⟩)])]
noncomputable def co_laws_szStringS_6 : Code := (Ao (A4 Tryz.f103)).getD 0 .skip
def Dn (v0 : List ByteArray) (v1 : Int) (v5 : Int) : Nat := ((v0.length : Int) - v5).toNat + 1
noncomputable def Gr {R : Type}  (NX : ((List ByteArray) × (Int) × (Int) × Unit) → Option R) (X2 : ((Int) × Unit) → Option R) (X1 : ((Int) × Unit) → Option R) (v0 : List ByteArray) (v1 : Int) (v5 : Int) : Option R :=
 bif decide (v5 < nI v0.length) then bif decide (0 ≤ v5) then bif decide (v5 < nI v0.length) then bif decide (IntKind.i64.wrap (v1 - nI (ByteArray.size (v0.getD v5.toNat (ByteArray.mk #[])))) < 0) then X1 (-1, ()) else NX (v0, IntKind.i64.wrap (v1 - nI (ByteArray.size (v0.getD v5.toNat (ByteArray.mk #[])))), IntKind.i64.wrap (v5 + 1), ()) else none else none else X2 (v1, ())
noncomputable def Bu : Nat → (List ByteArray) → (Int) → (Int) →  Option (((Int) × Unit) ⊕ ((Int) × Unit))
 | 0, _, _, _ => none
 | m + 1, v0, v1, v5 => Gr  (fun d => Bu m d.1 d.2.1 d.2.2.1) (fun d => some (.inl (d))) (fun d => some (.inr (d))) v0 v1 v5
noncomputable def Np (a0 : List ByteArray) (a1 : Int) : Option ((((Int) × Unit) × (Unit))) :=
 bif decide (IntKind.i64.wrap (a1 - nI a0.length) < 0) then some ((-1, ()), ()) else ((fun d => Bu (Dn d.1 d.2.1 d.2.2.1) d.1 d.2.1 d.2.2.1) (a0, IntKind.i64.wrap (a1 - nI a0.length), 0, ())).bind fun val => Be (fun val => some (val, ())) (fun val => some (val, ())) val
theorem Ac6 (a0 : List ByteArray) (a1 : Int) r (h : Es a0 a1 = some r) : Np a0 a1 = some ((r, ()), (())) := by
 obtain ⟨hc, g0, g1, rfl⟩ := Lm (t := .sl .str) h
 obtain ⟨hl0, hall⟩ := Ju hc
 have hl : a0.length < 1152921504606846976 := hl0
 clear hl0 hc
 ·unfold Np
  have hw1 : IntKind.i64.wrap (a1 - nI a0.length) = a1 - (a0.length : Int) := Ag (by simp only [nI]; omega) (by simp only [nI]; omega)
  rw [hw1]
  have hL := Acw (xs := a0) (ByteArray.mk #[]) ByteArray.size (g := fun m l i => Bu m a0 l i) (ok := fun l => .inl (l, ())) (bad := .inr (-1, ())) (fun m i l hi h0 h1 => by
   show Bu (m + 1) a0 l i = _
   simp only [Bu, Gr]
   rw [Mg hi, Fh, wI (by omega)]
   simp only [cond_true, Int.toNat_natCast]
   have hf : ByteArray.size (List.getD (α := ByteArray) a0 i (ByteArray.mk #[])) < 1152921504606846976 := l4 (hall _ (Kn (ByteArray.mk #[]) hi))
   have hw : IntKind.i64.wrap (l - nI (ByteArray.size (List.getD (α := ByteArray) a0 i (ByteArray.mk #[])))) = l - (ByteArray.size (List.getD (α := ByteArray) a0 i (ByteArray.mk #[])) : Int) := Ag (by simp only [nI]; omega) (by simp only [nI]; omega)
   simp only [hw]
  ) (fun m l => by
   show Bu (m + 1) a0 l a0.length = _
   simp only [Bu, Gr]
   rw [Hx]
   rfl) (Dn a0 (a1 - (a0.length : Int)) 0) 0 (a1 - (a0.length : Int)) (by omega) (by simp [Dn])
  have hW : wt (.sl .str) a0 = a0.length + (a0.map ByteArray.size).sum := rfl
  rw [hW]
  by_cases q : a1 - (a0.length : Int) < 0
  ·simp only [decide_eq_true q, cond_true]; rw [if_pos (by omega)]
  ·simp only [decide_eq_false q, cond_false]
   have hL := hL (by omega) (by omega)
   rw [List.drop_zero] at hL
   show (Bu (Dn a0 (a1 - (a0.length : Int)) 0) a0 (a1 - (a0.length : Int)) 0).bind _ = _
   have hL' : Bu (Dn a0 (a1 - (a0.length : Int)) 0) a0 (a1 - (a0.length : Int)) 0 = _ := hL
   rw [hL']
   have hsum : a1 - ((a0.length + (a0.map ByteArray.size).sum : Nat) : Int) = a1 - (a0.length : Int) - ((a0.map ByteArray.size).sum : Int) := by omega
   rw [hsum]
   by_cases q2 : a1 - (a0.length : Int) - ((a0.map ByteArray.size).sum : Int) < 0
   ·simp only [if_pos q2]; rfl
   ·simp only [if_neg q2]; rfl
noncomputable def Q1 {R : Type} (k : Kt R) := (Be (Hw (pa_laws_szStringS 6) (.exit 0) 2 k) (Hw (pa_laws_szStringS 6) .ret 1 k))
noncomputable def Vi {R : Type} : Lt R pa_laws_szStringS := (D5 (pat := pa_laws_szStringS) 6 (fun d k => (Bu (Dn d.1 d.2.1 d.2.2.1) d.1 d.2.1 d.2.2.1).bind (Q1 k)) Ff)
theorem Tt : Au Tryz.prog ta_laws_szStringS := At trivial
theorem m9 {R : Type} : Aw Tryz.prog R 28 0 pa_laws_szStringS Vi co_laws_szStringS_6 :=
 B1 (cfg := ⟨ta_laws_szStringS, 0, 28, pa_laws_szStringS⟩) 6 [] (fun NX X d => Gr  NX (fun e => X (.inl (e))) (fun e => X (.inr (e))) d.1 d.2.1 d.2.2.1) (fun m d => Bu m d.1 d.2.1 d.2.2.1) (fun d => Dn d.1 d.2.1 d.2.2.1) Q1 Tt trivial (fun f NX d => by unfold Gr; simp only [Aj, Ap, Ai, Option.bind_assoc, Option.bind_none, Option.bind_some]) (fun _ _ _ => by kernel_rfl)
theorem Tu : Bf Tryz.prog 103 sd_laws_szStringS :=
 Ar (pat := pa_laws_szStringS) [co_laws_szStringS_6] Vi Tt ⟨m9, trivial⟩ Tryz.func103 (de := fun x => Np x.1 x.2.1) (fun x r h => A3 (Ac6 x.1 x.2.1) h) fun _ => by kernel_rfl
def Nq (a : Wr) (left : Int) : Option Int := szM Ey a left
def Ain : Sig := ⟨[.rd Ey, .rd tI], [some 2, none], [.rd tI], [none]⟩
noncomputable def sd_laws_szWrite : SD := ⟨Ain, fun x => (Nq x.1 x.2.1).bind fun r => some ((r, ()), (()))⟩
noncomputable def Qm (a0 : Wr) (a1 : Int) : Option ((((Int) × Unit) × (Unit))) :=
 bif decide (IntKind.i64.wrap (a1 - nI (ByteArray.size a0.2.1)) < 0) then some ((-1, ()), ()) else some ((IntKind.i64.wrap (a1 - nI (ByteArray.size a0.2.1)), ()), ())
theorem Aio (a0 : Wr) (a1 : Int) r (h : Nq a0 a1 = some r) : Qm a0 a1 = some ((r, ()), (())) := by
 obtain ⟨hc, g0, g1, rfl⟩ := Lm (t := Ey) h
 obtain ⟨hc0, hc1, _⟩ : A2 tI a0.1 = true ∧ A2 .str a0.2.1 = true ∧ True := by
  have s := hc
  obtain ⟨h0, s⟩ := Af s
  obtain ⟨h1, s⟩ := Af s
  exact ⟨h0, h1, trivial⟩
 unfold Qm
 have hwt : (wt Ey a0 : Int) = (ByteArray.size a0.2.1 : Int) := by simp only [wt]; omega
 rw [hwt]
 have hs0 : ByteArray.size a0.2.1 < 1152921504606846976 := l4 hc1
 have e0 : IntKind.i64.wrap (a1 - nI (ByteArray.size a0.2.1)) = a1 - (ByteArray.size a0.2.1 : Int) := Ag (by simp only [nI]; omega) (by simp only [nI]; omega)
 simp only [e0]
 by_cases q0 : a1 - (ByteArray.size a0.2.1 : Int) < 0
 ·simp only [decide_eq_true q0, cond_true]; try rw [if_pos (by omega)]
 ·simp only [decide_eq_false q0, cond_false]
  try rw [if_neg q0]
theorem Aip : Bf Tryz.prog 178 sd_laws_szWrite :=
 Ar (pat := Ci) [] Ff (At (l := []) trivial) trivial Tryz.func178 (de := fun x => Qm x.1 x.2.1) (fun x r h => A3 (Aio x.1 x.2.1) h) fun _ => by kernel_rfl
def Jv (a : List Wr) (left : Int) : Option Int := szM (.sl Ey) a left
def Afl : Sig := ⟨[.rd (.sl Ey), .rd tI], [none, none], [.rd tI], [none]⟩
noncomputable def sd_laws_szWriteS : SD := ⟨Afl, fun x => (Jv x.1 x.2.1).bind fun r => some ((r, ()), (()))⟩
noncomputable def ta_laws_szWriteS : Tb := tb [(178, sd_laws_szWrite)]
def pa_laws_szWriteS : Nat → Pat × (Nat → Pat) := Fj [(6, ⟨[.sl 0 0 Ey], [(0, .lf (.d (.sl Ey))), (1, .lf (.d tI)), (5, .lf (.d tI))], []⟩, [(2, ⟨[], [(1, .lf (.d tI))], []⟩), (1, ⟨[], [(4, .lf (.d tI))], []⟩)])]
noncomputable def co_laws_szWriteS_6 : Code := (Ao (A4 Tryz.f104)).getD 0 .skip
def Ea (v0 : List Wr) (v1 : Int) (v5 : Int) : Nat := ((v0.length : Int) - v5).toNat + 1
noncomputable def Ha {R : Type}  (NX : ((List Wr) × (Int) × (Int) × Unit) → Option R) (X2 : ((Int) × Unit) → Option R) (X1 : ((Int) × Unit) → Option R) (v0 : List Wr) (v1 : Int) (v5 : Int) : Option R :=
 bif decide (v5 < nI v0.length) then bif decide (0 ≤ v5) then bif decide (v5 < nI v0.length) then ((Nq (v0.getD v5.toNat (0, ByteArray.mk #[], ())) v1).bind fun val => some ((val, ()), ())).bind fun val => bif decide (val.1.1 < 0) then X1 (-1, ()) else NX (v0, val.1.1, IntKind.i64.wrap (v5 + 1), ()) else none else none else X2 (v1, ())
noncomputable def B2 : Nat → (List Wr) → (Int) → (Int) →  Option (((Int) × Unit) ⊕ ((Int) × Unit))
 | 0, _, _, _ => none
 | m + 1, v0, v1, v5 => Ha  (fun d => B2 m d.1 d.2.1 d.2.2.1) (fun d => some (.inl (d))) (fun d => some (.inr (d))) v0 v1 v5
noncomputable def O4 (a0 : List Wr) (a1 : Int) : Option ((((Int) × Unit) × (Unit))) :=
 bif decide (IntKind.i64.wrap (a1 - nI a0.length) < 0) then some ((-1, ()), ()) else ((fun d => B2 (Ea d.1 d.2.1 d.2.2.1) d.1 d.2.1 d.2.2.1) (a0, IntKind.i64.wrap (a1 - nI a0.length), 0, ())).bind fun val => Be (fun val => some (val, ())) (fun val => some (val, ())) val
theorem Afm (a0 : List Wr) (a1 : Int) r (h : Jv a0 a1 = some r) : O4 a0 a1 = some ((r, ()), (())) := by
 obtain ⟨hc, g0, g1, rfl⟩ := Lm (t := .sl Ey) h
 obtain ⟨hl0, hall⟩ := Ju hc
 have hl : a0.length < 1152921504606846976 := hl0
 clear hl0 hc
 ·unfold O4
  have hw1 : IntKind.i64.wrap (a1 - nI a0.length) = a1 - (a0.length : Int) := Ag (by simp only [nI]; omega) (by simp only [nI]; omega)
  rw [hw1]
  have hL := Acw (xs := a0) (0, (ByteArray.mk #[]), ()) (fun x : Wr => wt Ey x) (g := fun m l i => B2 m a0 l i) (ok := fun l => .inl (l, ())) (bad := .inr (-1, ())) (fun m i l hi h0 h1 => by
   show B2 (m + 1) a0 l i = _
   simp only [B2, Ha]
   rw [Mg hi, Fh, wI (by omega)]
   simp only [cond_true, Int.toNat_natCast]
   have hE : Nq (List.getD (α := Wr) a0 i (0, (ByteArray.mk #[]), ())) l = some (if l - (wt Ey (List.getD (α := Wr) a0 i (0, (ByteArray.mk #[]), ())) : Int) < 0 then -1 else l - wt Ey (List.getD (α := Wr) a0 i (0, (ByteArray.mk #[]), ()))) := by
    exact Qh (t := Ey) (x := (List.getD (α := Wr) a0 i (0, (ByteArray.mk #[]), ()))) (hall _ (Kn (0, (ByteArray.mk #[]), ()) hi)) h0 h1
   rw [hE]
   by_cases q : l - (wt Ey (List.getD (α := Wr) a0 i (0, (ByteArray.mk #[]), ())) : Int) < 0
   ·simp only [if_pos q, decide_eq_true q, Option.bind_some, cond_true]; rfl
   ·simp only [if_neg q, decide_eq_false q, Option.bind_some, cond_false]
  ) (fun m l => by
   show B2 (m + 1) a0 l a0.length = _
   simp only [B2, Ha]
   rw [Hx]
   rfl) (Ea a0 (a1 - (a0.length : Int)) 0) 0 (a1 - (a0.length : Int)) (by omega) (by simp [Ea])
  have hW : wt (.sl Ey) a0 = a0.length + (a0.map (fun x : Wr => wt Ey x)).sum := rfl
  rw [hW]
  by_cases q : a1 - (a0.length : Int) < 0
  ·simp only [decide_eq_true q, cond_true]; rw [if_pos (by omega)]
  ·simp only [decide_eq_false q, cond_false]
   have hL := hL (by omega) (by omega)
   rw [List.drop_zero] at hL
   show (B2 (Ea a0 (a1 - (a0.length : Int)) 0) a0 (a1 - (a0.length : Int)) 0).bind _ = _
   have hL' : B2 (Ea a0 (a1 - (a0.length : Int)) 0) a0 (a1 - (a0.length : Int)) 0 = _ := hL
   rw [hL']
   have hsum : a1 - ((a0.length + (a0.map (fun x : Wr => wt Ey x)).sum : Nat) : Int) = a1 - (a0.length : Int) - ((a0.map (fun x : Wr => wt Ey x)).sum : Int) := by omega
   rw [hsum]
   by_cases q2 : a1 - (a0.length : Int) - ((a0.map (fun x : Wr => wt Ey x)).sum : Int) < 0
   ·simp only [if_pos q2]; rfl
   ·simp only [if_neg q2]; rfl
noncomputable def R9 {R : Type} (k : Kt R) := (Be (Hw (pa_laws_szWriteS 6) (.exit 0) 2 k) (Hw (pa_laws_szWriteS 6) .ret 1 k))
noncomputable def Xv {R : Type} : Lt R pa_laws_szWriteS := (D5 (pat := pa_laws_szWriteS) 6 (fun d k => (B2 (Ea d.1 d.2.1 d.2.2.1) d.1 d.2.1 d.2.2.1).bind (R9 k)) Ff)
theorem Vj : Au Tryz.prog ta_laws_szWriteS := At ⟨Aip, trivial⟩
theorem Aax {R : Type} : Aw Tryz.prog R 27 0 pa_laws_szWriteS Xv co_laws_szWriteS_6 :=
 B1 (cfg := ⟨ta_laws_szWriteS, 0, 27, pa_laws_szWriteS⟩) 6 [] (fun NX X d => Ha  NX (fun e => X (.inl (e))) (fun e => X (.inr (e))) d.1 d.2.1 d.2.2.1) (fun m d => B2 m d.1 d.2.1 d.2.2.1) (fun d => Ea d.1 d.2.1 d.2.2.1) R9 Vj trivial (fun f NX d => by unfold Ha; simp only [Aj, Ap, Ai, Option.bind_assoc, Option.bind_none, Option.bind_some]) (fun _ _ _ => by kernel_rfl)
theorem Afn : Bf Tryz.prog 104 sd_laws_szWriteS :=
 Ar (pat := pa_laws_szWriteS) [co_laws_szWriteS_6] Xv Vj ⟨Aax, trivial⟩ Tryz.func104 (de := fun x => O4 x.1 x.2.1) (fun x r h => A3 (Afm x.1 x.2.1) h) fun _ => by kernel_rfl
def Ln (a : Dk) (left : Int) : Option Int := szM P3 a left
def Amr : Sig := ⟨[.rd P3, .rd tI], [some 2, none], [.rd tI], [none]⟩
noncomputable def sd_laws_szDisk : SD := ⟨Amr, fun x => (Ln x.1 x.2.1).bind fun r => some ((r, ()), (()))⟩
noncomputable def Sa (a0 : Dk) (a1 : Int) : Option ((((Int) × Unit) × (Unit))) :=
 ((Es a0.1 a1).bind fun val => some ((val, ()), ())).bind fun val => bif decide (val.1.1 < 0) then some ((-1, ()), ()) else ((Jv a0.2.1 val.1.1).bind fun val => some ((val, ()), ())).bind fun val => bif decide (val.1.1 < 0) then some ((-1, ()), ()) else some val
theorem Ams (a0 : Dk) (a1 : Int) r (h : Ln a0 a1 = some r) : Sa a0 a1 = some ((r, ()), (())) := by
 obtain ⟨hc, g0, g1, rfl⟩ := Lm (t := P3) h
 obtain ⟨hc0, hc1, _⟩ : A2 (.sl .str) a0.1 = true ∧ A2 (.sl Ey) a0.2.1 = true ∧ True := by
  have s := hc
  obtain ⟨h0, s⟩ := Af s
  obtain ⟨h1, s⟩ := Af s
  exact ⟨h0, h1, trivial⟩
 unfold Sa
 have hwt : (wt P3 a0 : Int) = (wt (.sl .str) a0.1 : Int) + (wt (.sl Ey) a0.2.1 : Int) := by simp only [wt]; omega
 rw [hwt]
 have e0 : Es a0.1 (a1) = some (if a1 - (wt (.sl .str) a0.1 : Int) < 0 then -1 else a1 - (wt (.sl .str) a0.1 : Int)) := Qh (t := (.sl .str)) (x := a0.1) hc0 (by omega) (by omega)
 simp only [show Es a0.1 (a1) = _ from e0, Option.bind_some]
 by_cases q0 : a1 - (wt (.sl .str) a0.1 : Int) < 0
 ·simp only [if_pos q0, show decide ((-1 : Int) < 0) = true from rfl, cond_true]; try rw [if_pos (by omega)]
 ·simp only [if_neg q0, decide_eq_false q0, cond_false]
  have e1 : Jv a0.2.1 (a1 - (wt (.sl .str) a0.1 : Int)) = some (if a1 - (wt (.sl .str) a0.1 : Int) - (wt (.sl Ey) a0.2.1 : Int) < 0 then -1 else a1 - (wt (.sl .str) a0.1 : Int) - (wt (.sl Ey) a0.2.1 : Int)) := Qh (t := (.sl Ey)) (x := a0.2.1) hc1 (by omega) (by omega)
  simp only [show Jv a0.2.1 (a1 - (wt (.sl .str) a0.1 : Int)) = _ from e1, Option.bind_some]
  by_cases q1 : a1 - (wt (.sl .str) a0.1 : Int) - (wt (.sl Ey) a0.2.1 : Int) < 0
  ·simp only [if_pos q1, show decide ((-1 : Int) < 0) = true from rfl, cond_true]; try rw [if_pos (by omega)]
  ·simp only [if_neg q1, decide_eq_false q1, cond_false]
   rw [if_neg (by omega)]
   simp only [Int.sub_sub, Int.add_assoc]
theorem Amt : Bf Tryz.prog 28 sd_laws_szDisk :=
 Ar (pat := Ci) [] Ff (At (l := [(103, sd_laws_szStringS), (104, sd_laws_szWriteS)]) ⟨Tu, Afn, trivial⟩) trivial Tryz.func28 (de := fun x => Sa x.1 x.2.1) (fun x r h => A3 (Ams x.1 x.2.1) h) fun _ => by kernel_rfl
def Jw (a : List Stt) (left : Int) : Option Int := szM (.sl Bd) a left
def Afo : Sig := ⟨[.rd (.sl Bd), .rd tI], [none, none], [.rd tI], [none]⟩
noncomputable def sd_laws_szStateS : SD := ⟨Afo, fun x => (Jw x.1 x.2.1).bind fun r => some ((r, ()), (()))⟩
noncomputable def ta_laws_szStateS : Tb := tb [(77, sd_laws_szState)]
def pa_laws_szStateS : Nat → Pat × (Nat → Pat) := Fj [(6, ⟨[.sl 0 0 Bd], [(0, .lf (.d (.sl Bd))), (1, .lf (.d tI)), (5, .lf (.d tI))], []⟩, [(2, ⟨[], [(1, .lf (.d tI))], []⟩), (1, ⟨[], [(4, .lf (.d tI))], []⟩)])]
noncomputable def co_laws_szStateS_6 : Code := (Ao (A4 Tryz.f122)).getD 0 .skip
def Eb (v0 : List Stt) (v1 : Int) (v5 : Int) : Nat := ((v0.length : Int) - v5).toNat + 1
noncomputable def Hb {R : Type}  (NX : ((List Stt) × (Int) × (Int) × Unit) → Option R) (X2 : ((Int) × Unit) → Option R) (X1 : ((Int) × Unit) → Option R) (v0 : List Stt) (v1 : Int) (v5 : Int) : Option R :=
 bif decide (v5 < nI v0.length) then bif decide (0 ≤ v5) then bif decide (v5 < nI v0.length) then ((G9 (v0.getD v5.toNat ([], ())) v1).bind fun val => some ((val, ()), ())).bind fun val => bif decide (val.1.1 < 0) then X1 (-1, ()) else NX (v0, val.1.1, IntKind.i64.wrap (v5 + 1), ()) else none else none else X2 (v1, ())
noncomputable def B3 : Nat → (List Stt) → (Int) → (Int) →  Option (((Int) × Unit) ⊕ ((Int) × Unit))
 | 0, _, _, _ => none
 | m + 1, v0, v1, v5 => Hb  (fun d => B3 m d.1 d.2.1 d.2.2.1) (fun d => some (.inl (d))) (fun d => some (.inr (d))) v0 v1 v5
noncomputable def O5 (a0 : List Stt) (a1 : Int) : Option ((((Int) × Unit) × (Unit))) :=
 bif decide (IntKind.i64.wrap (a1 - nI a0.length) < 0) then some ((-1, ()), ()) else ((fun d => B3 (Eb d.1 d.2.1 d.2.2.1) d.1 d.2.1 d.2.2.1) (a0, IntKind.i64.wrap (a1 - nI a0.length), 0, ())).bind fun val => Be (fun val => some (val, ())) (fun val => some (val, ())) val
theorem Afp (a0 : List Stt) (a1 : Int) r (h : Jw a0 a1 = some r) : O5 a0 a1 = some ((r, ()), (())) := by
 obtain ⟨hc, g0, g1, rfl⟩ := Lm (t := .sl Bd) h
 obtain ⟨hl0, hall⟩ := Ju hc
 have hl : a0.length < 1152921504606846976 := hl0
 clear hl0 hc
 ·unfold O5
  have hw1 : IntKind.i64.wrap (a1 - nI a0.length) = a1 - (a0.length : Int) := Ag (by simp only [nI]; omega) (by simp only [nI]; omega)
  rw [hw1]
  have hL := Acw (xs := a0) ([], ()) (fun x : Stt => wt Bd x) (g := fun m l i => B3 m a0 l i) (ok := fun l => .inl (l, ())) (bad := .inr (-1, ())) (fun m i l hi h0 h1 => by
   show B3 (m + 1) a0 l i = _
   simp only [B3, Hb]
   rw [Mg hi, Fh, wI (by omega)]
   simp only [cond_true, Int.toNat_natCast]
   have hE : G9 (List.getD (α := Stt) a0 i ([], ())) l = some (if l - (wt Bd (List.getD (α := Stt) a0 i ([], ())) : Int) < 0 then -1 else l - wt Bd (List.getD (α := Stt) a0 i ([], ()))) := by
    exact Qh (t := Bd) (x := (List.getD (α := Stt) a0 i ([], ()))) (hall _ (Kn ([], ()) hi)) h0 h1
   rw [hE]
   by_cases q : l - (wt Bd (List.getD (α := Stt) a0 i ([], ())) : Int) < 0
   ·simp only [if_pos q, decide_eq_true q, Option.bind_some, cond_true]; rfl
   ·simp only [if_neg q, decide_eq_false q, Option.bind_some, cond_false]
  ) (fun m l => by
   show B3 (m + 1) a0 l a0.length = _
   simp only [B3, Hb]
   rw [Hx]
   rfl) (Eb a0 (a1 - (a0.length : Int)) 0) 0 (a1 - (a0.length : Int)) (by omega) (by simp [Eb])
  have hW : wt (.sl Bd) a0 = a0.length + (a0.map (fun x : Stt => wt Bd x)).sum := rfl
  rw [hW]
  by_cases q : a1 - (a0.length : Int) < 0
  ·simp only [decide_eq_true q, cond_true]; rw [if_pos (by omega)]
  ·simp only [decide_eq_false q, cond_false]
   have hL := hL (by omega) (by omega)
   rw [List.drop_zero] at hL
   show (B3 (Eb a0 (a1 - (a0.length : Int)) 0) a0 (a1 - (a0.length : Int)) 0).bind _ = _
   have hL' : B3 (Eb a0 (a1 - (a0.length : Int)) 0) a0 (a1 - (a0.length : Int)) 0 = _ := hL
   rw [hL']
   have hsum : a1 - ((a0.length + (a0.map (fun x : Stt => wt Bd x)).sum : Nat) : Int) = a1 - (a0.length : Int) - ((a0.map (fun x : Stt => wt Bd x)).sum : Int) := by omega
   rw [hsum]
   by_cases q2 : a1 - (a0.length : Int) - ((a0.map (fun x : Stt => wt Bd x)).sum : Int) < 0
   ·simp only [if_pos q2]; rfl
   ·simp only [if_neg q2]; rfl
noncomputable def Sb {R : Type} (k : Kt R) := (Be (Hw (pa_laws_szStateS 6) (.exit 0) 2 k) (Hw (pa_laws_szStateS 6) .ret 1 k))
noncomputable def Xw {R : Type} : Lt R pa_laws_szStateS := (D5 (pat := pa_laws_szStateS) 6 (fun d k => (B3 (Eb d.1 d.2.1 d.2.2.1) d.1 d.2.1 d.2.2.1).bind (Sb k)) Ff)
theorem Vk : Au Tryz.prog ta_laws_szStateS := At ⟨Xu, trivial⟩
theorem Aay {R : Type} : Aw Tryz.prog R 27 0 pa_laws_szStateS Xw co_laws_szStateS_6 :=
 B1 (cfg := ⟨ta_laws_szStateS, 0, 27, pa_laws_szStateS⟩) 6 [] (fun NX X d => Hb  NX (fun e => X (.inl (e))) (fun e => X (.inr (e))) d.1 d.2.1 d.2.2.1) (fun m d => B3 m d.1 d.2.1 d.2.2.1) (fun d => Eb d.1 d.2.1 d.2.2.1) Sb Vk trivial (fun f NX d => by unfold Hb; simp only [Aj, Ap, Ai, Option.bind_assoc, Option.bind_none, Option.bind_some]) (fun _ _ _ => by kernel_rfl)
theorem Afq : Bf Tryz.prog 122 sd_laws_szStateS :=
 Ar (pat := pa_laws_szStateS) [co_laws_szStateS_6] Xw Vk ⟨Aay, trivial⟩ Tryz.func122 (de := fun x => O5 x.1 x.2.1) (fun x r h => A3 (Afp x.1 x.2.1) h) fun _ => by kernel_rfl
def Nr (a : Wld) (left : Int) : Option Int := szM Un a left
def Aiq : Sig := ⟨[.rd Un, .rd tI], [some 16, none], [.rd tI], [none]⟩
noncomputable def sd_laws_szWorld : SD := ⟨Aiq, fun x => (Nr x.1 x.2.1).bind fun r => some ((r, ()), (()))⟩
noncomputable def Qn (a0 : Wld) (a1 : Int) : Option ((((Int) × Unit) × (Unit))) :=
 ((Ln a0.2.1 a1).bind fun val => some ((val, ()), ())).bind fun val => bif decide (val.1.1 < 0) then some ((-1, ()), ()) else ((Ku a0.2.2.2.1 val.1.1).bind fun val => some ((val, ()), ())).bind fun val => bif decide (val.1.1 < 0) then some ((-1, ()), ()) else ((Jw a0.2.2.2.2.1 val.1.1).bind fun val => some ((val, ()), ())).bind fun val => bif decide (val.1.1 < 0) then some ((-1, ()), ()) else ((Es a0.2.2.2.2.2.1 val.1.1).bind fun val => some ((val, ()), ())).bind fun val => bif decide (val.1.1 < 0) then some ((-1, ()), ()) else some val
theorem Air (a0 : Wld) (a1 : Int) r (h : Nr a0 a1 = some r) : Qn a0 a1 = some ((r, ()), (())) := by
 obtain ⟨hc, g0, g1, rfl⟩ := Lm (t := Un) h
 obtain ⟨hc0, hc1, hc2, hc3, hc4, hc5, _⟩ : A2 tI a0.1 = true ∧ A2 P3 a0.2.1 = true ∧ A2 .bool a0.2.2.1 = true ∧ A2 Il a0.2.2.2.1 = true ∧ A2 (.sl Bd) a0.2.2.2.2.1 = true ∧ A2 (.sl .str) a0.2.2.2.2.2.1 = true ∧ True := by
  have s := hc
  obtain ⟨h0, s⟩ := Af s
  obtain ⟨h1, s⟩ := Af s
  obtain ⟨h2, s⟩ := Af s
  obtain ⟨h3, s⟩ := Af s
  obtain ⟨h4, s⟩ := Af s
  obtain ⟨h5, s⟩ := Af s
  exact ⟨h0, h1, h2, h3, h4, h5, trivial⟩
 unfold Qn
 have hwt : (wt Un a0 : Int) = (wt P3 a0.2.1 : Int) + (wt Il a0.2.2.2.1 : Int) + (wt (.sl Bd) a0.2.2.2.2.1 : Int) + (wt (.sl .str) a0.2.2.2.2.2.1 : Int) := by simp only [wt]; omega
 rw [hwt]
 have e0 : Ln a0.2.1 (a1) = some (if a1 - (wt P3 a0.2.1 : Int) < 0 then -1 else a1 - (wt P3 a0.2.1 : Int)) := Qh (t := P3) (x := a0.2.1) hc1 (by omega) (by omega)
 simp only [show Ln a0.2.1 (a1) = _ from e0, Option.bind_some]
 by_cases q0 : a1 - (wt P3 a0.2.1 : Int) < 0
 ·simp only [if_pos q0, show decide ((-1 : Int) < 0) = true from rfl, cond_true]; try rw [if_pos (by omega)]
 ·simp only [if_neg q0, decide_eq_false q0, cond_false]
  have e1 : Ku a0.2.2.2.1 (a1 - (wt P3 a0.2.1 : Int)) = some (if a1 - (wt P3 a0.2.1 : Int) - (wt Il a0.2.2.2.1 : Int) < 0 then -1 else a1 - (wt P3 a0.2.1 : Int) - (wt Il a0.2.2.2.1 : Int)) := Qh (t := Il) (x := a0.2.2.2.1) hc3 (by omega) (by omega)
  simp only [show Ku a0.2.2.2.1 (a1 - (wt P3 a0.2.1 : Int)) = _ from e1, Option.bind_some]
  by_cases q1 : a1 - (wt P3 a0.2.1 : Int) - (wt Il a0.2.2.2.1 : Int) < 0
  ·simp only [if_pos q1, show decide ((-1 : Int) < 0) = true from rfl, cond_true]; try rw [if_pos (by omega)]
  ·simp only [if_neg q1, decide_eq_false q1, cond_false]
   have e2 : Jw a0.2.2.2.2.1 (a1 - (wt P3 a0.2.1 : Int) - (wt Il a0.2.2.2.1 : Int)) = some (if a1 - (wt P3 a0.2.1 : Int) - (wt Il a0.2.2.2.1 : Int) - (wt (.sl Bd) a0.2.2.2.2.1 : Int) < 0 then -1 else a1 - (wt P3 a0.2.1 : Int) - (wt Il a0.2.2.2.1 : Int) - (wt (.sl Bd) a0.2.2.2.2.1 : Int)) := Qh (t := (.sl Bd)) (x := a0.2.2.2.2.1) hc4 (by omega) (by omega)
   simp only [show Jw a0.2.2.2.2.1 (a1 - (wt P3 a0.2.1 : Int) - (wt Il a0.2.2.2.1 : Int)) = _ from e2, Option.bind_some]
   by_cases q2 : a1 - (wt P3 a0.2.1 : Int) - (wt Il a0.2.2.2.1 : Int) - (wt (.sl Bd) a0.2.2.2.2.1 : Int) < 0
   ·simp only [if_pos q2, show decide ((-1 : Int) < 0) = true from rfl, cond_true]; try rw [if_pos (by omega)]
   ·simp only [if_neg q2, decide_eq_false q2, cond_false]
    have e3 : Es a0.2.2.2.2.2.1 (a1 - (wt P3 a0.2.1 : Int) - (wt Il a0.2.2.2.1 : Int) - (wt (.sl Bd) a0.2.2.2.2.1 : Int)) = some (if a1 - (wt P3 a0.2.1 : Int) - (wt Il a0.2.2.2.1 : Int) - (wt (.sl Bd) a0.2.2.2.2.1 : Int) - (wt (.sl .str) a0.2.2.2.2.2.1 : Int) < 0 then -1 else a1 - (wt P3 a0.2.1 : Int) - (wt Il a0.2.2.2.1 : Int) - (wt (.sl Bd) a0.2.2.2.2.1 : Int) - (wt (.sl .str) a0.2.2.2.2.2.1 : Int)) := Qh (t := (.sl .str)) (x := a0.2.2.2.2.2.1) hc5 (by omega) (by omega)
    simp only [show Es a0.2.2.2.2.2.1 (a1 - (wt P3 a0.2.1 : Int) - (wt Il a0.2.2.2.1 : Int) - (wt (.sl Bd) a0.2.2.2.2.1 : Int)) = _ from e3, Option.bind_some]
    by_cases q3 : a1 - (wt P3 a0.2.1 : Int) - (wt Il a0.2.2.2.1 : Int) - (wt (.sl Bd) a0.2.2.2.2.1 : Int) - (wt (.sl .str) a0.2.2.2.2.2.1 : Int) < 0
    ·simp only [if_pos q3, show decide ((-1 : Int) < 0) = true from rfl, cond_true]; try rw [if_pos (by omega)]
    ·simp only [if_neg q3, decide_eq_false q3, cond_false]
     rw [if_neg (by omega)]
     simp only [Int.sub_sub, Int.add_assoc]
theorem Ais : Bf Tryz.prog 34 sd_laws_szWorld :=
 Ar (pat := Ci) [] Ff (At (l := [(15, sd_laws_szStore), (28, sd_laws_szDisk), (103, sd_laws_szStringS), (122, sd_laws_szStateS)]) ⟨Aim, Amt, Tu, Afq, trivial⟩) trivial Tryz.func34 (de := fun x => Qn x.1 x.2.1) (fun x r h => A3 (Air x.1 x.2.1) h) fun _ => by kernel_rfl
def Av (n : Int) : Int := An n
def Amu : Sig := ⟨[.rd tI], [none], [.rd tI], [none]⟩
noncomputable def sd_spec_Halves : SD := ⟨Amu, fun x => some (((Av x.1), ()), (()))⟩
noncomputable def Sc (a0 : Int) : Option ((((Int) × Unit) × (Unit))) :=
 bif decide (a0 < 8) then some ((0, ()), ()) else bif decide (a0 > 200) then some ((0, ()), ()) else some ((IntKind.i64.wrap ((IntKind.i64.wrap (a0 - 2)).tdiv 2), ()), ())
theorem Amv (a0 : Int) : Sc a0 = some (((Av a0), ()), (())) := by
 unfold Sc Av An
 rw [Al6]
 cases h : Eo a0 8 200 with
 | false => rfl
 | true =>
  obtain ⟨h1, h2⟩ := G4 h
  rw [Ahl h1 h2]
  rfl
theorem Ns : Bf Tryz.prog 55 sd_spec_Halves :=
 Ar (pat := Ci) [] Ff (At (l := []) trivial) trivial Tryz.func55 (de := fun x => Sc x.1) (fun x r h => (Amv x.1).trans h) fun _ => by kernel_rfl
def Kv (k : ByteArray) : Bool := M3 k
def Ait : Sig := ⟨[.rd .str], [none], [.rd .bool], [none]⟩
noncomputable def sd_spec_l4KeyOk : SD := ⟨Ait, fun x => some (((Kv x.1), ()), (()))⟩
noncomputable def Qo (a0 : ByteArray) : Option ((((Bool) × Unit) × (Unit))) :=
 bif decide (nI a0.size ≥ 1) then some ((decide (nI a0.size ≤ 20), ()), ()) else some ((false, ()), ())
theorem Aiu (a0 : ByteArray) : Qo a0 = some ((Kv a0, ()), ()) := by
 unfold Qo Kv M3 Eo
 by_cases h : (a0.size : Int) ≥ 1
 ·have : decide ((1 : Int) ≤ (a0.size : Int)) = true := by simpa using h
  simp [nI, this]
 ·have h' : ¬ (1 : Int) ≤ (a0.size : Int) := h
  simp [nI, h']
theorem Xx : Bf Tryz.prog 160 sd_spec_l4KeyOk :=
 Ar (pat := Ci) [] Ff (At (l := []) trivial) trivial Tryz.func160 (de := fun x => Qo x.1) (fun x r h => (Aiu x.1).trans h) fun _ => by kernel_rfl
def Ia (b : List Chg) : Bool := Bg b
def Aaz : Sig := ⟨[.rd (.sl D8)], [none], [.rd .bool], [none]⟩
noncomputable def sd_spec_ValidBatch : SD := ⟨Aaz, fun x => some (((Ia x.1), ()), (()))⟩
noncomputable def ta_spec_ValidBatch : Tb := tb [(160, sd_spec_l4KeyOk)]
def pa_spec_ValidBatch : Nat → Pat × (Nat → Pat) := Fj [(5, ⟨[.sl 0 0 D8], [(0, .lf (.d (.sl D8))), (3, .lf (.d tI))], []⟩, [(2, p0), (1, ⟨[], [(2, .lf (.d .bool))], []⟩)])]
noncomputable def co_spec_ValidBatch_5 : Code := (Ao (A4 Tryz.f79)).getD 0 .skip
def F6 (v0 : List Chg) (v3 : Int) : Nat := ((v0.length : Int) - v3).toNat + 1
noncomputable def F7 {R : Type}  (NX : ((List Chg) × (Int) × Unit) → Option R) (X2 : (Unit) → Option R) (X1 : ((Bool) × Unit) → Option R) (v0 : List Chg) (v3 : Int) : Option R :=
 bif decide (v3 < nI v0.length) then bif decide (0 ≤ v3) then bif decide (v3 < nI v0.length) then bif !Kv (v0.getD v3.toNat (ByteArray.mk #[], ByteArray.mk #[], false, ())).1 then X1 (false, ()) else bif decide (0 ≤ v3) then bif decide (v3 < nI v0.length) then bif decide (nI (ByteArray.size (v0.getD v3.toNat (ByteArray.mk #[], ByteArray.mk #[], false, ())).2.1) > 100) then X1 (false, ()) else bif decide (0 ≤ v3) then bif decide (v3 < nI v0.length) then bif (v0.getD v3.toNat (ByteArray.mk #[], ByteArray.mk #[], false, ())).2.2.1 then bif decide (0 ≤ v3) then bif decide (v3 < nI v0.length) then bif !ByteArray.toList (v0.getD v3.toNat (ByteArray.mk #[], ByteArray.mk #[], false, ())).2.1 == (ByteArray.mk #[]).toList then X1 (false, ()) else NX (v0, IntKind.i64.wrap (v3 + 1), ()) else none else none else NX (v0, IntKind.i64.wrap (v3 + 1), ()) else none else none else none else none else none else none else X2 PUnit.unit
noncomputable def Cb : Nat → (List Chg) → (Int) →  Option ((Unit) ⊕ ((Bool) × Unit))
 | 0, _, _ => none
 | m + 1, v0, v3 => F7  (fun d => Cb m d.1 d.2.1) (fun d => some (.inl (d))) (fun d => some (.inr (d))) v0 v3
noncomputable def Ml (a0 : List Chg) : Option ((((Bool) × Unit) × (Unit))) :=
 bif decide (nI a0.length < 1) then some ((false, ()), ()) else bif decide (nI a0.length > 20) then some ((false, ()), ()) else ((fun d => Cb (F6 d.1 d.2.1) d.1 d.2.1) (a0, 0, ())).bind fun val => Be (fun val => some ((true, ()), ())) (fun val => some (val, ())) val
theorem Aa0 (a0 : List Chg) : Ml a0 = some (((Ia a0), ()), (())) := by
 unfold Ml Ia Bg
 have tl : ByteArray.toList (ByteArray.mk #[]) = [] := by decide +kernel
 rw [Al6 (nI (List.length a0))]
 show (bif Eo (a0.length : Int) 1 20 then _ else _) = _
 cases hin : Eo (a0.length : Int) 1 20 with
 | false => rfl
 | true =>
  have hlen : a0.length ≤ 20 := by have := (G4 hin).2; omega
  have hL := Ix (n := a0.length) (fun i => Nk (a0.getD i zC)) (g := fun m i => Cb m a0 i) (ok := .inl ()) (bad := .inr (false, ())) (fun m i hi => by
   show Cb (m + 1) a0 i = _
   simp only [Cb, F7]
   rw [tl, Mg hi, Fh, wI (show i < 4611686018427387904 by omega), Int.toNat_natCast]
   have g1 : decide (nI (ByteArray.size (List.getD a0 i (ByteArray.mk #[], ByteArray.mk #[], false, ())).2.1) > 100) = !decide ((a0.getD i zC).2.1.size ≤ 100) := Zj _ 100
   rw [g1]
   show (bif !M3 (a0.getD i zC).1 then _ else (bif _ then _ else (bif (a0.getD i zC).2.2.1 then (bif !((a0.getD i zC).2.1.toList == []) then _ else _) else _))) = _
   unfold Nk
   cases M3 (a0.getD i zC).1 <;> cases decide ((a0.getD i zC).2.1.size ≤ 100) <;> cases (a0.getD i zC).2.2.1 <;> cases ((a0.getD i zC).2.1.toList == []) <;> rfl) (fun m => by
   show Cb (m + 1) a0 (a0.length : Int) = _
   simp only [Cb, F7]
   rw [Hx]
   rfl) (F6 a0 0) 0 (by omega) (by simp [F6, nI])
  refine Xr hL ?_
  rw [Nat.sub_zero]
  cases (List.range' 0 a0.length).all (fun i => Nk (a0.getD i zC)) <;> rfl
noncomputable def P6 {R : Type} (k : Kt R) := (Be (Hw (pa_spec_ValidBatch 5) (.exit 0) 2 k) (Hw (pa_spec_ValidBatch 5) .ret 1 k))
noncomputable def Tv {R : Type} : Lt R pa_spec_ValidBatch := (D5 (pat := pa_spec_ValidBatch) 5 (fun d k => (Cb (F6 d.1 d.2.1) d.1 d.2.1).bind (P6 k)) Ff)
theorem Sd : Au Tryz.prog ta_spec_ValidBatch := At ⟨Xx, trivial⟩
theorem Zs {R : Type} : Aw Tryz.prog R 49 0 pa_spec_ValidBatch Tv co_spec_ValidBatch_5 :=
 B1 (cfg := ⟨ta_spec_ValidBatch, 0, 49, pa_spec_ValidBatch⟩) 5 [] (fun NX X d => F7  NX (fun e => X (.inl (e))) (fun e => X (.inr (e))) d.1 d.2.1) (fun m d => Cb m d.1 d.2.1) (fun d => F6 d.1 d.2.1) P6 Sd trivial (fun f NX d => by unfold F7; simp only [Aj, Ap, Ai, Option.bind_assoc, Option.bind_none, Option.bind_some]) (fun _ _ _ => by kernel_rfl)
theorem Se : Bf Tryz.prog 79 sd_spec_ValidBatch :=
 Ar (pat := pa_spec_ValidBatch) [co_spec_ValidBatch_5] Tv Sd ⟨Zs, trivial⟩ Tryz.func79 (de := fun x => Ml x.1) (fun x r h => (Aa0 x.1).trans h) fun _ => by kernel_rfl
def Et (b : List Chg) : ByteArray := F4 b
def Ac7 : Sig := ⟨[.rd (.sl D8)], [none], [.rd .str], [none]⟩
noncomputable def sd_spec_FormBatch : SD := ⟨Ac7, fun x => some (((Et x.1), ()), (()))⟩
noncomputable def ta_spec_FormBatch : Tb := tb [(79, sd_spec_ValidBatch)]
def pa_spec_FormBatch : Nat → Pat × (Nat → Pat) := Fj [(6, ⟨[.sl 0 0 D8, .row 3 0 5 (.int .u8)], [(0, .lf (.d (.sl D8))), (3, .lf (.row 0)), (4, .lf (.d tI))], [.row 5 (.int .u8)]⟩, [(2, ⟨[.row 3 0 5 (.int .u8)], [(3, .lf (.row 0))], [.row 5 (.int .u8)]⟩)])]
noncomputable def co_spec_FormBatch_6 : Code := (Ao (A4 Tryz.f82)).getD 0 .skip
def Gs (v0 : List Chg) (v4 : Int) (r0 : List Int) : Nat := ((v0.length : Int) - v4).toNat + 1
noncomputable def Gt {R : Type}  (NX : ((List Chg) × (Int) × (List Int) × Unit) → Option R) (X2 : ((List Int) × Unit) → Option R) (v0 : List Chg) (v4 : Int) (r0 : List Int) : Option R :=
 bif decide (v4 < nI v0.length) then bif decide (0 ≤ v4) then bif decide (v4 < nI v0.length) then bif (v0.getD v4.toNat (ByteArray.mk #[], ByteArray.mk #[], false, ())).2.2.1 then bif decide (0 ≤ v4) then bif decide (v4 < nI v0.length) then bif decide ((r0.length + [1, IntKind.u8.wrap (nI (ByteArray.size (v0.getD v4.toNat (ByteArray.mk #[], ByteArray.mk #[], false, ())).1))].length) * 1 ≤ 140737488355328) then bif decide (0 ≤ v4) then bif decide (v4 < nI v0.length) then bif decide ((r0 ++ [1, IntKind.u8.wrap (nI (ByteArray.size (v0.getD v4.toNat (ByteArray.mk #[], ByteArray.mk #[], false, ())).1))]).length + ByteArray.size (v0.getD v4.toNat (ByteArray.mk #[], ByteArray.mk #[], false, ())).1 ≤ 140737488355328) then NX (v0, IntKind.i64.wrap (v4 + 1), r0 ++ [1, IntKind.u8.wrap (nI (ByteArray.size (v0.getD v4.toNat (ByteArray.mk #[], ByteArray.mk #[], false, ())).1))] ++ Aa (v0.getD v4.toNat (ByteArray.mk #[], ByteArray.mk #[], false, ())).1, ()) else none else none else none else none else none else none else bif decide (0 ≤ v4) then bif decide (v4 < nI v0.length) then bif decide ((r0.length + [0, IntKind.u8.wrap (nI (ByteArray.size (v0.getD v4.toNat (ByteArray.mk #[], ByteArray.mk #[], false, ())).1))].length) * 1 ≤ 140737488355328) then bif decide (0 ≤ v4) then bif decide (v4 < nI v0.length) then bif decide ((r0 ++ [0, IntKind.u8.wrap (nI (ByteArray.size (v0.getD v4.toNat (ByteArray.mk #[], ByteArray.mk #[], false, ())).1))]).length + ByteArray.size (v0.getD v4.toNat (ByteArray.mk #[], ByteArray.mk #[], false, ())).1 ≤ 140737488355328) then bif decide (0 ≤ v4) then bif decide (v4 < nI v0.length) then bif decide (((r0 ++ [0, IntKind.u8.wrap (nI (ByteArray.size (v0.getD v4.toNat (ByteArray.mk #[], ByteArray.mk #[], false, ())).1))] ++ Aa (v0.getD v4.toNat (ByteArray.mk #[], ByteArray.mk #[], false, ())).1).length + [IntKind.u8.wrap (nI (ByteArray.size (v0.getD v4.toNat (ByteArray.mk #[], ByteArray.mk #[], false, ())).2.1))].length) * 1 ≤ 140737488355328) then bif decide (0 ≤ v4) then bif decide (v4 < nI v0.length) then bif decide ((r0 ++ [0, IntKind.u8.wrap (nI (ByteArray.size (v0.getD v4.toNat (ByteArray.mk #[], ByteArray.mk #[], false, ())).1))] ++ Aa (v0.getD v4.toNat (ByteArray.mk #[], ByteArray.mk #[], false, ())).1 ++ [IntKind.u8.wrap (nI (ByteArray.size (v0.getD v4.toNat (ByteArray.mk #[], ByteArray.mk #[], false, ())).2.1))]).length + ByteArray.size (v0.getD v4.toNat (ByteArray.mk #[], ByteArray.mk #[], false, ())).2.1 ≤ 140737488355328) then NX (v0, IntKind.i64.wrap (v4 + 1), r0 ++ [0, IntKind.u8.wrap (nI (ByteArray.size (v0.getD v4.toNat (ByteArray.mk #[], ByteArray.mk #[], false, ())).1))] ++ Aa (v0.getD v4.toNat (ByteArray.mk #[], ByteArray.mk #[], false, ())).1 ++ [IntKind.u8.wrap (nI (ByteArray.size (v0.getD v4.toNat (ByteArray.mk #[], ByteArray.mk #[], false, ())).2.1))] ++ Aa (v0.getD v4.toNat (ByteArray.mk #[], ByteArray.mk #[], false, ())).2.1, ()) else none else none else none else none else none else none else none else none else none else none else none else none else none else none else X2 (r0, ())
noncomputable def Cl : Nat → (List Chg) → (Int) → (List Int) →  Option ((List Int) × Unit)
 | 0, _, _, _ => none
 | m + 1, v0, v4, r0 => Gt  (fun d => Cl m d.1 d.2.1 d.2.2.1) (fun d => some (d)) v0 v4 r0
noncomputable def Nt (a0 : List Chg) : Option ((((ByteArray) × Unit) × (Unit))) :=
 bif !Ia a0 then some ((ByteArray.mk #[], ()), ()) else ((fun d => Cl (Gs d.1 d.2.1 d.2.2.1) d.1 d.2.1 d.2.2.1) (a0, 0, [], ())).bind fun val => some ((strOfNums val.1, ()), ())
theorem Ac8 (a0 : List Chg) : Nt a0 = some ((Et a0, ()), (())) := by
 unfold Nt Et F4
 show (bif !Bg a0 then _ else _) = _
 cases hv : Bg a0 with
 | false => rfl
 | true =>
  obtain ⟨hlen, hok⟩ := Pw hv
  have hL := l7 a0.length Al8 (fun i r => r ++ Re (a0.getD i zC)) (g := fun m i r => Cl m a0 i r) (ok := fun r => (r, ())) (fun m i r hi hr => by
   show Cl (m + 1) a0 i r = _
   simp only [Cl, Gt]
   have hc := hok i hi
   obtain ⟨k1, k2, k3⟩ := l8 hc
   rw [Mg hi, Fh, wI (show i < 4611686018427387904 by omega), Int.toNat_natCast]
   have hr1 := hr.1
   have eC : List.getD a0 i (ByteArray.mk #[], ByteArray.mk #[], false, ()) = a0.getD i zC := rfl
   rw [eC]
   generalize a0.getD i zC = c at *
   rw [A30 _ (show c.1.size < 256 by omega), A30 _ (show c.2.1.size < 256 by omega)]
   simp only [List.length_append, List.length_cons, List.length_nil, Cx]
   rw [decide_eq_true (show (r.length + (0 + 1 + 1)) * 1 ≤ 140737488355328 by omega), decide_eq_true (show r.length + (0 + 1 + 1) + c.1.size ≤ 140737488355328 by omega), decide_eq_true (show (r.length + (0 + 1 + 1) + c.1.size + (0 + 1)) * 1 ≤ 140737488355328 by omega), decide_eq_true (show r.length + (0 + 1 + 1) + c.1.size + (0 + 1) + c.2.1.size ≤ 140737488355328 by omega)]
   unfold Re
   simp only [cond_true]
   cases c.2.2.1 <;> simp only [cond_true, cond_false, List.append_assoc]) (fun m r _ => by
   show Cl (m + 1) a0 (a0.length : Int) r = _
   simp only [Cl, Gt]
   rw [Hx]
   rfl) (fun i r hi hr => hr.step (hok i hi)) a0.length (Gs a0 0 []) 0 [] (by omega) (by simp [Gs, nI]) ⟨by simp, rfl⟩
  rw [Al7 Re zC a0 a0.length 0 [] (by omega), List.nil_append, List.drop_zero] at hL
  refine Xr hL ?_
  rfl
noncomputable def Q2 {R : Type} (k : Kt R) := (Hw (pa_spec_FormBatch 6) (.exit 0) 2 k)
noncomputable def Vm {R : Type} : Lt R pa_spec_FormBatch := (D5 (pat := pa_spec_FormBatch) 6 (fun d k => (Cl (Gs d.1 d.2.1 d.2.2.1) d.1 d.2.1 d.2.2.1).bind (Q2 k)) Ff)
theorem Tw : Au Tryz.prog ta_spec_FormBatch := At ⟨Se, trivial⟩
theorem n0 {R : Type} : Aw Tryz.prog R 70 0 pa_spec_FormBatch Vm co_spec_FormBatch_6 :=
 B1 (cfg := ⟨ta_spec_FormBatch, 0, 70, pa_spec_FormBatch⟩) 6 [] (fun NX X d => Gt  NX X d.1 d.2.1 d.2.2.1) (fun m d => Cl m d.1 d.2.1 d.2.2.1) (fun d => Gs d.1 d.2.1 d.2.2.1) Q2 Tw trivial (fun f NX d => by unfold Gt; simp only [Aj, Ap, Ai, Option.bind_assoc, Option.bind_none, Option.bind_some]) (fun _ _ _ => by kernel_rfl)
theorem Nu : Bf Tryz.prog 82 sd_spec_FormBatch :=
 Ar (pat := pa_spec_FormBatch) [co_spec_FormBatch_6] Vm Tw ⟨n0, trivial⟩ Tryz.func82 (de := fun x => Nt x.1) (fun x r h => (Ac8 x.1).trans h) fun _ => by kernel_rfl
def Du (s : Stt) : Bool := Aq s
def Aa1 : Sig := ⟨[.rd Bd], [some 1], [.rd .bool], [none]⟩
noncomputable def sd_spec_ValidState : SD := ⟨Aa1, fun x => some (((Du x.1), ()), (()))⟩
noncomputable def ta_spec_ValidState : Tb := tb [(160, sd_spec_l4KeyOk)]
def pa_spec_ValidState : Nat → Pat × (Nat → Pat) := Fj [(5, ⟨[.boxSl 1 0 Ak], [(1, .lf (.ptr 0 0)), (3, .lf (.d tI))], [.box 31 [.d (.sl Ak)]]⟩, [(2, p0), (1, ⟨[], [(2, .lf (.d .bool))], []⟩)])]
noncomputable def co_spec_ValidState_5 : Code := (Ao (A4 Tryz.f73)).getD 0 .skip
def C5 (v3 : Int) (b0_0 : List Pr2) : Nat := ((b0_0.length : Int) - v3).toNat + 1
noncomputable def F8 {R : Type}  (NX : ((Int) × (List Pr2) × Unit) → Option R) (X2 : (Unit) → Option R) (X1 : ((Bool) × Unit) → Option R) (v3 : Int) (b0_0 : List Pr2) : Option R :=
 bif decide (v3 < nI b0_0.length) then bif decide (0 ≤ v3) then bif decide (v3 < nI b0_0.length) then bif !Kv (b0_0.getD v3.toNat (ByteArray.mk #[], ByteArray.mk #[], ())).1 then X1 (false, ()) else bif decide (0 ≤ v3) then bif decide (v3 < nI b0_0.length) then bif decide (nI (ByteArray.size (b0_0.getD v3.toNat (ByteArray.mk #[], ByteArray.mk #[], ())).2.1) > 100) then X1 (false, ()) else bif decide (v3 > 0) then bif decide (0 ≤ IntKind.i64.wrap (v3 - 1)) then bif decide (IntKind.i64.wrap (v3 - 1) < nI b0_0.length) then bif decide (0 ≤ v3) then bif decide (v3 < nI b0_0.length) then bif !Op.bytesLess (ByteArray.toList (b0_0.getD (IntKind.i64.wrap (v3 - 1)).toNat (ByteArray.mk #[], ByteArray.mk #[], ())).1) (ByteArray.toList (b0_0.getD v3.toNat (ByteArray.mk #[], ByteArray.mk #[], ())).1) then X1 (false, ()) else NX (IntKind.i64.wrap (v3 + 1), b0_0, ()) else none else none else none else none else NX (IntKind.i64.wrap (v3 + 1), b0_0, ()) else none else none else none else none else X2 PUnit.unit
noncomputable def Bq : Nat → (Int) → (List Pr2) →  Option ((Unit) ⊕ ((Bool) × Unit))
 | 0, _, _ => none
 | m + 1, v3, b0_0 => F8  (fun d => Bq m d.1 d.2.1) (fun d => some (.inl (d))) (fun d => some (.inr (d))) v3 b0_0
noncomputable def Mm (a0 : Stt) : Option ((((Bool) × Unit) × (Unit))) :=
 bif decide (nI (List.length a0.1) > 100) then some ((false, ()), ()) else ((fun d => Bq (C5 d.1 d.2.1) d.1 d.2.1) (0, a0)).bind fun val => Be (fun val => some ((true, ()), ())) (fun val => some (val, ())) val
theorem Aa2 (a0 : Stt) : Mm a0 = some ((Du a0, ()), ()) := by
 unfold Mm Du Aq
 have c1 : decide (nI a0.1.length > 100) = !decide (a0.1.length ≤ 100) := Zj _ 100
 by_cases hl : a0.1.length ≤ 100
 ·have hL := Ix (n := a0.1.length) (Km a0.1) (g := fun m i => Bq m i a0.1) (ok := .inl ()) (bad := .inr (false, ())) (fun m i hi => by
   show Bq (m + 1) i a0.1 = _
   simp only [Bq, F8]
   have g1 : decide (nI (ByteArray.size (List.getD a0.1 i (ByteArray.mk #[], ByteArray.mk #[], ())).2.1) > 100) = !decide (ByteArray.size (List.getD a0.1 i zP).2.1 ≤ 100) := Zj _ 100
   rw [Mg hi, Fh, wI (show i < 4611686018427387904 by omega), Int.toNat_natCast, gt0, g1]
   simp only [cond_true]
   unfold Km bl
   show (bif !M3 (List.getD a0.1 i zP).1 then _ else _) = _
   cases i with
   | zero =>
    show (bif !M3 (List.getD a0.1 0 zP).1 then _ else bif !decide (ByteArray.size (List.getD a0.1 0 zP).2.1 ≤ 100) then _ else _) = _
    cases M3 (List.getD a0.1 0 zP).1 <;> cases decide (ByteArray.size (List.getD a0.1 0 zP).2.1 ≤ 100) <;> rfl
   | succ j =>
    rw [wP j (by omega), Fh, Mg (show j < a0.1.length by omega)]
    show (bif !M3 (List.getD a0.1 (j + 1) zP).1 then _ else bif !decide (ByteArray.size (List.getD a0.1 (j + 1) zP).2.1 ≤ 100) then _ else bif !Op.bytesLess (ByteArray.toList (List.getD a0.1 j zP).1) (ByteArray.toList (List.getD a0.1 (j + 1) zP).1) then _ else _) = _
    rw [Nat.add_sub_cancel]
    cases M3 (List.getD a0.1 (j + 1) zP).1 <;> cases decide (ByteArray.size (List.getD a0.1 (j + 1) zP).2.1 ≤ 100) <;> cases Op.bytesLess (ByteArray.toList (List.getD a0.1 j zP).1) (ByteArray.toList (List.getD a0.1 (j + 1) zP).1) <;> rfl) (fun m => by
   show Bq (m + 1) (a0.1.length : Int) a0.1 = _
   simp only [Bq, F8]
   rw [Hx]
   rfl) (C5 0 a0.1) 0 (by omega) (by simp [C5, nI])
  have hL' : Bq (C5 0 a0.1) 0 a0.1 = _ := hL
  rw [c1, decide_eq_true hl]
  show (Bq (C5 0 a0.1) 0 a0.1).bind _ = _
  rw [hL']
  cases (List.range' 0 (a0.1.length - 0)).all (Km a0.1) <;> rfl
 ·rw [c1, decide_eq_false hl]
  rfl
noncomputable def P7 {R : Type} (k : Kt R) := (Be (Hw (pa_spec_ValidState 5) (.exit 0) 2 k) (Hw (pa_spec_ValidState 5) .ret 1 k))
noncomputable def Tx {R : Type} : Lt R pa_spec_ValidState := (D5 (pat := pa_spec_ValidState) 5 (fun d k => (Bq (C5 d.1 d.2.1) d.1 d.2.1).bind (P7 k)) Ff)
theorem Sf : Au Tryz.prog ta_spec_ValidState := At ⟨Xx, trivial⟩
theorem Zt {R : Type} : Aw Tryz.prog R 53 0 pa_spec_ValidState Tx co_spec_ValidState_5 :=
 B1 (cfg := ⟨ta_spec_ValidState, 0, 53, pa_spec_ValidState⟩) 5 [] (fun NX X d => F8  NX (fun e => X (.inl (e))) (fun e => X (.inr (e))) d.1 d.2.1) (fun m d => Bq m d.1 d.2.1) (fun d => C5 d.1 d.2.1) P7 Sf trivial (fun f NX d => by unfold F8; simp only [Aj, Ap, Ai, Option.bind_assoc, Option.bind_none, Option.bind_some]) (fun _ _ _ => by kernel_rfl)
theorem Jj : Bf Tryz.prog 73 sd_spec_ValidState :=
 Ar (pat := pa_spec_ValidState) [co_spec_ValidState_5] Tx Sf ⟨Zt, trivial⟩ Tryz.func73 (de := fun x => Mm x.1) (fun x r h => (Aa2 x.1).trans h) fun _ => by kernel_rfl
def H1 (s : Stt) : List (List Chg) := Dg s
def Afr : Sig := ⟨[.rd Bd], [some 1], [.rd (.sl (.sl D8))], [none]⟩
noncomputable def sd_spec_Snapshot : SD := ⟨Afr, fun x => some (((H1 x.1), ()), (()))⟩
noncomputable def ta_spec_Snapshot : Tb := tb [(73, sd_spec_ValidState)]
def pa_spec_Snapshot : Nat → Pat × (Nat → Pat) := Fj [(6, ⟨[.last 3 131 D8, .boxSl 1 0 Ak], [(1, .lf (.ptr 0 0)), (3, .lf (.row 1)), (4, .lf (.d tI))], [.box 31 [.d (.sl Ak)], .last 59 D8 2, .row 131 D8]⟩, [(2, ⟨[.last 3 131 D8], [(3, .lf (.row 0))], [.last 59 D8 1, .row 131 D8]⟩)])]
noncomputable def co_spec_Snapshot_6 : Code := (Ao (A4 Tryz.f140)).getD 0 .skip
def Ec (v4 : Int) (b0_0 : List Pr2) (r1 : List (List Chg)) (c1 : Bool) (r2 : List Chg) : Nat := ((b0_0.length : Int) - v4).toNat + 1
noncomputable def Hc {R : Type}  (NX : ((Int) × (List Pr2) × (List (List Chg)) × (Bool) × (List Chg) × Unit) → Option R) (X2 : ((List (List Chg)) × (Bool) × (List Chg) × Unit) → Option R) (v4 : Int) (b0_0 : List Pr2) (r1 : List (List Chg)) (c1 : Bool) (r2 : List Chg) : Option R :=
 bif decide (v4 < nI b0_0.length) then bif v4.tmod 20 == 0 then bif decide ((r1.length + c1.toNat + 1) * 24 ≤ 140737488355328) then bif decide (0 ≤ IntKind.i64.wrap (nI ((bif c1 then r1 ++ [r2] else r1).length + true.toNat) - 1)) then bif decide (IntKind.i64.wrap (nI ((bif c1 then r1 ++ [r2] else r1).length + true.toNat) - 1) < nI ((bif c1 then r1 ++ [r2] else r1).length + true.toNat)) then bif decide ((IntKind.i64.wrap (nI ((bif c1 then r1 ++ [r2] else r1).length + true.toNat) - 1)).toNat = (bif c1 then r1 ++ [r2] else r1).length) then bif decide (0 ≤ v4) then bif decide (v4 < nI b0_0.length) then bif decide (0 ≤ v4) then bif decide (v4 < nI b0_0.length) then bif decide (0 ≤ IntKind.i64.wrap (nI ((bif c1 then r1 ++ [r2] else r1).length + true.toNat) - 1)) then bif decide (IntKind.i64.wrap (nI ((bif c1 then r1 ++ [r2] else r1).length + true.toNat) - 1) < nI ((bif c1 then r1 ++ [r2] else r1).length + true.toNat)) then bif decide ((IntKind.i64.wrap (nI ((bif c1 then r1 ++ [r2] else r1).length + true.toNat) - 1)).toNat = (bif c1 then r1 ++ [r2] else r1).length) then NX (IntKind.i64.wrap (v4 + 1), b0_0, bif c1 then r1 ++ [r2] else r1, true, [] ++ [((b0_0.getD v4.toNat (ByteArray.mk #[], ByteArray.mk #[], ())).1, (b0_0.getD v4.toNat (ByteArray.mk #[], ByteArray.mk #[], ())).2.1, false, ())], ()) else none else none else none else none else none else none else none else none else none else none else none else bif decide (0 ≤ IntKind.i64.wrap (nI (r1.length + c1.toNat) - 1)) then bif decide (IntKind.i64.wrap (nI (r1.length + c1.toNat) - 1) < nI (r1.length + c1.toNat)) then bif c1 then bif decide ((IntKind.i64.wrap (nI (r1.length + c1.toNat) - 1)).toNat = r1.length) then bif decide (0 ≤ v4) then bif decide (v4 < nI b0_0.length) then bif decide (0 ≤ v4) then bif decide (v4 < nI b0_0.length) then bif decide ((r2.length + [((b0_0.getD v4.toNat (ByteArray.mk #[], ByteArray.mk #[], ())).1, (b0_0.getD v4.toNat (ByteArray.mk #[], ByteArray.mk #[], ())).2.1, false, ())].length) * 40 ≤ 140737488355328) then bif decide (0 ≤ IntKind.i64.wrap (nI (r1.length + c1.toNat) - 1)) then bif decide (IntKind.i64.wrap (nI (r1.length + c1.toNat) - 1) < nI (r1.length + c1.toNat)) then bif c1 then bif decide ((IntKind.i64.wrap (nI (r1.length + c1.toNat) - 1)).toNat = r1.length) then NX (IntKind.i64.wrap (v4 + 1), b0_0, r1, c1, r2 ++ [((b0_0.getD v4.toNat (ByteArray.mk #[], ByteArray.mk #[], ())).1, (b0_0.getD v4.toNat (ByteArray.mk #[], ByteArray.mk #[], ())).2.1, false, ())], ()) else none else none else none else none else none else none else none else none else none else none else none else none else none else X2 (r1, c1, r2, ())
noncomputable def B4 : Nat → (Int) → (List Pr2) → (List (List Chg)) → (Bool) → (List Chg) →  Option ((List (List Chg)) × (Bool) × (List Chg) × Unit)
 | 0, _, _, _, _, _ => none
 | m + 1, v4, b0_0, r1, c1, r2 => Hc  (fun d => B4 m d.1 d.2.1 d.2.2.1 d.2.2.2.1 d.2.2.2.2.1) (fun d => some (d)) v4 b0_0 r1 c1 r2
noncomputable def O6 (a0 : Stt) : Option ((((List (List Chg)) × Unit) × (Unit))) :=
 bif !Du a0 then some (([], ()), ()) else ((fun d => B4 (Ec d.1 d.2.1 d.2.2.1 d.2.2.2.1 d.2.2.2.2.1) d.1 d.2.1 d.2.2.1 d.2.2.2.1 d.2.2.2.2.1) (0, a0.1, [], false, [], ())).bind fun val => some ((bif val.2.1 then val.1 ++ [val.2.2.1] else val.1, ()), ())
theorem Afs (a0 : Stt) : O6 a0 = some (((H1 a0), ()), (())) := by
 unfold O6 H1 Dg
 show (bif !Aq a0 then _ else _) = _
 cases hv : Aq a0 with
 | false => rfl
 | true =>
  have hl := D2 hv
  have hL := Fq (xs := a0.1) zP Aq5 P4 (g := fun m i s => B4 m i a0.1 s.1 s.2.1 s.2.2) (ok := fun s => (s.1, s.2.1, s.2.2, ())) (fun m i s hi hI => by
   show B4 (m + 1) i a0.1 s.1 s.2.1 s.2.2 = _
   obtain ⟨r0, c0, r1⟩ := s
   obtain ⟨h1, h2, h3, h4⟩ := hI
   simp only at h2 h3 h4 ⊢
   simp only [B4, Hc]
   rw [Mg hi, Fh, wI (show i < 4611686018427387904 by omega), Int.toNat_natCast, A12]
   unfold P4
   cases hc : (i % 20 == 0)
   ·have hp : 0 < i := Nat.pos_of_ne_zero fun q => by subst q; cases hc
    have hc0 := h3 hp
    subst hc0
    have e1 := Asj r0.length (by omega)
    have e2 : decide ((r0.length : Int) < nI (r0.length + 1)) = true := Mg (Nat.lt_succ_self _)
    have e3 : decide ((r1.length + 1) * 40 ≤ 140737488355328) = true := decide_eq_true (by omega)
    simp only [Bool.toNat_true, List.length_singleton, cond_true, cond_false, e1, e2, e3, Fh, Int.toNat_natCast, decide_true]
    rfl
   ·have hL : List.length (bif c0 then r0 ++ [r1] else r0) ≤ i + 1 := by cases c0 <;> simp <;> omega
    have e1 := Asj (List.length (bif c0 then r0 ++ [r1] else r0)) (by omega)
    have e2 : decide (((List.length (bif c0 then r0 ++ [r1] else r0) : Nat) : Int) < nI (List.length (bif c0 then r0 ++ [r1] else r0) + 1)) = true := Mg (Nat.lt_succ_self _)
    have e3 : decide ((r0.length + Bool.toNat c0 + 1) * 24 ≤ 140737488355328) = true := decide_eq_true (by cases c0 <;> simp <;> omega)
    simp only [Bool.toNat_true, cond_true, e1, e2, e3, Fh, Int.toNat_natCast, decide_true]
    rfl) (fun i s hi hI => hI.step (by omega) _) (fun m s hI => by
   show B4 (m + 1) (a0.1.length : Int) a0.1 s.1 s.2.1 s.2.2 = _
   simp only [B4, Hc]
   rw [Hx]
   rfl) (Ec 0 a0.1 [] false []) 0 ([], false, []) (by omega) (by simp [Ec, nI]) ⟨by omega, by simp, fun q => by omega, by simp⟩
  have hL' : B4 (Ec 0 a0.1 [] false []) 0 a0.1 [] false [] = _ := hL
  show (B4 (Ec 0 a0.1 [] false []) 0 a0.1 [] false []).bind _ = _
  rw [hL']
  rfl
noncomputable def Sg {R : Type} (k : Kt R) := (Hw (pa_spec_Snapshot 6) (.exit 0) 2 k)
noncomputable def Xy {R : Type} : Lt R pa_spec_Snapshot := (D5 (pat := pa_spec_Snapshot) 6 (fun d k => (B4 (Ec d.1 d.2.1 d.2.2.1 d.2.2.2.1 d.2.2.2.2.1) d.1 d.2.1 d.2.2.1 d.2.2.2.1 d.2.2.2.2.1).bind (Sg k)) Ff)
theorem Vn : Au Tryz.prog ta_spec_Snapshot := At ⟨Jj, trivial⟩
theorem Aa3 {R : Type} : Aw Tryz.prog R 51 0 pa_spec_Snapshot Xy co_spec_Snapshot_6 :=
 B1 (cfg := ⟨ta_spec_Snapshot, 0, 51, pa_spec_Snapshot⟩) 6 [] (fun NX X (d : (Int) × (List Pr2) × (List (List Chg)) × (Bool) × (List Chg) × Unit) => Hc  NX X d.1 d.2.1 d.2.2.1 d.2.2.2.1 d.2.2.2.2.1) (fun m d => B4 m d.1 d.2.1 d.2.2.1 d.2.2.2.1 d.2.2.2.2.1) (fun d => Ec d.1 d.2.1 d.2.2.1 d.2.2.2.1 d.2.2.2.2.1) Sg Vn trivial (fun f NX (d : (Int) × (List Pr2) × (List (List Chg)) × (Bool) × (List Chg) × Unit) => by unfold Hc; simp only [Aj, Ap, Ai, Option.bind_assoc, Option.bind_none, Option.bind_some]) (fun _ _ _ => by kernel_rfl)
theorem Vo : Bf Tryz.prog 140 sd_spec_Snapshot :=
 Ar (pat := pa_spec_Snapshot) [co_spec_Snapshot_6] Xy Vn ⟨Aa3, trivial⟩ Tryz.func140 (de := fun x => O6 x.1) (fun x r h => (Afs x.1).trans h) fun _ => by kernel_rfl
def Aiv : Sig := ⟨[.rd tI], [none], [.rd .bool], [none]⟩
noncomputable def Xz (a0 : Int) : Option ((((Bool) × Unit) × (Unit))) :=
 bif decide (a0 ≥ 1) then some ((decide (a0 ≤ 8), ()), ()) else some ((false, ()), ())
noncomputable def sd_spec_l1Width : SD := ⟨Aiv, fun x => Xz x.1⟩
theorem Db : Bf Tryz.prog 69 sd_spec_l1Width :=
 Ar (pat := Ci) [] Ff (At (l := []) trivial) trivial Tryz.func69 (de := fun x => Xz x.1) (fun x r h => h) fun _ => by kernel_rfl
def Amw : Sig := ⟨[.rd tI], [none], [.rd tI], [none]⟩
noncomputable def Zu (a0 : Int) : Option ((((Int) × Unit) × (Unit))) :=
 some ((IntKind.i64.wrap (IntKind.i64.wrap (64 - a0) - 8), ()), ())
noncomputable def sd_spec_l1Part : SD := ⟨Amw, fun x => Zu x.1⟩
theorem Sh : Bf Tryz.prog 74 sd_spec_l1Part :=
 Ar (pat := Ci) [] Ff (At (l := []) trivial) trivial Tryz.func74 (de := fun x => Zu x.1) (fun x r h => h) fun _ => by kernel_rfl
def Hd (s : ByteArray) (w : Int) : Option (List ByteArray) := if s.size ≤ 1099511627776 ∧ 1 ≤ w ∧ w ≤ 8 then some (Cs s w) else none
def Ib (v0 : ByteArray) (v6 : Int) (r0 : List ByteArray) : Nat := v0.size + 1
def Aiw : Sig := ⟨[.rd .str, .rd tI], [none, none], [.own 9 .str], [none]⟩
noncomputable def sd_spec_l3Parts : SD := ⟨Aiw, fun x => (Hd x.1 x.2.1).bind fun r => some ((r, ()), (()))⟩
noncomputable def ta_spec_l3Parts : Tb := tb [(74, sd_spec_l1Part)]
def pa_spec_l3Parts : Nat → Pat × (Nat → Pat) := Fj [(4, ⟨[.row 5 0 9 .str], [(0, .lf (.d .str)), (5, .lf (.row 0)), (6, .lf (.d tI))], [.row 9 .str]⟩, [(2, ⟨[.row 5 0 9 .str], [(0, .lf (.d .str)), (5, .lf (.row 0))], [.row 9 .str]⟩)])]
noncomputable def co_spec_l3Parts_4 : Code := (Ao (A4 Tryz.f166)).getD 0 .skip
noncomputable def Gl {R : Type}  (NX : ((ByteArray) × (Int) × (List ByteArray) × Unit) → Option R) (X2 : ((ByteArray) × (List ByteArray) × Unit) → Option R) (v0 : ByteArray) (v6 : Int) (r0 : List ByteArray) : Option R :=
 bif decide (nI v0.size > v6) then bif decide (0 ≤ v6) then bif decide (v6 ≤ nI v0.size) then bif decide ((r0.length + [Ah v0 0 v6].length) * 16 ≤ 140737488355328) then bif decide (0 ≤ v6) then bif decide (v6 ≤ nI v0.size) then NX (Ah v0 v6 (nI v0.size), v6, r0 ++ [Ah v0 0 v6], ()) else none else none else none else none else none else X2 (v0, r0, ())
noncomputable def Dv : Nat → (ByteArray) → (Int) → (List ByteArray) →  Option ((ByteArray) × (List ByteArray) × Unit)
 | 0, _, _, _ => none
 | m + 1, v0, v6, r0 => Gl  (fun d => Dv m d.1 d.2.1 d.2.2.1) (fun d => some (d)) v0 v6 r0
noncomputable def Qp (a0 : ByteArray) (a1 : Int) : Option ((((List ByteArray) × Unit) × (Unit))) :=
 ((fun d => Dv (Ib d.1 d.2.1 d.2.2.1) d.1 d.2.1 d.2.2.1) (a0, IntKind.i64.wrap (IntKind.i64.wrap (64 - a1) - 8), [], ())).bind fun val => bif decide ((val.2.1.length + [val.1].length) * 16 ≤ 140737488355328) then some ((val.2.1 ++ [val.1], ()), ()) else none
theorem Amx (n : Nat) (hn : 1 ≤ n) (hn2 : n ≤ 64) : ∀ (k m : Nat) (s : ByteArray) (r : List ByteArray), s.size ≤ k → k < m → r.length + s.size ≤ 1099511627777 →
  ∃ q t, Dv m s n r = some (t, q, ()) ∧ q ++ [t] = r ++ Fi n k s ∧ q.length + 1 ≤ 1099511627778
 | 0, m + 1, s, r, hs, hm, hr => by
  refine ⟨r, s, ?_, rfl, by omega⟩
  simp only [Dv, Gl]
  rw [decide_eq_false (show ¬ (nI s.size > (n : Int)) by simp only [nI]; omega)]
  rfl
 | k + 1, m + 1, s, r, hs, hm, hr => by
  by_cases q : s.size > n
  ·have hc : (Ah s n (nI s.size)).size = s.size - n := by rw [Fp (by omega) (by simp only [nI]; omega) (by simp [nI])]; simp only [nI]; omega
   obtain ⟨q', t', e1, e2, e3⟩ := Amx n hn hn2 k m (Ah s n (nI s.size)) (r ++ [Ah s 0 n]) (by omega) (by omega) (by rw [List.length_append, List.length_singleton]; omega)
   refine ⟨q', t', ?_, ?_, e3⟩
   ·simp only [Dv, Gl]
    rw [decide_eq_true (show nI s.size > (n : Int) by simp only [nI]; omega), Fh, decide_eq_true (show (n : Int) ≤ nI s.size by simp only [nI]; omega), decide_eq_true (show (r.length + [Ah s 0 n].length) * 16 ≤ 140737488355328 by rw [List.length_singleton]; omega)]
    exact e1
   ·rw [e2, List.append_assoc]
    simp only [Fi, if_pos q]
    rfl
  ·refine ⟨r, s, ?_, by simp only [Fi, if_neg q], by omega⟩
   simp only [Dv, Gl]
   rw [decide_eq_false (show ¬ (nI s.size > (n : Int)) by simp only [nI]; omega)]
   rfl
theorem Aix (a0 : ByteArray) (a1 : Int) r (h : Hd a0 a1 = some r) : Qp a0 a1 = some ((r, ()), (())) := by
 unfold Hd at h
 split at h
 ·rename_i hc
  cases h
  obtain ⟨h0, h1, h2⟩ := hc
  obtain ⟨n, hn⟩ : ∃ n : Nat, 56 - a1 = (n : Int) := ⟨(56 - a1).toNat, by omega⟩
  unfold Qp Cs
  rw [Ag (n := 64 - a1) (by omega) (by omega), Ag (n := 64 - a1 - 8) (by omega) (by omega), show 64 - a1 - 8 = 56 - a1 by omega, hn, Int.toNat_natCast]
  obtain ⟨q, t, e1, e2, e3⟩ := Amx n (by omega) (by omega) a0.size (Ib a0 n []) a0 [] (by omega) (by simp only [Ib]; omega) (by rw [List.length_nil]; omega)
  rw [List.nil_append] at e2
  refine Xr e1 ?_
  show (bif decide ((q.length + [t].length) * 16 ≤ 140737488355328) then some ((q ++ [t], ()), ()) else none) = _
  rw [decide_eq_true (by rw [List.length_singleton]; omega), e2]
  rfl
 ·cases h
noncomputable def Tz {R : Type} (k : Kt R) := (Hw (pa_spec_l3Parts 4) (.exit 0) 2 k)
noncomputable def Zv {R : Type} : Lt R pa_spec_l3Parts := (D5 (pat := pa_spec_l3Parts) 4 (fun d k => (Dv (Ib d.1 d.2.1 d.2.2.1) d.1 d.2.1 d.2.2.1).bind (Tz k)) Ff)
theorem X0 : Au Tryz.prog ta_spec_l3Parts := At ⟨Sh, trivial⟩
theorem Ac9 {R : Type} : Aw Tryz.prog R 27 0 pa_spec_l3Parts Zv co_spec_l3Parts_4 :=
 B1 (cfg := ⟨ta_spec_l3Parts, 0, 27, pa_spec_l3Parts⟩) 4 [] (fun NX X d => Gl  NX X d.1 d.2.1 d.2.2.1) (fun m d => Dv m d.1 d.2.1 d.2.2.1) (fun d => Ib d.1 d.2.1 d.2.2.1) Tz X0 trivial (fun f NX d => by unfold Gl; simp only [Aj, Ap, Ai, Option.bind_assoc, Option.bind_none, Option.bind_some]) (fun _ _ _ => by kernel_rfl)
theorem X3 : Bf Tryz.prog 166 sd_spec_l3Parts :=
 Ar (pat := pa_spec_l3Parts) [co_spec_l3Parts_4] Zv X0 ⟨Ac9, trivial⟩ Tryz.func166 (de := fun x => Qp x.1 x.2.1) (fun x r h => A3 (Aix x.1 x.2.1) h) fun _ => by kernel_rfl
def Nv (s : ByteArray) (w : Int) : Option Int := if s.size ≤ 1099511627776 then some (bif Eo w 1 8 then ((Cs s w).length : Int) else 0) else none
def Ao2 : Sig := ⟨[.rd .str, .rd tI], [none, none], [.rd tI], [none]⟩
noncomputable def sd_spec_Pages : SD := ⟨Ao2, fun x => (Nv x.1 x.2.1).bind fun r => some ((r, ()), (()))⟩
noncomputable def Ur (a0 : ByteArray) (a1 : Int) : Option ((((Int) × Unit) × (Unit))) :=
 Option.bind (bif decide (a1 ≥ 1) then some ((decide (a1 ≤ 8), ()), ()) else some ((false, ()), ())) fun val => bif !val.1.1 then some ((0, ()), ()) else ((Hd a0 a1).bind fun val => some ((val, ()), ())).bind fun val => some ((nI (List.length val.1.1), ()), ())
theorem Ao3 (a0 : ByteArray) (a1 : Int) r (h : Nv a0 a1 = some r) : Ur a0 a1 = some ((r, ()), (())) := by
 unfold Nv at h
 split at h
 ·rename_i hc
  cases h
  unfold Ur
  refine Xr (wid a1) ?_
  show (bif !Eo a1 1 8 then _ else _) = _
  cases hw : Eo a1 1 8 with
  | false => rfl
  | true =>
   have n1 : Hd a0 a1 = some (Cs a0 a1) := if_pos ⟨hc, G4 hw⟩
   simp only [n1, Option.bind_some, Bool.not_true, cond_false, cond_true]
   try rfl
 ·cases h
theorem Ao4 : Bf Tryz.prog 141 sd_spec_Pages :=
 Ar (pat := Ci) [] Ff (At (l := [(69, sd_spec_l1Width), (166, sd_spec_l3Parts)]) ⟨Db, X3, trivial⟩) trivial Tryz.func141 (de := fun x => Ur x.1 x.2.1) (fun x r h => A3 (Ao3 x.1 x.2.1) h) fun _ => by kernel_rfl
def M7 (s : Stt) (w : Int) : Int := R5 s w
def Asr : Sig := ⟨[.rd Bd, .rd tI], [some 1, none], [.rd tI], [none]⟩
noncomputable def sd_spec_Room : SD := ⟨Asr, fun x => some (((M7 x.1 x.2.1), ()), (()))⟩
noncomputable def ta_spec_Room : Tb := tb [(82, sd_spec_FormBatch), (140, sd_spec_Snapshot), (141, sd_spec_Pages)]
def pa_spec_Room : Nat → Pat × (Nat → Pat) := Fj [(5, ⟨[.sl 6 0 (.sl D8)], [(1, .lf (.d tI)), (5, .lf (.d tI)), (6, .lf (.d (.sl (.sl D8)))), (7, .lf (.d tI))], []⟩, [(2, ⟨[], [(5, .lf (.d tI))], []⟩)])]
noncomputable def co_spec_Room_5 : Code := (Ao (A4 Tryz.f56)).getD 0 .skip
def He (v1 : Int) (v5 : Int) (v6 : List (List Chg)) (v7 : Int) : Nat := ((v6.length : Int) - v7).toNat + 1
noncomputable def Kw {R : Type}  (NX : ((Int) × (Int) × (List (List Chg)) × (Int) × Unit) → Option R) (X2 : ((Int) × Unit) → Option R) (v1 : Int) (v5 : Int) (v6 : List (List Chg)) (v7 : Int) : Option R :=
 bif decide (v7 < nI v6.length) then bif decide (0 ≤ v7) then bif decide (v7 < nI v6.length) then ((Nv (Et (v6.getD v7.toNat [])) v1).bind fun val => some ((val, ()), ())).bind fun val => NX (v1, IntKind.i64.wrap (v5 + val.1.1), v6, IntKind.i64.wrap (v7 + 1), ()) else none else none else X2 (v5, ())
noncomputable def C6 : Nat → (Int) → (Int) → (List (List Chg)) → (Int) →  Option ((Int) × Unit)
 | 0, _, _, _, _ => none
 | m + 1, v1, v5, v6, v7 => Kw  (fun d => C6 m d.1 d.2.1 d.2.2.1 d.2.2.2.1) (fun d => some (d)) v1 v5 v6 v7
noncomputable def Xb (a0 : Stt) (a1 : Int) : Option ((((Int) × Unit) × (Unit))) :=
 ((fun d => C6 (He d.1 d.2.1 d.2.2.1 d.2.2.2.1) d.1 d.2.1 d.2.2.1 d.2.2.2.1) (a1, 0, H1 a0, 0, ())).bind fun val => some (val, ())
theorem Ass (a0 : Stt) (a1 : Int) : Xb a0 a1 = some (((M7 a0 a1), ()), (())) := by
 unfold Xb M7
 have hl := Rn a0
 have hL := Fq (xs := Dg a0) [] A0a (fun _ b a => a + Fg (F4 b).size a1) (g := fun m i a => C6 m a1 a (Dg a0) i) (ok := fun a => (a, ())) (fun m i a hi hI => by
  show C6 (m + 1) a1 a (Dg a0) i = _
  simp only [C6, Kw]
  rw [Mg hi, Fh, wI (show i < 4611686018427387904 by omega), Int.toNat_natCast]
  have e1 : Nv (Et (List.getD (Dg a0) i [])) a1 = some (Fg (F4 (List.getD (Dg a0) i [])).size a1) := by
    rw [← Avb]
    exact if_pos (Nat.le_trans (Mj _) (by decide))
  rw [e1]
  simp only [cond_true, Option.bind_some]
  rw [Al9 hI]) (fun i a hi hI => hI.step (by omega) _ _) (fun m a hI => by
  show C6 (m + 1) a1 a (Dg a0) ((Dg a0).length : Int) = _
  simp only [C6, Kw]
  rw [Hx]
  rfl) (He a1 0 (Dg a0) 0) 0 0 (by omega) (by simp [He, nI]) ⟨by omega, by omega, by omega⟩
 have hL' : C6 (He a1 0 (Dg a0) 0) a1 0 (Dg a0) 0 = _ := hL
 show (C6 (He a1 0 (Dg a0) 0) a1 0 (Dg a0) 0).bind _ = _
 rw [hL', Afg, List.drop_zero, Avc, Int.zero_add]
 rfl
noncomputable def Zw {R : Type} (k : Kt R) := (Hw (pa_spec_Room 5) (.exit 0) 2 k)
noncomputable def Aht {R : Type} : Lt R pa_spec_Room := (D5 (pat := pa_spec_Room) 5 (fun d k => (C6 (He d.1 d.2.1 d.2.2.1 d.2.2.2.1) d.1 d.2.1 d.2.2.1 d.2.2.2.1).bind (Zw k)) Ff)
theorem Ada : Au Tryz.prog ta_spec_Room := At ⟨Nu, Vo, Ao4, trivial⟩
theorem Amy {R : Type} : Aw Tryz.prog R 26 0 pa_spec_Room Aht co_spec_Room_5 :=
 B1 (cfg := ⟨ta_spec_Room, 0, 26, pa_spec_Room⟩) 5 [] (fun NX X d => Kw  NX X d.1 d.2.1 d.2.2.1 d.2.2.2.1) (fun m d => C6 m d.1 d.2.1 d.2.2.1 d.2.2.2.1) (fun d => He d.1 d.2.1 d.2.2.1 d.2.2.2.1) Zw Ada trivial (fun f NX d => by unfold Kw; simp only [Aj, Ap, Ai, Option.bind_assoc, Option.bind_none, Option.bind_some]) (fun _ _ _ => by kernel_rfl)
theorem Adb : Bf Tryz.prog 56 sd_spec_Room :=
 Ar (pat := pa_spec_Room) [co_spec_Room_5] Aht Ada ⟨Amy, trivial⟩ Tryz.func56 (de := fun x => Xb x.1 x.2.1) (fun x r h => (Ass x.1 x.2.1).trans h) fun _ => by kernel_rfl
def Fc (v lo hi : Int) : Bool := Eo v lo hi
def Ast : Sig := ⟨[.rd tI, .rd tI, .rd tI], [none, none, none], [.rd .bool], [none]⟩
noncomputable def sd_spec_l6In : SD := ⟨Ast, fun x => some (((Fc x.1 x.2.1 x.2.2.1), ()), (()))⟩
noncomputable def Xc (a0 : Int) (a1 : Int) (a2 : Int) : Option ((((Bool) × Unit) × (Unit))) :=
 bif decide (a0 ≥ a1) then some ((decide (a0 ≤ a2), ()), ()) else some ((false, ()), ())
theorem Asu (a0 a1 a2 : Int) : Xc a0 a1 a2 = some ((Fc a0 a1 a2, ()), ()) := by
 unfold Xc Fc Eo
 by_cases h : a0 ≥ a1
 ·have : decide (a1 ≤ a0) = true := by simpa using h
  simp [h, this]
 ·have : decide (a1 ≤ a0) = false := by simpa using h
  simp [h, this]
theorem Adc : Bf Tryz.prog 71 sd_spec_l6In :=
 Ar (pat := Ci) [] Ff (At (l := []) trivial) trivial Tryz.func71 (de := fun x => Xc x.1 x.2.1 x.2.2.1) (fun x r h => (Asu x.1 x.2.1 x.2.2.1).trans h) fun _ => by kernel_rfl
def Kc (s : Sto) : Bool := Ji s
def Aa4 : Sig := ⟨[.rd Il], [some 10], [.rd .bool], [none]⟩
noncomputable def sd_spec_ValidStore : SD := ⟨Aa4, fun x => some (((Kc x.1), ()), (()))⟩
noncomputable def Mn (a0 : Sto) : Option ((((Bool) × Unit) × (Unit))) :=
 Option.bind (bif decide (a0.1 ≥ 1) then some ((decide (a0.1 ≤ 8), ()), ()) else some ((false, ()), ())) fun val => bif !val.1.1 then some ((false, ()), ()) else bif Av a0.2.1 == 0 then some ((false, ()), ()) else bif !Fc a0.2.2.1 1 60000 then some ((false, ()), ()) else bif !Fc a0.2.2.2.1.1 0 1000000000 then some ((false, ()), ()) else bif !Fc a0.2.2.2.1.2.1 0 1 then some ((false, ()), ()) else bif !Fc a0.2.2.2.1.2.2.1 1 999999000 then some ((false, ()), ()) else bif !Fc a0.2.2.2.1.2.2.2.1 0 60000 then some ((false, ()), ()) else bif Fc a0.2.2.2.2.1 0 (Av a0.2.1) then bif Fc a0.2.2.2.2.2.1 0 a0.2.2.2.2.1 then bif Du a0.2.2.2.2.2.2.1 then some ((decide (M7 a0.2.2.2.2.2.2.1 a0.1 ≤ IntKind.i64.wrap (Av a0.2.1 - 1)), ()), ()) else some ((false, ()), ()) else some ((false, ()), ()) else some ((false, ()), ())
theorem Aa5 (a0 : Sto) : Mn a0 = some (((Kc a0), ()), (())) := by
 unfold Mn Kc Ji
 refine Xr (wid a0.1) ?_
 simp only [Av, Fc, Du, M7, To, A3f, A5u, Avd]
 simp only [Me, Bool.and_assoc]
 rw [Bool.and_left_comm]
theorem Aa6 : Bf Tryz.prog 47 sd_spec_ValidStore :=
 Ar (pat := Ci) [] Ff (At (l := [(55, sd_spec_Halves), (56, sd_spec_Room), (69, sd_spec_l1Width), (71, sd_spec_l6In), (73, sd_spec_ValidState)]) ⟨Ns, Adb, Db, Adc, Jj, trivial⟩) trivial Tryz.func47 (de := fun x => Mn x.1) (fun x r h => (Aa5 x.1).trans h) fun _ => by kernel_rfl
def Lb (d : Dk) (at_ : Int) (data : ByteArray) : Bool := Aic d.1.length (at_, data, ())
def Add : Sig := ⟨[.rd P3, .rd tI, .rd .str], [some 2, none, none], [.rd .bool], [none]⟩
noncomputable def sd_spec_l2WriteOk : SD := ⟨Add, fun x => some (((Lb x.1 x.2.1 x.2.2.1), ()), (()))⟩
noncomputable def Nw (a0 : Dk) (a1 : Int) (a2 : ByteArray) : Option ((((Bool) × Unit) × (Unit))) :=
 bif decide (a1 ≥ 0) then bif decide (a1 < nI (List.length a0.1)) then some ((nI a2.size == 64, ()), ()) else some ((false, ()), ()) else some ((false, ()), ())
theorem Ade (a0 : Dk) (a1 : Int) (a2 : ByteArray) : Nw a0 a1 a2 = some ((Lb a0 a1 a2, ()), ()) := by
 unfold Nw Lb Aic
 have e : (nI (ByteArray.size a2) == 64) = decide (a2.size = 64) := by
  have := Az3 a2.size 64
  simp only [bne] at this
  cases h : (nI (ByteArray.size a2) == ((64 : Nat) : Int)) <;> rw [h] at this <;> cases h2 : decide (a2.size = 64) <;> rw [h2] at this <;> first | (cases this; done) | exact h
 rw [e]
 by_cases h1 : a1 ≥ 0
 ·have : decide (0 ≤ a1) = true := by simpa using h1
  rw [decide_eq_true h1]
  simp only [this, cond_true, Bool.true_and, nI]
  cases decide (a1 < (a0.1.length : Int)) <;> rfl
 ·have : decide (0 ≤ a1) = false := by simpa using h1
  rw [decide_eq_false h1]
  simp only [this]
  rfl
theorem Adf : Bf Tryz.prog 159 sd_spec_l2WriteOk :=
 Ar (pat := Ci) [] Ff (At (l := []) trivial) trivial Tryz.func159 (de := fun x => Nw x.1 x.2.1 x.2.2.1) (fun x r h => (Ade x.1 x.2.1 x.2.2.1).trans h) fun _ => by kernel_rfl
def Fr (d : Dk) : Bool := Bp d
def Adg : Sig := ⟨[.rd P3], [some 2], [.rd .bool], [none]⟩
noncomputable def sd_spec_ValidDisk : SD := ⟨Adg, fun x => some (((Fr x.1), ()), (()))⟩
noncomputable def ta_spec_ValidDisk : Tb := tb [(159, sd_spec_l2WriteOk)]
def pa_spec_ValidDisk : Nat → Pat × (Nat → Pat) := Fj [(5, ⟨[.boxSl 1 0 .str, .boxSl 1 1 Ey], [(1, .lf (.ptr 0 0)), (3, .lf (.d tI))], [.box 26 [.d (.sl .str), .d (.sl Ey)]]⟩, [(2, ⟨[.boxSl 1 0 .str, .boxSl 1 1 Ey], [(1, .lf (.ptr 0 0))], [.box 26 [.d (.sl .str), .d (.sl Ey)]]⟩), (1, ⟨[], [(2, .lf (.d .bool))], []⟩)]), (10, ⟨[.boxSl 1 0 .str, .boxSl 1 1 Ey], [(1, .lf (.ptr 0 0)), (4, .lf (.d tI))], [.box 26 [.d (.sl .str), .d (.sl Ey)]]⟩, [(4, p0), (1, ⟨[], [(2, .lf (.d .bool))], []⟩)])]
noncomputable def co_spec_ValidDisk_5 : Code := (Ao (A4 Tryz.f70)).getD 0 .skip
noncomputable def co_spec_ValidDisk_10 : Code := (Ao (A4 Tryz.f70)).getD 1 .skip
def C7 (v4 : Int) (b0_0 : List ByteArray) (b0_1 : List Wr) : Nat := ((b0_1.length : Int) - v4).toNat + 1
noncomputable def F9 {R : Type}  (NX : ((Int) × (List ByteArray) × (List Wr) × Unit) → Option R) (X4 : (Unit) → Option R) (X1 : ((Bool) × Unit) → Option R) (v4 : Int) (b0_0 : List ByteArray) (b0_1 : List Wr) : Option R :=
 bif decide (v4 < nI b0_1.length) then bif decide (0 ≤ v4) then bif decide (v4 < nI b0_1.length) then bif decide (0 ≤ v4) then bif decide (v4 < nI b0_1.length) then bif !Lb (b0_0, b0_1, ()) (b0_1.getD v4.toNat (0, ByteArray.mk #[], ())).1 (b0_1.getD v4.toNat (0, ByteArray.mk #[], ())).2.1 then X1 (false, ()) else NX (IntKind.i64.wrap (v4 + 1), b0_0, b0_1, ()) else none else none else none else none else X4 PUnit.unit
noncomputable def Br : Nat → (Int) → (List ByteArray) → (List Wr) →  Option ((Unit) ⊕ ((Bool) × Unit))
 | 0, _, _, _ => none
 | m + 1, v4, b0_0, b0_1 => F9  (fun d => Br m d.1 d.2.1 d.2.2.1) (fun d => some (.inl (d))) (fun d => some (.inr (d))) v4 b0_0 b0_1
def Do (v3 : Int) (b0_0 : List ByteArray) (b0_1 : List Wr) : Nat := ((b0_0.length : Int) - v3).toNat + 1
noncomputable def Gu {R : Type}  (NX : ((Int) × (List ByteArray) × (List Wr) × Unit) → Option R) (X2 : Dk → Option R) (X1 : ((Bool) × Unit) → Option R) (v3 : Int) (b0_0 : List ByteArray) (b0_1 : List Wr) : Option R :=
 bif decide (v3 < nI b0_0.length) then bif decide (0 ≤ v3) then bif decide (v3 < nI b0_0.length) then bif nI (ByteArray.size (b0_0.getD v3.toNat (ByteArray.mk #[]))) != 64 then X1 (false, ()) else NX (IntKind.i64.wrap (v3 + 1), b0_0, b0_1, ()) else none else none else X2 (b0_0, b0_1, ())
noncomputable def Bv : Nat → (Int) → (List ByteArray) → (List Wr) →  Option (Dk ⊕ ((Bool) × Unit))
 | 0, _, _, _ => none
 | m + 1, v3, b0_0, b0_1 => Gu  (fun d => Bv m d.1 d.2.1 d.2.2.1) (fun d => some (.inl (d))) (fun d => some (.inr (d))) v3 b0_0 b0_1
noncomputable def Nx (a0 : Dk) : Option ((((Bool) × Unit) × (Unit))) :=
 bif decide (nI (List.length a0.1) < 8) then some ((false, ()), ()) else bif decide (nI (List.length a0.1) > 200) then some ((false, ()), ()) else bif decide (nI (List.length a0.2.1) > 300) then some ((false, ()), ()) else ((fun d => Bv (Do d.1 d.2.1 d.2.2.1) d.1 d.2.1 d.2.2.1) (0, a0)).bind fun val => Be (fun val => ((fun d => Br (C7 d.1 d.2.1 d.2.2.1) d.1 d.2.1 d.2.2.1) (0, val)).bind fun val => Be (fun val => some ((true, ()), ())) (fun val => some (val, ())) val) (fun val => some (val, ())) val
theorem Adh (a0 : Dk) : Nx a0 = some ((Fr a0, ()), ()) := by
 unfold Nx Fr Bp
 have c1 : decide (nI a0.2.1.length > 300) = !decide (a0.2.1.length ≤ 300) := Zj _ 300
 have c2 : decide (nI a0.1.length > 200) = !decide ((a0.1.length : Int) ≤ 200) := by
  rw [show decide (nI a0.1.length > 200) = !decide (a0.1.length ≤ 200) from Zj _ 200]
  congr 1
  exact decide_eq_decide.2 (by omega)
 have c3 : decide (nI a0.1.length < 8) = !decide (8 ≤ (a0.1.length : Int)) := by
  by_cases q : 8 ≤ (a0.1.length : Int)
  ·rw [decide_eq_true q, decide_eq_false (by simp [nI]; omega)]; rfl
  ·rw [decide_eq_false q, decide_eq_true (by simp [nI]; omega)]; rfl
 rw [c1, c2, c3]
 unfold Eo
 by_cases h8 : 8 ≤ (a0.1.length : Int)
 ·rw [decide_eq_true h8]
  by_cases h2 : (a0.1.length : Int) ≤ 200
  ·rw [decide_eq_true h2]
   by_cases hp : a0.2.1.length ≤ 300
   ·rw [decide_eq_true hp]
    have hL := Ix (n := a0.1.length) (fun i => decide ((a0.1.getD i z0).size = 64)) (g := fun m i => Bv m i a0.1 a0.2.1) (ok := .inl (a0.1, a0.2.1, ())) (bad := .inr (false, ())) (fun m i hi => by
     show Bv (m + 1) i a0.1 a0.2.1 = _
     simp only [Bv, Gu]
     have g1 : (nI (ByteArray.size (List.getD a0.1 i (ByteArray.mk #[]))) != 64) = !decide ((a0.1.getD i z0).size = 64) := Az3 _ 64
     rw [Mg hi, Fh, wI (show i < 4611686018427387904 by omega), Int.toNat_natCast, g1]
     cases decide ((a0.1.getD i z0).size = 64) <;> rfl) (fun m => by
     show Bv (m + 1) (a0.1.length : Int) a0.1 a0.2.1 = _
     simp only [Bv, Gu]
     rw [Hx]
     rfl) (Do 0 a0.1 a0.2.1) 0 (by omega) (by simp [Do])
    have hL' : Bv (Do 0 a0.1 a0.2.1) 0 a0.1 a0.2.1 = _ := hL
    have hM := Ix (n := a0.2.1.length) (fun i => Aic a0.1.length (a0.2.1.getD i zW)) (g := fun m i => Br m i a0.1 a0.2.1) (ok := .inl ()) (bad := .inr (false, ())) (fun m i hi => by
     show Br (m + 1) i a0.1 a0.2.1 = _
     simp only [Br, F9]
     rw [Mg hi, Fh, wI (show i < 4611686018427387904 by omega), Int.toNat_natCast]
     show (bif !Aic a0.1.length (a0.2.1.getD i zW) then _ else _) = _
     cases Aic a0.1.length (a0.2.1.getD i zW) <;> rfl) (fun m => by
     show Br (m + 1) (a0.2.1.length : Int) a0.1 a0.2.1 = _
     simp only [Br, F9]
     rw [Hx]
     rfl) (C7 0 a0.1 a0.2.1) 0 (by omega) (by simp [C7])
    have hM' : Br (C7 0 a0.1 a0.2.1) 0 a0.1 a0.2.1 = _ := hM
    show (Bv (Do 0 a0.1 a0.2.1) 0 a0.1 a0.2.1).bind _ = _
    rw [hL']
    rw [Nat.sub_zero] at hM' ⊢
    cases (List.range' 0 a0.1.length).all (fun i => decide ((a0.1.getD i z0).size = 64)) with
    | false => rfl
    | true =>
     show (Br (C7 0 a0.1 a0.2.1) 0 a0.1 a0.2.1).bind _ = _
     rw [hM']
     cases (List.range' 0 a0.2.1.length).all (fun i => Aic a0.1.length (a0.2.1.getD i zW)) <;> rfl
   ·rw [decide_eq_false hp]
    rfl
  ·rw [decide_eq_false h2]
   rfl
 ·rw [decide_eq_false h8]
  rfl
noncomputable def Q3 {R : Type} (k : Kt R) := (Be (Hw (pa_spec_ValidDisk 5) (.exit 0) 2 k) (Hw (pa_spec_ValidDisk 5) .ret 1 k))
noncomputable def P8 {R : Type} (k : Kt R) := (Be (Hw (pa_spec_ValidDisk 10) (.exit 2) 4 k) (Hw (pa_spec_ValidDisk 10) .ret 1 k))
noncomputable def O7 {R : Type} : Lt R pa_spec_ValidDisk := (D5 (pat := pa_spec_ValidDisk) 5 (fun d k => (Bv (Do d.1 d.2.1 d.2.2.1) d.1 d.2.1 d.2.2.1).bind (Q3 k)) (D5 (pat := pa_spec_ValidDisk) 10 (fun d k => (Br (C7 d.1 d.2.1 d.2.2.1) d.1 d.2.1 d.2.2.1).bind (P8 k)) Ff))
theorem Ny : Au Tryz.prog ta_spec_ValidDisk := At ⟨Adf, trivial⟩
theorem Zx {R : Type} : Aw Tryz.prog R 57 0 pa_spec_ValidDisk O7 co_spec_ValidDisk_10 :=
 B1 (cfg := ⟨ta_spec_ValidDisk, 0, 57, pa_spec_ValidDisk⟩) 10 [] (fun NX X d => F9  NX (fun e => X (.inl (e))) (fun e => X (.inr (e))) d.1 d.2.1 d.2.2.1) (fun m d => Br m d.1 d.2.1 d.2.2.1) (fun d => C7 d.1 d.2.1 d.2.2.1) P8 Ny trivial (fun f NX d => by unfold F9; simp only [Aj, Ap, Ai, Option.bind_assoc, Option.bind_none, Option.bind_some]) (fun _ _ _ => by kernel_rfl)
theorem n5 {R : Type} : Aw Tryz.prog R 57 0 pa_spec_ValidDisk O7 co_spec_ValidDisk_5 :=
 B1 (cfg := ⟨ta_spec_ValidDisk, 0, 57, pa_spec_ValidDisk⟩) 5 [] (fun NX X d => Gu  NX (fun e => X (.inl (e))) (fun e => X (.inr (e))) d.1 d.2.1 d.2.2.1) (fun m d => Bv m d.1 d.2.1 d.2.2.1) (fun d => Do d.1 d.2.1 d.2.2.1) Q3 Ny trivial (fun f NX d => by unfold Gu; simp only [Aj, Ap, Ai, Option.bind_assoc, Option.bind_none, Option.bind_some]) (fun _ _ _ => by kernel_rfl)
theorem Kd : Bf Tryz.prog 70 sd_spec_ValidDisk :=
 Ar (pat := pa_spec_ValidDisk) [co_spec_ValidDisk_5, co_spec_ValidDisk_10] O7 Ny ⟨n5, Zx, trivial⟩ Tryz.func70 (de := fun x => Nx x.1) (fun x r h => (Adh x.1).trans h) fun _ => by kernel_rfl
def I0 (s : Sto) : Bool := Rg s
def Adi : Sig := ⟨[.rd Il], [some 10], [.rd .bool], [none]⟩
noncomputable def sd_spec_l7NoStore : SD := ⟨Adi, fun x => some (((I0 x.1), ()), (()))⟩
noncomputable def Nz (a0 : Sto) : Option ((((Bool) × Unit) × (Unit))) :=
 bif a0.1 == 0 then bif a0.2.1 == 0 then bif a0.2.2.1 == 0 then bif a0.2.2.2.1.1 == 0 && (a0.2.2.2.1.2.1 == 0 && (a0.2.2.2.1.2.2.1 == 0 && (a0.2.2.2.1.2.2.2.1 == 0 && true))) then bif a0.2.2.2.2.1 == 0 then bif a0.2.2.2.2.2.1 == 0 then some ((nI (List.length a0.2.2.2.2.2.2.1.1) == 0, ()), ()) else some ((false, ()), ()) else some ((false, ()), ()) else some ((false, ()), ()) else some ((false, ()), ()) else some ((false, ()), ()) else some ((false, ()), ())
theorem Adj (a0 : Sto) : Nz a0 = some (((I0 a0), ()), (())) := by
 unfold Nz I0 Rg
 simp only [A3f, Bool.and_true]
theorem Adk : Bf Tryz.prog 72 sd_spec_l7NoStore :=
 Ar (pat := Ci) [] Ff (At (l := []) trivial) trivial Tryz.func72 (de := fun x => Nz x.1) (fun x r h => (Adj x.1).trans h) fun _ => by kernel_rfl
def Ke (w : Wld) : Bool := D9 w
def Aa7 : Sig := ⟨[.rd Un], [some 16], [.rd .bool], [none]⟩
noncomputable def sd_spec_ValidWorld : SD := ⟨Aa7, fun x => some (((Ke x.1), ()), (()))⟩
noncomputable def ta_spec_ValidWorld : Tb := tb [(47, sd_spec_ValidStore), (69, sd_spec_l1Width), (70, sd_spec_ValidDisk), (71, sd_spec_l6In), (72, sd_spec_l7NoStore), (73, sd_spec_ValidState)]
def pa_spec_ValidWorld : Nat → Pat × (Nat → Pat) := Fj [(7, ⟨[.boxSl 1 1 .str, .boxSl 1 2 Ey, .boxSl 1 13 Ak, .boxSl 1 14 Bd, .boxSl 1 15 .str], [(1, .lf (.ptr 0 0)), (3, .lf (.d tI))], [.box 36 [.d tI, .d (.sl .str), .d (.sl Ey), .d .bool, .d tI, .d tI, .d tI, .d tI, .d tI, .d tI, .d tI, .d tI, .d tI, .d (.sl Ak), .d (.sl Bd), .d (.sl .str)]]⟩, [(2, ⟨[.boxSl 1 1 .str, .boxSl 1 2 Ey, .boxSl 1 13 Ak, .boxSl 1 14 Bd, .boxSl 1 15 .str], [(1, .lf (.ptr 0 0))], [.box 36 [.d tI, .d (.sl .str), .d (.sl Ey), .d .bool, .d tI, .d tI, .d tI, .d tI, .d tI, .d tI, .d tI, .d tI, .d tI, .d (.sl Ak), .d (.sl Bd), .d (.sl .str)]]⟩), (1, ⟨[], [(2, .lf (.d .bool))], []⟩)]), (12, ⟨[.boxSl 1 1 .str, .boxSl 1 2 Ey, .boxSl 1 13 Ak, .boxSl 1 14 Bd, .boxSl 1 15 .str], [(1, .lf (.ptr 0 0)), (4, .lf (.d tI))], [.box 36 [.d tI, .d (.sl .str), .d (.sl Ey), .d .bool, .d tI, .d tI, .d tI, .d tI, .d tI, .d tI, .d tI, .d tI, .d tI, .d (.sl Ak), .d (.sl Bd), .d (.sl .str)]]⟩, [(4, p0), (1, ⟨[], [(2, .lf (.d .bool))], []⟩)])]
noncomputable def co_spec_ValidWorld_7 : Code := (Ao (A4 Tryz.f13)).getD 0 .skip
noncomputable def co_spec_ValidWorld_12 : Code := (Ao (A4 Tryz.f13)).getD 1 .skip
def Bj (v4 : Int) (b0_0 : Int) (b0_1 : List ByteArray) (b0_2 : List Wr) (b0_3 : Bool) (b0_4 : Int) (b0_5 : Int) (b0_6 : Int) (b0_7 : Int) (b0_8 : Int) (b0_9 : Int) (b0_10 : Int) (b0_11 : Int) (b0_12 : Int) (b0_13 : List Pr2) (b0_14 : List Stt) (b0_15 : List ByteArray) : Nat := ((b0_15.length : Int) - v4).toNat + 1
noncomputable def Fk {R : Type}  (NX : ((Int) × (Int) × (List ByteArray) × (List Wr) × (Bool) × (Int) × (Int) × (Int) × (Int) × (Int) × (Int) × (Int) × (Int) × (Int) × (List Pr2) × (List Stt) × (List ByteArray) × Unit) → Option R) (X4 : (Unit) → Option R) (X1 : ((Bool) × Unit) → Option R) (v4 : Int) (b0_0 : Int) (b0_1 : List ByteArray) (b0_2 : List Wr) (b0_3 : Bool) (b0_4 : Int) (b0_5 : Int) (b0_6 : Int) (b0_7 : Int) (b0_8 : Int) (b0_9 : Int) (b0_10 : Int) (b0_11 : Int) (b0_12 : Int) (b0_13 : List Pr2) (b0_14 : List Stt) (b0_15 : List ByteArray) : Option R :=
 bif decide (v4 < nI b0_15.length) then bif decide (0 ≤ v4) then bif decide (v4 < nI b0_15.length) then bif nI (ByteArray.size (b0_15.getD v4.toNat (ByteArray.mk #[]))) != 64 then X1 (false, ()) else NX (IntKind.i64.wrap (v4 + 1), b0_0, b0_1, b0_2, b0_3, b0_4, b0_5, b0_6, b0_7, b0_8, b0_9, b0_10, b0_11, b0_12, b0_13, b0_14, b0_15, ()) else none else none else X4 PUnit.unit
noncomputable def Ax : Nat → (Int) → (Int) → (List ByteArray) → (List Wr) → (Bool) → (Int) → (Int) → (Int) → (Int) → (Int) → (Int) → (Int) → (Int) → (Int) → (List Pr2) → (List Stt) → (List ByteArray) →  Option ((Unit) ⊕ ((Bool) × Unit))
 | 0, _, _, _, _, _, _, _, _, _, _, _, _, _, _, _, _, _ => none
 | m + 1, v4, b0_0, b0_1, b0_2, b0_3, b0_4, b0_5, b0_6, b0_7, b0_8, b0_9, b0_10, b0_11, b0_12, b0_13, b0_14, b0_15 => Fk  (fun d => Ax m d.1 d.2.1 d.2.2.1 d.2.2.2.1 d.2.2.2.2.1 d.2.2.2.2.2.1 d.2.2.2.2.2.2.1 d.2.2.2.2.2.2.2.1 d.2.2.2.2.2.2.2.2.1 d.2.2.2.2.2.2.2.2.2.1 d.2.2.2.2.2.2.2.2.2.2.1 d.2.2.2.2.2.2.2.2.2.2.2.1 d.2.2.2.2.2.2.2.2.2.2.2.2.1 d.2.2.2.2.2.2.2.2.2.2.2.2.2.1 d.2.2.2.2.2.2.2.2.2.2.2.2.2.2.1 d.2.2.2.2.2.2.2.2.2.2.2.2.2.2.2.1 d.2.2.2.2.2.2.2.2.2.2.2.2.2.2.2.2.1) (fun d => some (.inl (d))) (fun d => some (.inr (d))) v4 b0_0 b0_1 b0_2 b0_3 b0_4 b0_5 b0_6 b0_7 b0_8 b0_9 b0_10 b0_11 b0_12 b0_13 b0_14 b0_15
def Cc (v3 : Int) (b0_0 : Int) (b0_1 : List ByteArray) (b0_2 : List Wr) (b0_3 : Bool) (b0_4 : Int) (b0_5 : Int) (b0_6 : Int) (b0_7 : Int) (b0_8 : Int) (b0_9 : Int) (b0_10 : Int) (b0_11 : Int) (b0_12 : Int) (b0_13 : List Pr2) (b0_14 : List Stt) (b0_15 : List ByteArray) : Nat := ((b0_14.length : Int) - v3).toNat + 1
noncomputable def Ga {R : Type}  (NX : ((Int) × (Int) × (List ByteArray) × (List Wr) × (Bool) × (Int) × (Int) × (Int) × (Int) × (Int) × (Int) × (Int) × (Int) × (Int) × (List Pr2) × (List Stt) × (List ByteArray) × Unit) → Option R) (X2 : ((Int) × (List ByteArray) × (List Wr) × (Bool) × (Int) × (Int) × (Int) × (Int) × (Int) × (Int) × (Int) × (Int) × (Int) × (List Pr2) × (List Stt) × (List ByteArray) × Unit) → Option R) (X1 : ((Bool) × Unit) → Option R) (v3 : Int) (b0_0 : Int) (b0_1 : List ByteArray) (b0_2 : List Wr) (b0_3 : Bool) (b0_4 : Int) (b0_5 : Int) (b0_6 : Int) (b0_7 : Int) (b0_8 : Int) (b0_9 : Int) (b0_10 : Int) (b0_11 : Int) (b0_12 : Int) (b0_13 : List Pr2) (b0_14 : List Stt) (b0_15 : List ByteArray) : Option R :=
 bif decide (v3 < nI b0_14.length) then bif decide (0 ≤ v3) then bif decide (v3 < nI b0_14.length) then bif !Du (b0_14.getD v3.toNat ([], ())) then X1 (false, ()) else NX (IntKind.i64.wrap (v3 + 1), b0_0, b0_1, b0_2, b0_3, b0_4, b0_5, b0_6, b0_7, b0_8, b0_9, b0_10, b0_11, b0_12, b0_13, b0_14, b0_15, ()) else none else none else X2 (b0_0, b0_1, b0_2, b0_3, b0_4, b0_5, b0_6, b0_7, b0_8, b0_9, b0_10, b0_11, b0_12, b0_13, b0_14, b0_15, ())
noncomputable def A8 : Nat → (Int) → (Int) → (List ByteArray) → (List Wr) → (Bool) → (Int) → (Int) → (Int) → (Int) → (Int) → (Int) → (Int) → (Int) → (Int) → (List Pr2) → (List Stt) → (List ByteArray) →  Option (((Int) × (List ByteArray) × (List Wr) × (Bool) × (Int) × (Int) × (Int) × (Int) × (Int) × (Int) × (Int) × (Int) × (Int) × (List Pr2) × (List Stt) × (List ByteArray) × Unit) ⊕ ((Bool) × Unit))
 | 0, _, _, _, _, _, _, _, _, _, _, _, _, _, _, _, _, _ => none
 | m + 1, v3, b0_0, b0_1, b0_2, b0_3, b0_4, b0_5, b0_6, b0_7, b0_8, b0_9, b0_10, b0_11, b0_12, b0_13, b0_14, b0_15 => Ga  (fun d => A8 m d.1 d.2.1 d.2.2.1 d.2.2.2.1 d.2.2.2.2.1 d.2.2.2.2.2.1 d.2.2.2.2.2.2.1 d.2.2.2.2.2.2.2.1 d.2.2.2.2.2.2.2.2.1 d.2.2.2.2.2.2.2.2.2.1 d.2.2.2.2.2.2.2.2.2.2.1 d.2.2.2.2.2.2.2.2.2.2.2.1 d.2.2.2.2.2.2.2.2.2.2.2.2.1 d.2.2.2.2.2.2.2.2.2.2.2.2.2.1 d.2.2.2.2.2.2.2.2.2.2.2.2.2.2.1 d.2.2.2.2.2.2.2.2.2.2.2.2.2.2.2.1 d.2.2.2.2.2.2.2.2.2.2.2.2.2.2.2.2.1) (fun d => some (.inl (d))) (fun d => some (.inr (d))) v3 b0_0 b0_1 b0_2 b0_3 b0_4 b0_5 b0_6 b0_7 b0_8 b0_9 b0_10 b0_11 b0_12 b0_13 b0_14 b0_15
noncomputable def Mo (a0 : Wld) : Option ((((Bool) × Unit) × (Unit))) :=
 Option.bind (bif decide (a0.1 ≥ 1) then some ((decide (a0.1 ≤ 8), ()), ()) else some ((false, ()), ())) fun val => bif !val.1.1 then some ((false, ()), ()) else bif !Fr a0.2.1 then some ((false, ()), ()) else bif !Fc (nI (List.length a0.2.2.2.2.1)) 1 200 then some ((false, ()), ()) else bif decide (nI (List.length a0.2.2.2.2.2.1) > 2000) then some ((false, ()), ()) else bif a0.2.2.1 then bif !Kc a0.2.2.2.1 then some ((false, ()), ()) else bif a0.2.2.2.1.1 != a0.1 then some ((false, ()), ()) else bif a0.2.2.2.1.2.1 != nI (List.length a0.2.1.1) then some ((false, ()), ()) else bif !a0.2.2.1 then bif !I0 a0.2.2.2.1 then some ((false, ()), ()) else ((fun d => A8 (Cc d.1 d.2.1 d.2.2.1 d.2.2.2.1 d.2.2.2.2.1 d.2.2.2.2.2.1 d.2.2.2.2.2.2.1 d.2.2.2.2.2.2.2.1 d.2.2.2.2.2.2.2.2.1 d.2.2.2.2.2.2.2.2.2.1 d.2.2.2.2.2.2.2.2.2.2.1 d.2.2.2.2.2.2.2.2.2.2.2.1 d.2.2.2.2.2.2.2.2.2.2.2.2.1 d.2.2.2.2.2.2.2.2.2.2.2.2.2.1 d.2.2.2.2.2.2.2.2.2.2.2.2.2.2.1 d.2.2.2.2.2.2.2.2.2.2.2.2.2.2.2.1 d.2.2.2.2.2.2.2.2.2.2.2.2.2.2.2.2.1) d.1 d.2.1 d.2.2.1 d.2.2.2.1 d.2.2.2.2.1 d.2.2.2.2.2.1 d.2.2.2.2.2.2.1 d.2.2.2.2.2.2.2.1 d.2.2.2.2.2.2.2.2.1 d.2.2.2.2.2.2.2.2.2.1 d.2.2.2.2.2.2.2.2.2.2.1 d.2.2.2.2.2.2.2.2.2.2.2.1 d.2.2.2.2.2.2.2.2.2.2.2.2.1 d.2.2.2.2.2.2.2.2.2.2.2.2.2.1 d.2.2.2.2.2.2.2.2.2.2.2.2.2.2.1 d.2.2.2.2.2.2.2.2.2.2.2.2.2.2.2.1 d.2.2.2.2.2.2.2.2.2.2.2.2.2.2.2.2.1) (0, a0.1, a0.2.1.1, a0.2.1.2.1, a0.2.2.1, a0.2.2.2.1.1, a0.2.2.2.1.2.1, a0.2.2.2.1.2.2.1, a0.2.2.2.1.2.2.2.1.1, a0.2.2.2.1.2.2.2.1.2.1, a0.2.2.2.1.2.2.2.1.2.2.1, a0.2.2.2.1.2.2.2.1.2.2.2.1, a0.2.2.2.1.2.2.2.2.1, a0.2.2.2.1.2.2.2.2.2.1, a0.2.2.2.1.2.2.2.2.2.2.1.1, a0.2.2.2.2)).bind fun val => Be (fun val => ((fun d => Ax (Bj d.1 d.2.1 d.2.2.1 d.2.2.2.1 d.2.2.2.2.1 d.2.2.2.2.2.1 d.2.2.2.2.2.2.1 d.2.2.2.2.2.2.2.1 d.2.2.2.2.2.2.2.2.1 d.2.2.2.2.2.2.2.2.2.1 d.2.2.2.2.2.2.2.2.2.2.1 d.2.2.2.2.2.2.2.2.2.2.2.1 d.2.2.2.2.2.2.2.2.2.2.2.2.1 d.2.2.2.2.2.2.2.2.2.2.2.2.2.1 d.2.2.2.2.2.2.2.2.2.2.2.2.2.2.1 d.2.2.2.2.2.2.2.2.2.2.2.2.2.2.2.1 d.2.2.2.2.2.2.2.2.2.2.2.2.2.2.2.2.1) d.1 d.2.1 d.2.2.1 d.2.2.2.1 d.2.2.2.2.1 d.2.2.2.2.2.1 d.2.2.2.2.2.2.1 d.2.2.2.2.2.2.2.1 d.2.2.2.2.2.2.2.2.1 d.2.2.2.2.2.2.2.2.2.1 d.2.2.2.2.2.2.2.2.2.2.1 d.2.2.2.2.2.2.2.2.2.2.2.1 d.2.2.2.2.2.2.2.2.2.2.2.2.1 d.2.2.2.2.2.2.2.2.2.2.2.2.2.1 d.2.2.2.2.2.2.2.2.2.2.2.2.2.2.1 d.2.2.2.2.2.2.2.2.2.2.2.2.2.2.2.1 d.2.2.2.2.2.2.2.2.2.2.2.2.2.2.2.2.1) (0, val)).bind fun val => Be (fun val => some ((true, ()), ())) (fun val => some (val, ())) val) (fun val => some (val, ())) val else ((fun d => A8 (Cc d.1 d.2.1 d.2.2.1 d.2.2.2.1 d.2.2.2.2.1 d.2.2.2.2.2.1 d.2.2.2.2.2.2.1 d.2.2.2.2.2.2.2.1 d.2.2.2.2.2.2.2.2.1 d.2.2.2.2.2.2.2.2.2.1 d.2.2.2.2.2.2.2.2.2.2.1 d.2.2.2.2.2.2.2.2.2.2.2.1 d.2.2.2.2.2.2.2.2.2.2.2.2.1 d.2.2.2.2.2.2.2.2.2.2.2.2.2.1 d.2.2.2.2.2.2.2.2.2.2.2.2.2.2.1 d.2.2.2.2.2.2.2.2.2.2.2.2.2.2.2.1 d.2.2.2.2.2.2.2.2.2.2.2.2.2.2.2.2.1) d.1 d.2.1 d.2.2.1 d.2.2.2.1 d.2.2.2.2.1 d.2.2.2.2.2.1 d.2.2.2.2.2.2.1 d.2.2.2.2.2.2.2.1 d.2.2.2.2.2.2.2.2.1 d.2.2.2.2.2.2.2.2.2.1 d.2.2.2.2.2.2.2.2.2.2.1 d.2.2.2.2.2.2.2.2.2.2.2.1 d.2.2.2.2.2.2.2.2.2.2.2.2.1 d.2.2.2.2.2.2.2.2.2.2.2.2.2.1 d.2.2.2.2.2.2.2.2.2.2.2.2.2.2.1 d.2.2.2.2.2.2.2.2.2.2.2.2.2.2.2.1 d.2.2.2.2.2.2.2.2.2.2.2.2.2.2.2.2.1) (0, a0.1, a0.2.1.1, a0.2.1.2.1, a0.2.2.1, a0.2.2.2.1.1, a0.2.2.2.1.2.1, a0.2.2.2.1.2.2.1, a0.2.2.2.1.2.2.2.1.1, a0.2.2.2.1.2.2.2.1.2.1, a0.2.2.2.1.2.2.2.1.2.2.1, a0.2.2.2.1.2.2.2.1.2.2.2.1, a0.2.2.2.1.2.2.2.2.1, a0.2.2.2.1.2.2.2.2.2.1, a0.2.2.2.1.2.2.2.2.2.2.1.1, a0.2.2.2.2)).bind fun val => Be (fun val => ((fun d => Ax (Bj d.1 d.2.1 d.2.2.1 d.2.2.2.1 d.2.2.2.2.1 d.2.2.2.2.2.1 d.2.2.2.2.2.2.1 d.2.2.2.2.2.2.2.1 d.2.2.2.2.2.2.2.2.1 d.2.2.2.2.2.2.2.2.2.1 d.2.2.2.2.2.2.2.2.2.2.1 d.2.2.2.2.2.2.2.2.2.2.2.1 d.2.2.2.2.2.2.2.2.2.2.2.2.1 d.2.2.2.2.2.2.2.2.2.2.2.2.2.1 d.2.2.2.2.2.2.2.2.2.2.2.2.2.2.1 d.2.2.2.2.2.2.2.2.2.2.2.2.2.2.2.1 d.2.2.2.2.2.2.2.2.2.2.2.2.2.2.2.2.1) d.1 d.2.1 d.2.2.1 d.2.2.2.1 d.2.2.2.2.1 d.2.2.2.2.2.1 d.2.2.2.2.2.2.1 d.2.2.2.2.2.2.2.1 d.2.2.2.2.2.2.2.2.1 d.2.2.2.2.2.2.2.2.2.1 d.2.2.2.2.2.2.2.2.2.2.1 d.2.2.2.2.2.2.2.2.2.2.2.1 d.2.2.2.2.2.2.2.2.2.2.2.2.1 d.2.2.2.2.2.2.2.2.2.2.2.2.2.1 d.2.2.2.2.2.2.2.2.2.2.2.2.2.2.1 d.2.2.2.2.2.2.2.2.2.2.2.2.2.2.2.1 d.2.2.2.2.2.2.2.2.2.2.2.2.2.2.2.2.1) (0, val)).bind fun val => Be (fun val => some ((true, ()), ())) (fun val => some (val, ())) val) (fun val => some (val, ())) val else bif !a0.2.2.1 then bif !I0 a0.2.2.2.1 then some ((false, ()), ()) else ((fun d => A8 (Cc d.1 d.2.1 d.2.2.1 d.2.2.2.1 d.2.2.2.2.1 d.2.2.2.2.2.1 d.2.2.2.2.2.2.1 d.2.2.2.2.2.2.2.1 d.2.2.2.2.2.2.2.2.1 d.2.2.2.2.2.2.2.2.2.1 d.2.2.2.2.2.2.2.2.2.2.1 d.2.2.2.2.2.2.2.2.2.2.2.1 d.2.2.2.2.2.2.2.2.2.2.2.2.1 d.2.2.2.2.2.2.2.2.2.2.2.2.2.1 d.2.2.2.2.2.2.2.2.2.2.2.2.2.2.1 d.2.2.2.2.2.2.2.2.2.2.2.2.2.2.2.1 d.2.2.2.2.2.2.2.2.2.2.2.2.2.2.2.2.1) d.1 d.2.1 d.2.2.1 d.2.2.2.1 d.2.2.2.2.1 d.2.2.2.2.2.1 d.2.2.2.2.2.2.1 d.2.2.2.2.2.2.2.1 d.2.2.2.2.2.2.2.2.1 d.2.2.2.2.2.2.2.2.2.1 d.2.2.2.2.2.2.2.2.2.2.1 d.2.2.2.2.2.2.2.2.2.2.2.1 d.2.2.2.2.2.2.2.2.2.2.2.2.1 d.2.2.2.2.2.2.2.2.2.2.2.2.2.1 d.2.2.2.2.2.2.2.2.2.2.2.2.2.2.1 d.2.2.2.2.2.2.2.2.2.2.2.2.2.2.2.1 d.2.2.2.2.2.2.2.2.2.2.2.2.2.2.2.2.1) (0, a0.1, a0.2.1.1, a0.2.1.2.1, a0.2.2.1, a0.2.2.2.1.1, a0.2.2.2.1.2.1, a0.2.2.2.1.2.2.1, a0.2.2.2.1.2.2.2.1.1, a0.2.2.2.1.2.2.2.1.2.1, a0.2.2.2.1.2.2.2.1.2.2.1, a0.2.2.2.1.2.2.2.1.2.2.2.1, a0.2.2.2.1.2.2.2.2.1, a0.2.2.2.1.2.2.2.2.2.1, a0.2.2.2.1.2.2.2.2.2.2.1.1, a0.2.2.2.2)).bind fun val => Be (fun val => ((fun d => Ax (Bj d.1 d.2.1 d.2.2.1 d.2.2.2.1 d.2.2.2.2.1 d.2.2.2.2.2.1 d.2.2.2.2.2.2.1 d.2.2.2.2.2.2.2.1 d.2.2.2.2.2.2.2.2.1 d.2.2.2.2.2.2.2.2.2.1 d.2.2.2.2.2.2.2.2.2.2.1 d.2.2.2.2.2.2.2.2.2.2.2.1 d.2.2.2.2.2.2.2.2.2.2.2.2.1 d.2.2.2.2.2.2.2.2.2.2.2.2.2.1 d.2.2.2.2.2.2.2.2.2.2.2.2.2.2.1 d.2.2.2.2.2.2.2.2.2.2.2.2.2.2.2.1 d.2.2.2.2.2.2.2.2.2.2.2.2.2.2.2.2.1) d.1 d.2.1 d.2.2.1 d.2.2.2.1 d.2.2.2.2.1 d.2.2.2.2.2.1 d.2.2.2.2.2.2.1 d.2.2.2.2.2.2.2.1 d.2.2.2.2.2.2.2.2.1 d.2.2.2.2.2.2.2.2.2.1 d.2.2.2.2.2.2.2.2.2.2.1 d.2.2.2.2.2.2.2.2.2.2.2.1 d.2.2.2.2.2.2.2.2.2.2.2.2.1 d.2.2.2.2.2.2.2.2.2.2.2.2.2.1 d.2.2.2.2.2.2.2.2.2.2.2.2.2.2.1 d.2.2.2.2.2.2.2.2.2.2.2.2.2.2.2.1 d.2.2.2.2.2.2.2.2.2.2.2.2.2.2.2.2.1) (0, val)).bind fun val => Be (fun val => some ((true, ()), ())) (fun val => some (val, ())) val) (fun val => some (val, ())) val else ((fun d => A8 (Cc d.1 d.2.1 d.2.2.1 d.2.2.2.1 d.2.2.2.2.1 d.2.2.2.2.2.1 d.2.2.2.2.2.2.1 d.2.2.2.2.2.2.2.1 d.2.2.2.2.2.2.2.2.1 d.2.2.2.2.2.2.2.2.2.1 d.2.2.2.2.2.2.2.2.2.2.1 d.2.2.2.2.2.2.2.2.2.2.2.1 d.2.2.2.2.2.2.2.2.2.2.2.2.1 d.2.2.2.2.2.2.2.2.2.2.2.2.2.1 d.2.2.2.2.2.2.2.2.2.2.2.2.2.2.1 d.2.2.2.2.2.2.2.2.2.2.2.2.2.2.2.1 d.2.2.2.2.2.2.2.2.2.2.2.2.2.2.2.2.1) d.1 d.2.1 d.2.2.1 d.2.2.2.1 d.2.2.2.2.1 d.2.2.2.2.2.1 d.2.2.2.2.2.2.1 d.2.2.2.2.2.2.2.1 d.2.2.2.2.2.2.2.2.1 d.2.2.2.2.2.2.2.2.2.1 d.2.2.2.2.2.2.2.2.2.2.1 d.2.2.2.2.2.2.2.2.2.2.2.1 d.2.2.2.2.2.2.2.2.2.2.2.2.1 d.2.2.2.2.2.2.2.2.2.2.2.2.2.1 d.2.2.2.2.2.2.2.2.2.2.2.2.2.2.1 d.2.2.2.2.2.2.2.2.2.2.2.2.2.2.2.1 d.2.2.2.2.2.2.2.2.2.2.2.2.2.2.2.2.1) (0, a0.1, a0.2.1.1, a0.2.1.2.1, a0.2.2.1, a0.2.2.2.1.1, a0.2.2.2.1.2.1, a0.2.2.2.1.2.2.1, a0.2.2.2.1.2.2.2.1.1, a0.2.2.2.1.2.2.2.1.2.1, a0.2.2.2.1.2.2.2.1.2.2.1, a0.2.2.2.1.2.2.2.1.2.2.2.1, a0.2.2.2.1.2.2.2.2.1, a0.2.2.2.1.2.2.2.2.2.1, a0.2.2.2.1.2.2.2.2.2.2.1.1, a0.2.2.2.2)).bind fun val => Be (fun val => ((fun d => Ax (Bj d.1 d.2.1 d.2.2.1 d.2.2.2.1 d.2.2.2.2.1 d.2.2.2.2.2.1 d.2.2.2.2.2.2.1 d.2.2.2.2.2.2.2.1 d.2.2.2.2.2.2.2.2.1 d.2.2.2.2.2.2.2.2.2.1 d.2.2.2.2.2.2.2.2.2.2.1 d.2.2.2.2.2.2.2.2.2.2.2.1 d.2.2.2.2.2.2.2.2.2.2.2.2.1 d.2.2.2.2.2.2.2.2.2.2.2.2.2.1 d.2.2.2.2.2.2.2.2.2.2.2.2.2.2.1 d.2.2.2.2.2.2.2.2.2.2.2.2.2.2.2.1 d.2.2.2.2.2.2.2.2.2.2.2.2.2.2.2.2.1) d.1 d.2.1 d.2.2.1 d.2.2.2.1 d.2.2.2.2.1 d.2.2.2.2.2.1 d.2.2.2.2.2.2.1 d.2.2.2.2.2.2.2.1 d.2.2.2.2.2.2.2.2.1 d.2.2.2.2.2.2.2.2.2.1 d.2.2.2.2.2.2.2.2.2.2.1 d.2.2.2.2.2.2.2.2.2.2.2.1 d.2.2.2.2.2.2.2.2.2.2.2.2.1 d.2.2.2.2.2.2.2.2.2.2.2.2.2.1 d.2.2.2.2.2.2.2.2.2.2.2.2.2.2.1 d.2.2.2.2.2.2.2.2.2.2.2.2.2.2.2.1 d.2.2.2.2.2.2.2.2.2.2.2.2.2.2.2.2.1) (0, val)).bind fun val => Be (fun val => some ((true, ()), ())) (fun val => some (val, ())) val) (fun val => some (val, ())) val
theorem Axp (xs : List Stt) (h : xs.length ≤ 200) (b0 : Int) (b1 : List ByteArray) (b2 : List Wr) (b3 : Bool) (b4 b5 b6 b7 b8 b9 b10 b11 b12 : Int) (b13 : List Pr2) (b15 : List ByteArray) :
  A8 (Cc 0 b0 b1 b2 b3 b4 b5 b6 b7 b8 b9 b10 b11 b12 b13 xs b15) 0 b0 b1 b2 b3 b4 b5 b6 b7 b8 b9 b10 b11 b12 b13 xs b15 =
  some (bif (List.range' 0 xs.length).all (fun i => Aq (xs.getD i Ys)) then .inl (b0, b1, b2, b3, b4, b5, b6, b7, b8, b9, b10, b11, b12, b13, xs, b15, ()) else .inr (false, ())) := by
 have hL := Ix (n := xs.length) (fun i => Aq (xs.getD i Ys)) (g := fun m i => A8 m i b0 b1 b2 b3 b4 b5 b6 b7 b8 b9 b10 b11 b12 b13 xs b15) (ok := .inl (b0, b1, b2, b3, b4, b5, b6, b7, b8, b9, b10, b11, b12, b13, xs, b15, ())) (bad := .inr (false, ())) (fun m i hi => by
  show A8 (m + 1) i b0 b1 b2 b3 b4 b5 b6 b7 b8 b9 b10 b11 b12 b13 xs b15 = _
  simp only [A8, Ga]
  rw [Mg hi, Fh, wI (show i < 4611686018427387904 by omega), Int.toNat_natCast]
  show (bif !Aq (xs.getD i Ys) then _ else _) = _
  cases Aq (xs.getD i Ys) <;> rfl) (fun m => by
  show A8 (m + 1) (xs.length : Int) b0 b1 b2 b3 b4 b5 b6 b7 b8 b9 b10 b11 b12 b13 xs b15 = _
  simp only [A8, Ga]
  rw [Hx]
  rfl) (Cc 0 b0 b1 b2 b3 b4 b5 b6 b7 b8 b9 b10 b11 b12 b13 xs b15) 0 (by omega) (by simp [Cc, nI])
 exact hL
theorem Amz (xs : List ByteArray) (h : xs.length ≤ 2000) (b0 : Int) (b1 : List ByteArray) (b2 : List Wr) (b3 : Bool) (b4 b5 b6 b7 b8 b9 b10 b11 b12 : Int) (b13 : List Pr2) (b14 : List Stt) : Ax (Bj 0 b0 b1 b2 b3 b4 b5 b6 b7 b8 b9 b10 b11 b12 b13 b14 xs) 0 b0 b1 b2 b3 b4 b5 b6 b7 b8 b9 b10 b11 b12 b13 b14 xs =
  some (bif (List.range' 0 xs.length).all (fun i => decide ((xs.getD i z0).size = 64)) then .inl () else .inr (false, ())) := by
 have hL := Ix (n := xs.length) (fun i => decide ((xs.getD i z0).size = 64)) (g := fun m i => Ax m i b0 b1 b2 b3 b4 b5 b6 b7 b8 b9 b10 b11 b12 b13 b14 xs) (ok := .inl ()) (bad := .inr (false, ())) (fun m i hi => by
  show Ax (m + 1) i b0 b1 b2 b3 b4 b5 b6 b7 b8 b9 b10 b11 b12 b13 b14 xs = _
  simp only [Ax, Fk]
  have e : (nI (ByteArray.size (List.getD xs i (ByteArray.mk #[]))) != 64) = !decide ((xs.getD i z0).size = 64) := Az3 (xs.getD i z0).size 64
  rw [Mg hi, Fh, wI (show i < 4611686018427387904 by omega), Int.toNat_natCast, e]
  cases decide ((xs.getD i z0).size = 64) <;> rfl) (fun m => by
  show Ax (m + 1) (xs.length : Int) b0 b1 b2 b3 b4 b5 b6 b7 b8 b9 b10 b11 b12 b13 b14 xs = _
  simp only [Ax, Fk]
  rw [Hx]
  rfl) (Bj 0 b0 b1 b2 b3 b4 b5 b6 b7 b8 b9 b10 b11 b12 b13 b14 xs) 0 (by omega) (by simp [Bj, nI])
 exact hL
theorem Aa8 (a0 : Wld) : Mo a0 = some (((Ke a0), ()), (())) := by
 unfold Mo Ke D9
 refine Xr (wid a0.1) ?_
 show (bif !Eo a0.1 1 8 then _ else bif !Bp a0.2.1 then _ else bif !Eo (nI a0.2.2.2.2.1.length) 1 200 then _ else _) = _
 cases Eo a0.1 1 8 with
 | false => rfl
 | true =>
  cases Bp a0.2.1 with
  | false => rfl
  | true =>
   cases hp : Eo (nI a0.2.2.2.2.1.length) 1 200 with
   | false => rfl
   | true =>
    have hpl : a0.2.2.2.2.1.length ≤ 200 := by have := (G4 hp).2; simp only [nI] at this; omega
    have e1 : decide (nI a0.2.2.2.2.2.1.length > 2000) = !decide (a0.2.2.2.2.2.1.length ≤ 2000) := Zj _ 2000
    rw [e1]
    cases hw : decide (a0.2.2.2.2.2.1.length ≤ 2000) with
    | false => rfl
    | true =>
     have hwl := of_decide_eq_true hw
     simp only [Bool.not_true, Bool.true_and, cond_false]
     have key : ∀ b : Bool, (bif b then (bif R6 a0 then (bif Iz a0 then some ((true, ()), ()) else some ((false, ()), ())) else some ((false, ()), ())) else some ((false, ()), ())) = (some ((b && (R6 a0 && Iz a0), ()), ()) : Option ((Bool × Unit) × Unit)) := fun b => by
      cases b <;> cases R6 a0 <;> cases Iz a0 <;> rfl
     rw [← key]
     simp only [Axp _ hpl, Option.bind_some]
     show _ = (bif Vf a0 then (bif R6 a0 then (bif Iz a0 then _ else _) else _) else _)
     unfold Vf
     have hP : R6 a0 = (List.range' 0 a0.2.2.2.2.1.length).all (fun i => Aq (a0.2.2.2.2.1.getD i Ys)) := rfl
     have hW : Iz a0 = (List.range' 0 a0.2.2.2.2.2.1.length).all (fun i => decide ((a0.2.2.2.2.2.1.getD i z0).size = 64)) := rfl
     rw [hP, hW]
     cases hu : a0.2.2.1 with
     | true =>
      simp only [cond_true, Bool.not_true, cond_false]
      show (bif !Ji a0.2.2.2.1 then _ else _) = _
      have w1 : (a0.2.2.2.1.1 != a0.1) = !(a0.2.2.2.1.1 == a0.1) := rfl
      have w2 : (a0.2.2.2.1.2.1 != nI a0.2.1.1.length) = !(a0.2.2.2.1.2.1 == nI a0.2.1.1.length) := rfl
      rw [w1, w2]
      cases Ji a0.2.2.2.1 with
      | false => rfl
      | true =>
       cases (a0.2.2.2.1.1 == a0.1) with
       | false => rfl
       | true =>
        cases (a0.2.2.2.1.2.1 == nI a0.2.1.1.length) with
        | false => rfl
        | true =>
         cases (List.range' 0 a0.2.2.2.2.1.length).all (fun i => Aq (a0.2.2.2.2.1.getD i Ys)) with
         | false => rfl
         | true =>
          show (Ax (Bj 0 a0.1 a0.2.1.1 a0.2.1.2.1 true a0.2.2.2.1.1 a0.2.2.2.1.2.1 a0.2.2.2.1.2.2.1 a0.2.2.2.1.2.2.2.1.1 a0.2.2.2.1.2.2.2.1.2.1 a0.2.2.2.1.2.2.2.1.2.2.1 a0.2.2.2.1.2.2.2.1.2.2.2.1 a0.2.2.2.1.2.2.2.2.1 a0.2.2.2.1.2.2.2.2.2.1 a0.2.2.2.1.2.2.2.2.2.2.1.1 a0.2.2.2.2.1 a0.2.2.2.2.2.1) 0 a0.1 a0.2.1.1 a0.2.1.2.1 true a0.2.2.2.1.1 a0.2.2.2.1.2.1 a0.2.2.2.1.2.2.1 a0.2.2.2.1.2.2.2.1.1 a0.2.2.2.1.2.2.2.1.2.1 a0.2.2.2.1.2.2.2.1.2.2.1 a0.2.2.2.1.2.2.2.1.2.2.2.1 a0.2.2.2.1.2.2.2.2.1 a0.2.2.2.1.2.2.2.2.2.1 a0.2.2.2.1.2.2.2.2.2.2.1.1 a0.2.2.2.2.1 a0.2.2.2.2.2.1).bind _ = _
          rw [Amz _ hwl]
          cases (List.range' 0 a0.2.2.2.2.2.1.length).all (fun i => decide ((a0.2.2.2.2.2.1.getD i z0).size = 64)) <;> rfl
     | false =>
      simp only [cond_true, Bool.not_false, cond_false]
      show (bif !Rg a0.2.2.2.1 then _ else _) = _
      cases Rg a0.2.2.2.1 with
      | false => rfl
      | true =>
       cases (List.range' 0 a0.2.2.2.2.1.length).all (fun i => Aq (a0.2.2.2.2.1.getD i Ys)) with
       | false => rfl
       | true =>
        show (Ax (Bj 0 a0.1 a0.2.1.1 a0.2.1.2.1 false a0.2.2.2.1.1 a0.2.2.2.1.2.1 a0.2.2.2.1.2.2.1 a0.2.2.2.1.2.2.2.1.1 a0.2.2.2.1.2.2.2.1.2.1 a0.2.2.2.1.2.2.2.1.2.2.1 a0.2.2.2.1.2.2.2.1.2.2.2.1 a0.2.2.2.1.2.2.2.2.1 a0.2.2.2.1.2.2.2.2.2.1 a0.2.2.2.1.2.2.2.2.2.2.1.1 a0.2.2.2.2.1 a0.2.2.2.2.2.1) 0 a0.1 a0.2.1.1 a0.2.1.2.1 false a0.2.2.2.1.1 a0.2.2.2.1.2.1 a0.2.2.2.1.2.2.1 a0.2.2.2.1.2.2.2.1.1 a0.2.2.2.1.2.2.2.1.2.1 a0.2.2.2.1.2.2.2.1.2.2.1 a0.2.2.2.1.2.2.2.1.2.2.2.1 a0.2.2.2.1.2.2.2.2.1 a0.2.2.2.1.2.2.2.2.2.1 a0.2.2.2.1.2.2.2.2.2.2.1.1 a0.2.2.2.2.1 a0.2.2.2.2.2.1).bind _ = _
        rw [Amz _ hwl]
        cases (List.range' 0 a0.2.2.2.2.2.1.length).all (fun i => decide ((a0.2.2.2.2.2.1.getD i z0).size = 64)) <;> rfl
noncomputable def P9 {R : Type} (k : Kt R) := (Be (Hw (pa_spec_ValidWorld 7) (.exit 0) 2 k) (Hw (pa_spec_ValidWorld 7) .ret 1 k))
noncomputable def Ox {R : Type} (k : Kt R) := (Be (Hw (pa_spec_ValidWorld 12) (.exit 2) 4 k) (Hw (pa_spec_ValidWorld 12) .ret 1 k))
noncomputable def N0 {R : Type} : Lt R pa_spec_ValidWorld := (D5 (pat := pa_spec_ValidWorld) 7 (fun d k => (A8 (Cc d.1 d.2.1 d.2.2.1 d.2.2.2.1 d.2.2.2.2.1 d.2.2.2.2.2.1 d.2.2.2.2.2.2.1 d.2.2.2.2.2.2.2.1 d.2.2.2.2.2.2.2.2.1 d.2.2.2.2.2.2.2.2.2.1 d.2.2.2.2.2.2.2.2.2.2.1 d.2.2.2.2.2.2.2.2.2.2.2.1 d.2.2.2.2.2.2.2.2.2.2.2.2.1 d.2.2.2.2.2.2.2.2.2.2.2.2.2.1 d.2.2.2.2.2.2.2.2.2.2.2.2.2.2.1 d.2.2.2.2.2.2.2.2.2.2.2.2.2.2.2.1 d.2.2.2.2.2.2.2.2.2.2.2.2.2.2.2.2.1) d.1 d.2.1 d.2.2.1 d.2.2.2.1 d.2.2.2.2.1 d.2.2.2.2.2.1 d.2.2.2.2.2.2.1 d.2.2.2.2.2.2.2.1 d.2.2.2.2.2.2.2.2.1 d.2.2.2.2.2.2.2.2.2.1 d.2.2.2.2.2.2.2.2.2.2.1 d.2.2.2.2.2.2.2.2.2.2.2.1 d.2.2.2.2.2.2.2.2.2.2.2.2.1 d.2.2.2.2.2.2.2.2.2.2.2.2.2.1 d.2.2.2.2.2.2.2.2.2.2.2.2.2.2.1 d.2.2.2.2.2.2.2.2.2.2.2.2.2.2.2.1 d.2.2.2.2.2.2.2.2.2.2.2.2.2.2.2.2.1).bind (P9 k)) (D5 (pat := pa_spec_ValidWorld) 12 (fun d k => (Ax (Bj d.1 d.2.1 d.2.2.1 d.2.2.2.1 d.2.2.2.2.1 d.2.2.2.2.2.1 d.2.2.2.2.2.2.1 d.2.2.2.2.2.2.2.1 d.2.2.2.2.2.2.2.2.1 d.2.2.2.2.2.2.2.2.2.1 d.2.2.2.2.2.2.2.2.2.2.1 d.2.2.2.2.2.2.2.2.2.2.2.1 d.2.2.2.2.2.2.2.2.2.2.2.2.1 d.2.2.2.2.2.2.2.2.2.2.2.2.2.1 d.2.2.2.2.2.2.2.2.2.2.2.2.2.2.1 d.2.2.2.2.2.2.2.2.2.2.2.2.2.2.2.1 d.2.2.2.2.2.2.2.2.2.2.2.2.2.2.2.2.1) d.1 d.2.1 d.2.2.1 d.2.2.2.1 d.2.2.2.2.1 d.2.2.2.2.2.1 d.2.2.2.2.2.2.1 d.2.2.2.2.2.2.2.1 d.2.2.2.2.2.2.2.2.1 d.2.2.2.2.2.2.2.2.2.1 d.2.2.2.2.2.2.2.2.2.2.1 d.2.2.2.2.2.2.2.2.2.2.2.1 d.2.2.2.2.2.2.2.2.2.2.2.2.1 d.2.2.2.2.2.2.2.2.2.2.2.2.2.1 d.2.2.2.2.2.2.2.2.2.2.2.2.2.2.1 d.2.2.2.2.2.2.2.2.2.2.2.2.2.2.2.1 d.2.2.2.2.2.2.2.2.2.2.2.2.2.2.2.2.1).bind (Ox k)) Ff))
theorem Mq : Au Tryz.prog ta_spec_ValidWorld := At ⟨Aa6, Db, Kd, Adc, Adk, Jj, trivial⟩
theorem Yt {R : Type} : Aw Tryz.prog R 93 0 pa_spec_ValidWorld N0 co_spec_ValidWorld_12 :=
 B1 (cfg := ⟨ta_spec_ValidWorld, 0, 93, pa_spec_ValidWorld⟩) 12 [] (fun NX X (d : (Int) × (Int) × (List ByteArray) × (List Wr) × (Bool) × (Int) × (Int) × (Int) × (Int) × (Int) × (Int) × (Int) × (Int) × (Int) × (List Pr2) × (List Stt) × (List ByteArray) × Unit) => Fk  NX (fun e => X (.inl (e))) (fun e => X (.inr (e))) d.1 d.2.1 d.2.2.1 d.2.2.2.1 d.2.2.2.2.1 d.2.2.2.2.2.1 d.2.2.2.2.2.2.1 d.2.2.2.2.2.2.2.1 d.2.2.2.2.2.2.2.2.1 d.2.2.2.2.2.2.2.2.2.1 d.2.2.2.2.2.2.2.2.2.2.1 d.2.2.2.2.2.2.2.2.2.2.2.1 d.2.2.2.2.2.2.2.2.2.2.2.2.1 d.2.2.2.2.2.2.2.2.2.2.2.2.2.1 d.2.2.2.2.2.2.2.2.2.2.2.2.2.2.1 d.2.2.2.2.2.2.2.2.2.2.2.2.2.2.2.1 d.2.2.2.2.2.2.2.2.2.2.2.2.2.2.2.2.1) (fun m d => Ax m d.1 d.2.1 d.2.2.1 d.2.2.2.1 d.2.2.2.2.1 d.2.2.2.2.2.1 d.2.2.2.2.2.2.1 d.2.2.2.2.2.2.2.1 d.2.2.2.2.2.2.2.2.1 d.2.2.2.2.2.2.2.2.2.1 d.2.2.2.2.2.2.2.2.2.2.1 d.2.2.2.2.2.2.2.2.2.2.2.1 d.2.2.2.2.2.2.2.2.2.2.2.2.1 d.2.2.2.2.2.2.2.2.2.2.2.2.2.1 d.2.2.2.2.2.2.2.2.2.2.2.2.2.2.1 d.2.2.2.2.2.2.2.2.2.2.2.2.2.2.2.1 d.2.2.2.2.2.2.2.2.2.2.2.2.2.2.2.2.1) (fun d => Bj d.1 d.2.1 d.2.2.1 d.2.2.2.1 d.2.2.2.2.1 d.2.2.2.2.2.1 d.2.2.2.2.2.2.1 d.2.2.2.2.2.2.2.1 d.2.2.2.2.2.2.2.2.1 d.2.2.2.2.2.2.2.2.2.1 d.2.2.2.2.2.2.2.2.2.2.1 d.2.2.2.2.2.2.2.2.2.2.2.1 d.2.2.2.2.2.2.2.2.2.2.2.2.1 d.2.2.2.2.2.2.2.2.2.2.2.2.2.1 d.2.2.2.2.2.2.2.2.2.2.2.2.2.2.1 d.2.2.2.2.2.2.2.2.2.2.2.2.2.2.2.1 d.2.2.2.2.2.2.2.2.2.2.2.2.2.2.2.2.1) Ox Mq trivial (fun f NX (d : (Int) × (Int) × (List ByteArray) × (List Wr) × (Bool) × (Int) × (Int) × (Int) × (Int) × (Int) × (Int) × (Int) × (Int) × (Int) × (List Pr2) × (List Stt) × (List ByteArray) × Unit) => by unfold Fk; simp only [Aj, Ap, Ai, Option.bind_assoc, Option.bind_none, Option.bind_some]) (fun _ _ _ => by kernel_rfl)
theorem Zy {R : Type} : Aw Tryz.prog R 93 0 pa_spec_ValidWorld N0 co_spec_ValidWorld_7 :=
 B1 (cfg := ⟨ta_spec_ValidWorld, 0, 93, pa_spec_ValidWorld⟩) 7 [] (fun NX X (d : (Int) × (Int) × (List ByteArray) × (List Wr) × (Bool) × (Int) × (Int) × (Int) × (Int) × (Int) × (Int) × (Int) × (Int) × (Int) × (List Pr2) × (List Stt) × (List ByteArray) × Unit) => Ga  NX (fun e => X (.inl (e))) (fun e => X (.inr (e))) d.1 d.2.1 d.2.2.1 d.2.2.2.1 d.2.2.2.2.1 d.2.2.2.2.2.1 d.2.2.2.2.2.2.1 d.2.2.2.2.2.2.2.1 d.2.2.2.2.2.2.2.2.1 d.2.2.2.2.2.2.2.2.2.1 d.2.2.2.2.2.2.2.2.2.2.1 d.2.2.2.2.2.2.2.2.2.2.2.1 d.2.2.2.2.2.2.2.2.2.2.2.2.1 d.2.2.2.2.2.2.2.2.2.2.2.2.2.1 d.2.2.2.2.2.2.2.2.2.2.2.2.2.2.1 d.2.2.2.2.2.2.2.2.2.2.2.2.2.2.2.1 d.2.2.2.2.2.2.2.2.2.2.2.2.2.2.2.2.1) (fun m d => A8 m d.1 d.2.1 d.2.2.1 d.2.2.2.1 d.2.2.2.2.1 d.2.2.2.2.2.1 d.2.2.2.2.2.2.1 d.2.2.2.2.2.2.2.1 d.2.2.2.2.2.2.2.2.1 d.2.2.2.2.2.2.2.2.2.1 d.2.2.2.2.2.2.2.2.2.2.1 d.2.2.2.2.2.2.2.2.2.2.2.1 d.2.2.2.2.2.2.2.2.2.2.2.2.1 d.2.2.2.2.2.2.2.2.2.2.2.2.2.1 d.2.2.2.2.2.2.2.2.2.2.2.2.2.2.1 d.2.2.2.2.2.2.2.2.2.2.2.2.2.2.2.1 d.2.2.2.2.2.2.2.2.2.2.2.2.2.2.2.2.1) (fun d => Cc d.1 d.2.1 d.2.2.1 d.2.2.2.1 d.2.2.2.2.1 d.2.2.2.2.2.1 d.2.2.2.2.2.2.1 d.2.2.2.2.2.2.2.1 d.2.2.2.2.2.2.2.2.1 d.2.2.2.2.2.2.2.2.2.1 d.2.2.2.2.2.2.2.2.2.2.1 d.2.2.2.2.2.2.2.2.2.2.2.1 d.2.2.2.2.2.2.2.2.2.2.2.2.1 d.2.2.2.2.2.2.2.2.2.2.2.2.2.1 d.2.2.2.2.2.2.2.2.2.2.2.2.2.2.1 d.2.2.2.2.2.2.2.2.2.2.2.2.2.2.2.1 d.2.2.2.2.2.2.2.2.2.2.2.2.2.2.2.2.1) P9 Mq trivial (fun f NX (d : (Int) × (Int) × (List ByteArray) × (List Wr) × (Bool) × (Int) × (Int) × (Int) × (Int) × (Int) × (Int) × (Int) × (Int) × (Int) × (List Pr2) × (List Stt) × (List ByteArray) × Unit) => by unfold Ga; simp only [Aj, Ap, Ai, Option.bind_assoc, Option.bind_none, Option.bind_some]) (fun _ _ _ => by kernel_rfl)
theorem Aa9 : Bf Tryz.prog 13 sd_spec_ValidWorld :=
 Ar (pat := pa_spec_ValidWorld) [co_spec_ValidWorld_7, co_spec_ValidWorld_12] N0 Mq ⟨Zy, Yt, trivial⟩ Tryz.func13 (de := fun x => Mo x.1) (fun x r h => (Aa8 x.1).trans h) fun _ => by kernel_rfl
def T1 (p : Pg) (w : Int) : Bool := Jh p w
def Asv : Sig := ⟨[.rd yPg, .rd tI], [some 4, none], [.rd .bool], [none]⟩
noncomputable def sd_spec_l1Ok : SD := ⟨Asv, fun x => some (((T1 x.1 x.2.1), ()), (()))⟩
noncomputable def Xd (a0 : Pg) (a1 : Int) : Option ((((Bool) × Unit) × (Unit))) :=
 Option.bind (bif decide (a1 ≥ 1) then some ((decide (a1 ≤ 8), ()), ()) else some ((false, ()), ())) fun val => bif !val.1.1 then some ((false, ()), ()) else bif decide (a0.1 < 1) then some ((false, ()), ()) else bif decide (a0.1 > 4) then some ((false, ()), ()) else bif decide (a0.2.1 < 1) then some ((false, ()), ()) else bif decide (a0.2.1 > 60000) then some ((false, ()), ()) else bif decide (a0.2.2.1 < 1) then some ((false, ()), ()) else bif decide (a0.2.2.1 > 1000000000) then some ((false, ()), ()) else bif decide (nI (ByteArray.size a0.2.2.2.1) ≤ IntKind.i64.wrap (IntKind.i64.wrap (64 - a1) - 8)) then bif a0.1 != 3 then some ((true, ()), ()) else some ((ByteArray.toList a0.2.2.2.1 == (ByteArray.mk #[]).toList, ()), ()) else some ((false, ()), ())
theorem Asw (a0 : Pg) (a1 : Int) : Xd a0 a1 = some (((T1 a0 a1), ()), (())) := by
 unfold Xd T1 Jh
 have tl : ByteArray.toList (ByteArray.mk #[]) = [] := by decide +kernel
 rw [tl]
 refine Xr (wid a1) ?_
 show (bif !Eo a1 1 8 then _ else _) = _
 cases hw : Eo a1 1 8 with
 | false => rfl
 | true =>
  have k1 := of_decide_eq_true (Cj hw).1
  have k2 := of_decide_eq_true (Cj hw).2
  rw [Ag (n := 64 - a1) (by omega) (by omega), Ag (by omega) (by omega), show 64 - a1 - 8 = 56 - a1 by omega]
  have e : ∀ (x lo hi : Int) {ρ : Type} (f t : ρ), (bif decide (x < lo) then f else bif decide (x > hi) then f else t) = bif Eo x lo hi then t else f := by
   intro x lo hi ρ f t
   unfold Eo
   by_cases h1 : x < lo
   ·rw [decide_eq_true h1, decide_eq_false (show ¬ lo ≤ x by omega)]; rfl
   ·rw [decide_eq_false h1, decide_eq_true (show lo ≤ x by omega)]
    by_cases h2 : x > hi
    ·rw [decide_eq_true h2, decide_eq_false (show ¬ x ≤ hi by omega)]; rfl
    ·rw [decide_eq_false h2, decide_eq_true (show x ≤ hi by omega)]; rfl
  rw [e a0.1, e a0.2.1, e a0.2.2.1]
  cases Eo a0.1 1 4 <;> cases Eo a0.2.1 1 60000 <;> cases Eo a0.2.2.1 1 1000000000 <;> try rfl
  show (bif decide ((ByteArray.size a0.2.2.2.1 : Int) ≤ 56 - a1) then _ else _) = _
  cases decide ((ByteArray.size a0.2.2.2.1 : Int) ≤ 56 - a1) <;> cases (a0.1 != 3) <;> rfl
theorem Asx : Bf Tryz.prog 161 sd_spec_l1Ok :=
 Ar (pat := Ci) [] Ff (At (l := [(69, sd_spec_l1Width), (74, sd_spec_l1Part)]) ⟨Db, Sh, trivial⟩) trivial Tryz.func161 (de := fun x => Xd x.1 x.2.1) (fun x r h => (Asw x.1 x.2.1).trans h) fun _ => by kernel_rfl
theorem Vp : ∃ f : Int → Int → Option ByteArray, f = fun v n => if 0 ≤ v ∧ v < 9223372036854775808 ∧ 0 ≤ n ∧ n ≤ 1000 then some (C1 v n.toNat) else none := ⟨_, rfl⟩
noncomputable def Bl (v n : Int) : Option ByteArray := Classical.choose Vp v n
theorem Fs (v n : Int) : Bl v n = if 0 ≤ v ∧ v < 9223372036854775808 ∧ 0 ≤ n ∧ n ≤ 1000 then some (C1 v n.toNat) else none := by
 unfold Bl
 rw [Classical.choose_spec Vp]
def Hf (v0 v1 : Int) (v5 : ByteArray) (v6 : Int) : Nat := (v1 - v6).toNat + 1
def Aft : Sig := ⟨[.rd tI, .rd tI], [none, none], [.rd .str], [none]⟩
noncomputable def sd_spec_l1Number : SD := ⟨Aft, fun x => (Bl x.1 x.2.1).bind fun r => some ((r, ()), (()))⟩
noncomputable def ta_spec_l1Number : Tb := tb []
def pa_spec_l1Number : Nat → Pat × (Nat → Pat) := Fj [(4, ⟨[], [(0, .lf (.d tI)), (1, .lf (.d tI)), (5, .lf (.d .str)), (6, .lf (.d tI))], []⟩, [(2, ⟨[], [(5, .lf (.d .str))], []⟩)])]
noncomputable def co_spec_l1Number_4 : Code := (Ao (A4 Tryz.f162)).getD 0 .skip
noncomputable def Hg {R : Type}  (NX : ((Int) × (Int) × (ByteArray) × (Int) × Unit) → Option R) (X2 : ((ByteArray) × Unit) → Option R) (v0 : Int) (v1 : Int) (v5 : ByteArray) (v6 : Int) : Option R :=
 bif decide (v6 < v1) then bif decide ((strOfNums [IntKind.u8.wrap (v0.tmod 256)]).size + v5.size ≤ 9223372036854775807) then NX (IntKind.i64.wrap (v0.tdiv 256), v1, strOfNums [IntKind.u8.wrap (v0.tmod 256)] ++ v5, IntKind.i64.wrap (v6 + 1), ()) else none else X2 (v5, ())
noncomputable def Ed : Nat → (Int) → (Int) → (ByteArray) → (Int) →  Option ((ByteArray) × Unit)
 | 0, _, _, _, _ => none
 | m + 1, v0, v1, v5, v6 => Hg  (fun d => Ed m d.1 d.2.1 d.2.2.1 d.2.2.2.1) (fun d => some (d)) v0 v1 v5 v6
noncomputable def O8 (a0 : Int) (a1 : Int) : Option ((((ByteArray) × Unit) × (Unit))) :=
 ((fun d => Ed (Hf d.1 d.2.1 d.2.2.1 d.2.2.2.1) d.1 d.2.1 d.2.2.1 d.2.2.2.1) (a0, a1, ByteArray.mk #[], 0, ())).bind fun val => some (val, ())
theorem u6 : ∀ (k m i : Nat) (v : Int) (out : ByteArray), i + k ≤ 1000 → k < m → out.size = i → 0 ≤ v → v < 9223372036854775808 → Ed m v ((i + k : Nat) : Int) out i = some (C1 v k ++ out, ())
 | 0, m + 1, i, v, out, hi, hm, ho, h0, h1 => by
  simp only [Ed, Hg]
  rw [decide_eq_false (by omega), Au0]
  rfl
 | k + 1, m + 1, i, v, out, hi, hm, ho, h0, h1 => by
  simp only [Ed, Hg]
  have e1 : IntKind.wrap IntKind.u8 (Int.tmod v 256) = v % 256 := by
   rw [Int.tmod_eq_emod_of_nonneg h0]
   show v % 256 % 256 = v % 256
   omega
  have e2 : IntKind.i64.wrap (Int.tdiv v 256) = v / 256 := by
   rw [Int.tdiv_eq_ediv_of_nonneg h0]
   exact Ag (by omega) (by omega)
  rw [decide_eq_true (show (i : Int) < ((i + (k + 1) : Nat) : Int) by omega), e1, e2, decide_eq_true (show ByteArray.size (strOfNums [v % 256]) + ByteArray.size out ≤ 9223372036854775807 by rw [ho, E1]; simp; omega), wI (show i < 4611686018427387904 by omega)]
  have hL := u6 k m (i + 1) (v / 256) (strOfNums [v % 256] ++ out) (by omega) (by omega) (by rw [ByteArray.size_append, ho, E1]; simp; omega) (by omega) (by omega)
  rw [show i + 1 + k = i + (k + 1) by omega] at hL
  refine hL.trans ?_
  rw [← ByteArray.append_assoc, ← Au1]
theorem Afu (a0 : Int) (a1 : Int) r (h : Bl a0 a1 = some r) : O8 a0 a1 = some ((r, ()), (())) := by
 rw [Fs] at h
 split at h
 ·rename_i hc
  cases h
  obtain ⟨n, rfl⟩ : ∃ n : Nat, a1 = (n : Int) := ⟨a1.toNat, by omega⟩
  unfold O8
  have hL := u6 n (Hf a0 n (ByteArray.mk #[]) 0) 0 a0 (ByteArray.mk #[]) (by omega) (by simp only [Hf]; omega) rfl hc.1 hc.2.1
  rw [Nat.zero_add] at hL
  rw [A1w] at hL
  exact Xr hL rfl
 ·cases h
noncomputable def Si {R : Type} (k : Kt R) := (Hw (pa_spec_l1Number 4) (.exit 0) 2 k)
noncomputable def X5 {R : Type} : Lt R pa_spec_l1Number := (D5 (pat := pa_spec_l1Number) 4 (fun d k => (Ed (Hf d.1 d.2.1 d.2.2.1 d.2.2.2.1) d.1 d.2.1 d.2.2.1 d.2.2.2.1).bind (Si k)) Ff)
theorem Vq : Au Tryz.prog ta_spec_l1Number := At trivial
theorem Aba {R : Type} : Aw Tryz.prog R 22 0 pa_spec_l1Number X5 co_spec_l1Number_4 :=
 B1 (cfg := ⟨ta_spec_l1Number, 0, 22, pa_spec_l1Number⟩) 4 [] (fun NX X d => Hg  NX X d.1 d.2.1 d.2.2.1 d.2.2.2.1) (fun m d => Ed m d.1 d.2.1 d.2.2.1 d.2.2.2.1) (fun d => Hf d.1 d.2.1 d.2.2.1 d.2.2.2.1) Si Vq trivial (fun f NX d => by unfold Hg; simp only [Aj, Ap, Ai, Option.bind_assoc, Option.bind_none, Option.bind_some]) (fun _ _ _ => by kernel_rfl)
theorem Vr : Bf Tryz.prog 162 sd_spec_l1Number :=
 Ar (pat := pa_spec_l1Number) [co_spec_l1Number_4] X5 Vq ⟨Aba, trivial⟩ Tryz.func162 (de := fun x => O8 x.1 x.2.1) (fun x r h => A3 (Afu x.1 x.2.1) h) fun _ => by kernel_rfl
def Sj (s : ByteArray) (w : Int) : Option ByteArray := if s.size < 4611686018427387904 then some (Acv s w) else none
def Lo (v0 : ByteArray) (v1 v5 v6 : Int) : Nat := (nI v0.size - v6).toNat + 1
def Kx (v1 v5 : Int) (v7 : ByteArray) (v8 : Int) : Nat := (v1 - v8).toNat + 1
def Avp : Sig := ⟨[.rd .str, .rd tI], [none, none], [.rd .str], [none]⟩
noncomputable def sd_spec_Sum : SD := ⟨Avp, fun x => (Sj x.1 x.2.1).bind fun r => some ((r, ()), (()))⟩
noncomputable def ta_spec_Sum : Tb := tb [(69, sd_spec_l1Width)]
def pa_spec_Sum : Nat → Pat × (Nat → Pat) := Fj [(6, ⟨[], [(0, .lf (.d .str)), (1, .lf (.d tI)), (5, .lf (.d (.int .u64))), (6, .lf (.d tI))], []⟩, [(2, ⟨[], [(1, .lf (.d tI)), (5, .lf (.d (.int .u64)))], []⟩)]), (11, ⟨[], [(1, .lf (.d tI)), (5, .lf (.d (.int .u64))), (7, .lf (.d .str)), (8, .lf (.d tI))], []⟩, [(4, ⟨[], [(7, .lf (.d .str))], []⟩)])]
noncomputable def co_spec_Sum_6 : Code := (Ao (A4 Tryz.f163)).getD 0 .skip
noncomputable def co_spec_Sum_11 : Code := (Ao (A4 Tryz.f163)).getD 1 .skip
noncomputable def Ky {R : Type}  (NX : ((Int) × (Int) × (ByteArray) × (Int) × Unit) → Option R) (X4 : ((ByteArray) × Unit) → Option R) (v1 : Int) (v5 : Int) (v7 : ByteArray) (v8 : Int) : Option R :=
 bif decide (v8 < v1) then bif decide ((strOfNums [IntKind.u8.wrap (v5.tmod 256)]).size + v7.size ≤ 9223372036854775807) then NX (v1, IntKind.u64.wrap (v5.tdiv 256), strOfNums [IntKind.u8.wrap (v5.tmod 256)] ++ v7, IntKind.i64.wrap (v8 + 1), ()) else none else X4 (v7, ())
noncomputable def Hh : Nat → (Int) → (Int) → (ByteArray) → (Int) →  Option ((ByteArray) × Unit)
 | 0, _, _, _, _ => none
 | m + 1, v1, v5, v7, v8 => Ky  (fun d => Hh m d.1 d.2.1 d.2.2.1 d.2.2.2.1) (fun d => some (d)) v1 v5 v7 v8
noncomputable def Lp {R : Type}  (NX : ((ByteArray) × (Int) × (Int) × (Int) × Unit) → Option R) (X2 : ((Int) × (Int) × Unit) → Option R) (v0 : ByteArray) (v1 : Int) (v5 : Int) (v6 : Int) : Option R :=
 bif decide (v6 < nI v0.size) then bif decide (0 ≤ v6) then bif decide (v6 < nI v0.size) then NX (v0, v1, IntKind.u64.wrap (IntKind.u64.wrap (nI (BitVec.ofInt 64 v5 ^^^ BitVec.ofInt 64 (IntKind.u64.wrap (Ae v0 v6))).toNat) * 1099511628211), IntKind.i64.wrap (v6 + 1), ()) else none else none else X2 (v1, v5, ())
noncomputable def Fz : Nat → (ByteArray) → (Int) → (Int) → (Int) →  Option ((Int) × (Int) × Unit)
 | 0, _, _, _, _ => none
 | m + 1, v0, v1, v5, v6 => Lp  (fun d => Fz m d.1 d.2.1 d.2.2.1 d.2.2.2.1) (fun d => some (d)) v0 v1 v5 v6
noncomputable def Zz (a0 : ByteArray) (a1 : Int) : Option ((((ByteArray) × Unit) × (Unit))) :=
 Option.bind (bif decide (a1 ≥ 1) then some ((decide (a1 ≤ 8), ()), ()) else some ((false, ()), ())) fun val => bif !val.1.1 then some ((ByteArray.mk #[], ()), ()) else ((fun d => Fz (Lo d.1 d.2.1 d.2.2.1 d.2.2.2.1) d.1 d.2.1 d.2.2.1 d.2.2.2.1) (a0, a1, 14695981039346656037, 0, ())).bind fun val => ((fun d => Hh (Kx d.1 d.2.1 d.2.2.1 d.2.2.2.1) d.1 d.2.1 d.2.2.1 d.2.2.2.1) (val.1, val.2.1, ByteArray.mk #[], 0, ())).bind fun val => some (val, ())
theorem Am0 : ∀ (k m i : Nat) (v : Int) (out : ByteArray), i + k ≤ 1000 → k < m → out.size = i → U64 v → Hh m ((i + k : Nat) : Int) v out i = some (C1 v k ++ out, ())
 | 0, m + 1, i, v, out, hi, hm, ho, hv => by
  simp only [Hh, Ky]
  rw [decide_eq_false (by omega), Au0]
  rfl
 | k + 1, m + 1, i, v, out, hi, hm, ho, hv => by
  have h0 := hv.1
  have h1 := hv.2
  simp only [Hh, Ky]
  have e1 : IntKind.wrap IntKind.u8 (Int.tmod v 256) = v % 256 := by
   rw [Int.tmod_eq_emod_of_nonneg h0]
   show v % 256 % 256 = v % 256
   omega
  have e2 : IntKind.wrap IntKind.u64 (Int.tdiv v 256) = v / 256 := by
   rw [Int.tdiv_eq_ediv_of_nonneg h0, A3z]
   omega
  rw [decide_eq_true (show (i : Int) < ((i + (k + 1) : Nat) : Int) by omega), e1, e2, decide_eq_true (show ByteArray.size (strOfNums [v % 256]) + ByteArray.size out ≤ 9223372036854775807 by rw [ho, E1]; simp; omega), wI (show i < 4611686018427387904 by omega)]
  have hL := Am0 k m (i + 1) (v / 256) (strOfNums [v % 256] ++ out) (by omega) (by omega) (by rw [ByteArray.size_append, ho, E1]; simp; omega) ⟨by omega, by omega⟩
  rw [show i + 1 + k = i + (k + 1) by omega] at hL
  refine hL.trans ?_
  rw [← ByteArray.append_assoc, ← Au1]
theorem Avq (a0 : ByteArray) (a1 : Int) r (h : Sj a0 a1 = some r) : Zz a0 a1 = some ((r, ()), (())) := by
 unfold Sj at h
 split at h
 rotate_left
 ·cases h
 rename_i hsz
 cases h
 unfold Zz Acv
 generalize hC : (14695981039346656037 : Int) = C
 have h0 : U64 C := by rw [← hC]; exact ⟨by decide, by decide⟩
 refine Xr (wid a1) ?_
 show (bif !Eo a1 1 8 then _ else _) = _
 cases hw : Eo a1 1 8 with
 | false => rfl
 | true =>
  have k1 := of_decide_eq_true (Cj hw).1
  have k2 := of_decide_eq_true (Cj hw).2
  ·simp only [Bool.not_true, cond_false, cond_true]
   have hL := l7 a0.size (fun _ _ => True) (fun i h => Zi h (Ae a0 i)) (g := fun m i h => Fz m a0 a1 h i) (ok := fun h => (a1, h, ())) (fun m i h hi _ => by
    show Fz (m + 1) a0 a1 h i = _
    simp only [Fz, Lp]
    have c1 : (i : Int) < nI a0.size := by simp only [nI]; omega
    rw [decide_eq_true c1, Fh, wI (show i < 4611686018427387904 by omega)]
    rfl) (fun m h _ => by
    show Fz (m + 1) a0 a1 h a0.size = _
    simp only [Fz, Lp]
    rw [decide_eq_false (show ¬ ((a0.size : Int) < nI a0.size) by simp only [nI]; omega)]
    rfl) (fun _ _ _ _ => trivial) a0.size (Lo a0 a1 C 0) 0 C (by omega) (by simp only [Lo, nI]; omega) trivial
   rw [show ((0 : Nat) : Int) = 0 from rfl] at hL
   refine Xr hL ?_
   obtain ⟨n, rfl⟩ : ∃ n : Nat, a1 = (n : Int) := ⟨a1.toNat, by omega⟩
   have hM := Am0 n (Kx n (Afc a0 a0.size 0 C) (ByteArray.mk #[]) 0) 0 (Afc a0 a0.size 0 C) (ByteArray.mk #[]) (by omega) (by simp only [Kx]; omega) rfl (Ayv a0 _ _ h0)
   rw [Nat.zero_add, A1w] at hM
   exact Xr hM rfl
noncomputable def u7 {R : Type} (k : Kt R) := (Hw (pa_spec_Sum 6) (.exit 0) 2 k)
noncomputable def Z0 {R : Type} (k : Kt R) := (Hw (pa_spec_Sum 11) (.exit 2) 4 k)
noncomputable def Abb {R : Type} : Lt R pa_spec_Sum := (D5 (pat := pa_spec_Sum) 6 (fun d k => (Fz (Lo d.1 d.2.1 d.2.2.1 d.2.2.2.1) d.1 d.2.1 d.2.2.1 d.2.2.2.1).bind (u7 k)) (D5 (pat := pa_spec_Sum) 11 (fun d k => (Hh (Kx d.1 d.2.1 d.2.2.1 d.2.2.2.1) d.1 d.2.1 d.2.2.1 d.2.2.2.1).bind (Z0 k)) Ff))
theorem Z1 : Au Tryz.prog ta_spec_Sum := At ⟨Db, trivial⟩
theorem Am1 {R : Type} : Aw Tryz.prog R 40 0 pa_spec_Sum Abb co_spec_Sum_11 :=
 B1 (cfg := ⟨ta_spec_Sum, 0, 40, pa_spec_Sum⟩) 11 [] (fun NX X d => Ky  NX X d.1 d.2.1 d.2.2.1 d.2.2.2.1) (fun m d => Hh m d.1 d.2.1 d.2.2.1 d.2.2.2.1) (fun d => Kx d.1 d.2.1 d.2.2.1 d.2.2.2.1) Z0 Z1 trivial (fun f NX d => by unfold Ky; simp only [Aj, Ap, Ai, Option.bind_assoc, Option.bind_none, Option.bind_some]) (fun _ _ _ => by kernel_rfl)
theorem Ao5 {R : Type} : Aw Tryz.prog R 40 0 pa_spec_Sum Abb co_spec_Sum_6 :=
 B1 (cfg := ⟨ta_spec_Sum, 0, 40, pa_spec_Sum⟩) 6 [] (fun NX X d => Lp  NX X d.1 d.2.1 d.2.2.1 d.2.2.2.1) (fun m d => Fz m d.1 d.2.1 d.2.2.1 d.2.2.2.1) (fun d => Lo d.1 d.2.1 d.2.2.1 d.2.2.2.1) u7 Z1 trivial (fun f NX d => by unfold Lp; simp only [Aj, Ap, Ai, Option.bind_assoc, Option.bind_none, Option.bind_some]) (fun _ _ _ => by kernel_rfl)
theorem Avr : Bf Tryz.prog 163 sd_spec_Sum :=
 Ar (pat := pa_spec_Sum) [co_spec_Sum_6, co_spec_Sum_11] Abb Z1 ⟨Ao5, Am1, trivial⟩ Tryz.func163 (de := fun x => Zz x.1 x.2.1) (fun x r h => A3 (Avq x.1 x.2.1) h) fun _ => by kernel_rfl
def Cn (p : Pg) (w : Int) : ByteArray := D1 p w
def Hi (v1 : Int) (v5 : ByteArray) : Nat := (64 - v1 - nI v5.size).toNat + 1
def Afv : Sig := ⟨[.rd yPg, .rd tI], [some 4, none], [.rd .str], [none]⟩
noncomputable def sd_spec_FormPage : SD := ⟨Afv, fun x => some (((Cn x.1 x.2.1), ()), (()))⟩
noncomputable def ta_spec_FormPage : Tb := tb [(161, sd_spec_l1Ok), (162, sd_spec_l1Number), (163, sd_spec_Sum)]
def pa_spec_FormPage : Nat → Pat × (Nat → Pat) := Fj [(5, ⟨[], [(1, .lf (.d tI)), (5, .lf (.d .str))], []⟩, [(2, ⟨[], [(1, .lf (.d tI)), (5, .lf (.d .str))], []⟩)])]
noncomputable def co_spec_FormPage_5 : Code := (Ao (A4 Tryz.f76)).getD 0 .skip
noncomputable def Hj {R : Type}  (NX : ((Int) × (ByteArray) × Unit) → Option R) (X2 : ((Int) × (ByteArray) × Unit) → Option R) (v1 : Int) (v5 : ByteArray) : Option R :=
 bif decide (IntKind.i64.wrap (nI v5.size + v1) < 64) then bif decide (v5.size + (ByteArray.mk #[0]).size ≤ 9223372036854775807) then NX (v1, v5 ++ ByteArray.mk #[0], ()) else none else X2 (v1, v5, ())
noncomputable def Ee : Nat → (Int) → (ByteArray) →  Option ((Int) × (ByteArray) × Unit)
 | 0, _, _ => none
 | m + 1, v1, v5 => Hj  (fun d => Ee m d.1 d.2.1) (fun d => some (d)) v1 v5
noncomputable def O9 (a0 : Pg) (a1 : Int) : Option ((((ByteArray) × Unit) × (Unit))) :=
 bif !T1 a0 a1 then some ((ByteArray.mk #[], ()), ()) else ((Bl a0.1 1).bind fun val => some ((val, ()), ())).bind fun val => ((Bl a0.2.1 2).bind fun val => some ((val, ()), ())).bind fun val_1 => bif decide (ByteArray.size val.1.1 + ByteArray.size val_1.1.1 ≤ 9223372036854775807) then ((Bl a0.2.2.1 4).bind fun val => some ((val, ()), ())).bind fun val_2 => bif decide ((val.1.1 ++ val_1.1.1).size + ByteArray.size val_2.1.1 ≤ 9223372036854775807) then ((Bl (nI (ByteArray.size a0.2.2.2.1)) 1).bind fun val => some ((val, ()), ())).bind fun val_3 => bif decide ((val.1.1 ++ val_1.1.1 ++ val_2.1.1).size + ByteArray.size val_3.1.1 ≤ 9223372036854775807) then bif decide ((val.1.1 ++ val_1.1.1 ++ val_2.1.1 ++ val_3.1.1).size + ByteArray.size a0.2.2.2.1 ≤ 9223372036854775807) then ((fun d => Ee (Hi d.1 d.2.1) d.1 d.2.1) (a1, val.1.1 ++ val_1.1.1 ++ val_2.1.1 ++ val_3.1.1 ++ a0.2.2.2.1, ())).bind fun val => ((Sj val.2.1 val.1).bind fun val => some ((val, ()), ())).bind fun val_4 => bif decide (ByteArray.size val_4.1.1 + ByteArray.size val.2.1 ≤ 9223372036854775807) then some ((val_4.1.1 ++ val.2.1, ()), ()) else none else none else none else none else none
theorem Avs (w : Int) : ∀ (k m : Nat) (b : ByteArray), (b.size : Int) + w + k = 64 → 0 ≤ w → k < m → Ee m w b = some (w, b ++ strOfNums (List.replicate k 0), ())
 | 0, m + 1, b, h, h0, hm => by
  simp only [Ee, Hj]
  rw [Ag (by simp only [nI]; omega) (by simp only [nI]; omega), decide_eq_false (show ¬ (nI b.size + w < 64) by simp only [nI]; omega), show strOfNums (List.replicate 0 0) = ByteArray.mk #[] from rfl, A1w]
  rfl
 | k + 1, m + 1, b, h, h0, hm => by
  simp only [Ee, Hj]
  have hz : (ByteArray.mk #[0]).size = 1 := rfl
  rw [Ag (by simp only [nI]; omega) (by simp only [nI]; omega), decide_eq_true (show nI b.size + w < 64 by simp only [nI]; omega), hz, decide_eq_true (show b.size + 1 ≤ 9223372036854775807 by omega)]
  have := Avs w k m (b ++ ByteArray.mk #[0]) (by rw [ByteArray.size_append, hz]; omega) h0 (by omega)
  refine this.trans ?_
  rw [ByteArray.append_assoc, show ByteArray.mk #[0] = strOfNums [0] from rfl, ← u4]
  rfl
theorem Afw (a0 : Pg) (a1 : Int) : O9 a0 a1 = some (((Cn a0 a1), ()), (())) := by
 unfold O9 Cn D1
 show (bif !Jh a0 a1 then _ else _) = _
 cases hp : Jh a0 a1 with
 | false => rfl
 | true =>
  obtain ⟨hw, k1, k2, kp⟩ := R1 hp
  obtain ⟨r1, r2, r3⟩ := Zl hp
  have n1 : Bl a0.1 1 = some (C1 a0.1 1) := (Fs _ _).trans (if_pos (by omega))
  have n2 : Bl a0.2.1 2 = some (C1 a0.2.1 2) := (Fs _ _).trans (if_pos (by omega))
  have n3 : Bl a0.2.2.1 4 = some (C1 a0.2.2.1 4) := (Fs _ _).trans (if_pos (by omega))
  have n4 : Bl (nI a0.2.2.2.1.size) 1 = some (C1 (nI a0.2.2.2.1.size) 1) := (Fs _ _).trans (if_pos (by simp only [nI]; omega))
  simp only [Bool.not_true, cond_false, cond_true, n1, n2, n3, n4, Option.bind_some]
  have hb : Gj a0 a1 = C1 a0.1 1 ++ C1 a0.2.1 2 ++ C1 a0.2.2.1 4 ++ C1 (nI a0.2.2.2.1.size) 1 ++ a0.2.2.2.1 ++ strOfNums (List.replicate (56 - a1 - a0.2.2.2.1.size).toNat 0) := rfl
  have hs4 : (C1 a0.1 1 ++ C1 a0.2.1 2 ++ C1 a0.2.2.1 4 ++ C1 (nI a0.2.2.2.1.size) 1).size = 8 := by simp only [ByteArray.size_append, Iy]
  have hs3 : (C1 a0.1 1 ++ C1 a0.2.1 2 ++ C1 a0.2.2.1 4).size = 7 := by simp only [ByteArray.size_append, Iy]
  have hs2 : (C1 a0.1 1 ++ C1 a0.2.1 2).size = 3 := by simp only [ByteArray.size_append, Iy]
  have hs5 : (C1 a0.1 1 ++ C1 a0.2.1 2 ++ C1 a0.2.2.1 4 ++ C1 (nI a0.2.2.2.1.size) 1 ++ a0.2.2.2.1).size = 8 + a0.2.2.2.1.size := by rw [ByteArray.size_append, hs4]
  rw [hs4, hs3, hs2, Iy, Iy, Iy, Iy, decide_eq_true (show 1 + 2 ≤ 9223372036854775807 by decide), decide_eq_true (show 3 + 4 ≤ 9223372036854775807 by decide), decide_eq_true (show 7 + 1 ≤ 9223372036854775807 by decide), decide_eq_true (show 8 + a0.2.2.2.1.size ≤ 9223372036854775807 by omega)]
  simp only [cond_true]
  generalize hB : C1 a0.1 1 ++ C1 a0.2.1 2 ++ C1 a0.2.2.1 4 ++ C1 (nI a0.2.2.2.1.size) 1 ++ a0.2.2.2.1 = B at *
  have hL := Avs a1 (56 - a1 - a0.2.2.2.1.size).toNat (Hi a1 B) B (by rw [hs5]; omega) (by omega) (by simp only [Hi, nI, hs5]; omega)
  have hz : (strOfNums (List.replicate (56 - a1 - a0.2.2.2.1.size).toNat 0)).size = (56 - a1 - a0.2.2.2.1.size).toNat := by rw [E1, List.length_replicate]
  rw [← hb] at hL
  have hbs : (Gj a0 a1).size ≤ 64 := by rw [hb, ByteArray.size_append, hs5, hz]; omega
  have hm : Sj (Gj a0 a1) a1 = some (Acv (Gj a0 a1) a1) := if_pos (by omega)
  refine Xr hL (Xr (Xr hm rfl) ?_)
  show (bif decide (ByteArray.size (Acv (Gj a0 a1) a1) + ByteArray.size (Gj a0 a1) ≤ 9223372036854775807) then some ((Acv (Gj a0 a1) a1 ++ Gj a0 a1, ()), ()) else none) = _
  rw [Ve hw, decide_eq_true (by omega)]
  rfl
noncomputable def Sk {R : Type} (k : Kt R) := (Hw (pa_spec_FormPage 5) (.exit 0) 2 k)
noncomputable def X6 {R : Type} : Lt R pa_spec_FormPage := (D5 (pat := pa_spec_FormPage) 5 (fun d k => (Ee (Hi d.1 d.2.1) d.1 d.2.1).bind (Sk k)) Ff)
theorem Vs : Au Tryz.prog ta_spec_FormPage := At ⟨Asx, Vr, Avr, trivial⟩
theorem Abc {R : Type} : Aw Tryz.prog R 41 0 pa_spec_FormPage X6 co_spec_FormPage_5 :=
 B1 (cfg := ⟨ta_spec_FormPage, 0, 41, pa_spec_FormPage⟩) 5 [] (fun NX X d => Hj  NX X d.1 d.2.1) (fun m d => Ee m d.1 d.2.1) (fun d => Hi d.1 d.2.1) Sk Vs trivial (fun f NX d => by unfold Hj; simp only [Aj, Ap, Ai, Option.bind_assoc, Option.bind_none, Option.bind_some]) (fun _ _ _ => by kernel_rfl)
theorem I1 : Bf Tryz.prog 76 sd_spec_FormPage :=
 Ar (pat := pa_spec_FormPage) [co_spec_FormPage_5] X6 Vs ⟨Abc, trivial⟩ Tryz.func76 (de := fun x => O9 x.1 x.2.1) (fun x r h => (Afw x.1 x.2.1).trans h) fun _ => by kernel_rfl
def Adl (a : Int) (d : ByteArray) : Opn := (false, a, d, ())
def Ao6 : Sig := ⟨[.rd tI, .rd .str], [none, none], [.rd Mb], [some 3]⟩
noncomputable def sd_spec_l6Put : SD := ⟨Ao6, fun x => some (((Adl x.1 x.2.1), ()), (()))⟩
noncomputable def w5 (a0 : Int) (a1 : ByteArray) : Option (((Opn × Unit) × (Unit))) :=
 some (((false, a0, a1, ()), ()), ())
theorem Ao7 (a0 : Int) (a1 : ByteArray) : w5 a0 a1 = some (((Adl a0 a1), ()), (())) := rfl
theorem w6 : Bf Tryz.prog 83 sd_spec_l6Put :=
 Ar (pat := Ci) [] Ff (At (l := []) trivial) trivial Tryz.func83 (de := fun x => w5 x.1 x.2.1) (fun x r h => (Ao7 x.1 x.2.1).trans h) fun _ => by kernel_rfl
def Bo (n h : Int) : Int := IntKind.i64.wrap (2 + IntKind.i64.wrap (h * Av n))
def Am2 : Sig := ⟨[.rd tI, .rd tI], [none, none], [.rd tI], [none]⟩
noncomputable def sd_spec_l6Base : SD := ⟨Am2, fun x => some (((Bo x.1 x.2.1), ()), (()))⟩
noncomputable def Z2 (a0 : Int) (a1 : Int) : Option ((((Int) × Unit) × (Unit))) :=
 some ((IntKind.i64.wrap (2 + IntKind.i64.wrap (a1 * Av a0)), ()), ())
theorem Am3 (a0 : Int) (a1 : Int) : Z2 a0 a1 = some (((Bo a0 a1), ()), (())) := rfl
theorem Z3 : Bf Tryz.prog 84 sd_spec_l6Base :=
 Ar (pat := Ci) [] Ff (At (l := [(55, sd_spec_Halves)]) ⟨Ns, trivial⟩) trivial Tryz.func84 (de := fun x => Z2 x.1 x.2.1) (fun x r h => (Am3 x.1 x.2.1).trans h) fun _ => by kernel_rfl
def Im (d : Dk) : Option Dk := if d.2.1.length ≤ 1099511627776 ∧ ∀ i, i < d.2.1.length → 0 ≤ (d.2.1.getD i zW).1 ∧ (d.2.1.getD i zW).1 < (d.1.length : Int) then some (Auu d) else none
def Am4 : Sig := ⟨[.own 9 .str, .rd (.sl Ey)], [some 2], [.own 9 .str, .own 182 Ey], [some 2]⟩
noncomputable def sd_spec_l2Sync : SD := ⟨Am4, fun x => (Im (x.1, x.2.1, ())).bind fun r => some ((r.1, r.2.1, ()), (()))⟩
noncomputable def ta_spec_l2Sync : Tb := tb []
def pa_spec_l2Sync : Nat → Pat × (Nat → Pat) := Fj [(3, ⟨[.boxSl 1 1 Ey, .boxRow 2 0 9 .str, .boxRow 2 1 182 Ey], [(1, .lf (.ptr 1 0)), (2, .lf (.ptr 2 0)), (3, .lf (.d tI))], [.row 9 .str, .box 26 [.row 0, .d (.sl Ey)], .box 26 [.row 3, .row 4], .row 9 .str, .row 182 Ey]⟩, [(2, ⟨[.boxSl 1 1 Ey, .boxRow 2 0 9 .str, .boxRow 2 1 182 Ey], [(1, .lf (.ptr 1 0)), (2, .lf (.ptr 2 0))], [.row 9 .str, .box 26 [.row 0, .d (.sl Ey)], .box 26 [.row 3, .row 4], .row 9 .str, .row 182 Ey]⟩)])]
noncomputable def co_spec_l2Sync_3 : Code := (Ao (A4 Tryz.f179)).getD 0 .skip
def Ft (v3 : Int) (r0 : List ByteArray) (b1_1 : List Wr) (r3 : List ByteArray) (r4 : List Wr) : Nat := ((b1_1.length : Int) - v3).toNat + 1
noncomputable def I2 {R : Type}  (NX : ((Int) × (List ByteArray) × (List Wr) × (List ByteArray) × (List Wr) × Unit) → Option R) (X2 : ((List ByteArray) × (List Wr) × (List ByteArray) × (List Wr) × Unit) → Option R) (v3 : Int) (r0 : List ByteArray) (b1_1 : List Wr) (r3 : List ByteArray) (r4 : List Wr) : Option R :=
 bif decide (v3 < nI b1_1.length) then bif decide (0 ≤ v3) then bif decide (v3 < nI b1_1.length) then bif decide (0 ≤ v3) then bif decide (v3 < nI b1_1.length) then bif decide (0 ≤ (b1_1.getD v3.toNat (0, ByteArray.mk #[], ())).1) then bif decide ((b1_1.getD v3.toNat (0, ByteArray.mk #[], ())).1 < nI r0.length) then bif decide (Int.toNat (b1_1.getD v3.toNat (0, ByteArray.mk #[], ())).1 < r0.length) then NX (IntKind.i64.wrap (v3 + 1), r0.set (Int.toNat (b1_1.getD v3.toNat (0, ByteArray.mk #[], ())).1) (b1_1.getD v3.toNat (0, ByteArray.mk #[], ())).2.1, b1_1, r3, r4, ()) else none else none else none else none else none else none else none else X2 (r0, b1_1, r3, r4, ())
noncomputable def Cq : Nat → (Int) → (List ByteArray) → (List Wr) → (List ByteArray) → (List Wr) →  Option ((List ByteArray) × (List Wr) × (List ByteArray) × (List Wr) × Unit)
 | 0, _, _, _, _, _ => none
 | m + 1, v3, r0, b1_1, r3, r4 => I2  (fun d => Cq m d.1 d.2.1 d.2.2.1 d.2.2.2.1 d.2.2.2.2.1) (fun d => some (d)) v3 r0 b1_1 r3 r4
noncomputable def Sm (a0 : List ByteArray) (a1 : List Wr) : Option ((Dk × (Unit))) :=
 ((fun d => Cq (Ft d.1 d.2.1 d.2.2.1 d.2.2.2.1 d.2.2.2.2.1) d.1 d.2.1 d.2.2.1 d.2.2.2.1 d.2.2.2.2.1) (0, a0, a1, [], [], ())).bind fun val => some ((val.1, [], ()), ())
theorem Am5 (a0 : List ByteArray) (a1 : List Wr) r (h : Im (a0, a1, ()) = some r) : Sm a0 a1 = some ((r.1, r.2.1, ()), (())) := by
 unfold Im at h
 split at h
 ·rename_i hc
  obtain ⟨hp, hw⟩ := hc
  cases h
  have hL := Aqz (xs := a1) zW (fun s : List ByteArray => s.length = a0.length) (fun _ w s => s.set w.1.toNat w.2.1) (g := fun m i s => Cq m i s a1 [] []) (ok := fun s => (s, a1, [], [], ())) (fun m i s hi hs => by
   show Cq (m + 1) i s a1 [] [] = _
   simp only [Cq, I2]
   obtain ⟨h0, h1⟩ := hw i hi
   have c1 : decide (0 ≤ (List.getD a1 i (0, ByteArray.mk #[], ())).1) = true := decide_eq_true h0
   have c2 : decide ((List.getD a1 i (0, ByteArray.mk #[], ())).1 < nI s.length) = true := decide_eq_true (by rw [hs]; exact h1)
   have c3 : decide (Int.toNat (List.getD a1 i (0, ByteArray.mk #[], ())).1 < s.length) = true := decide_eq_true (by
    rw [hs]
    have : (a1.getD i zW).1.toNat < a0.length := by
     have h0 : 0 ≤ (a1.getD i zW).1 := h0
     have h1 : (a1.getD i zW).1 < (a0.length : Int) := h1
     omega
    exact this)
   rw [Mg hi, Fh, wI (show i < 4611686018427387904 by have hp : a1.length ≤ 1099511627776 := hp; omega), Int.toNat_natCast, c1, c2, c3]
   rfl) (fun i s hi hs => by rw [List.length_set]; exact hs) (fun m s hs => by
   show Cq (m + 1) (a1.length : Int) s a1 [] [] = _
   simp only [Cq, I2]
   rw [Hx]
   rfl) (Ft 0 a0 a1 [] []) 0 a0 (by omega) (by simp [Ft]) rfl
  have hL' : Cq (Ft 0 a0 a1 [] []) 0 a0 a1 [] [] = _ := hL
  unfold Sm
  show (Cq (Ft 0 a0 a1 [] []) 0 a0 a1 [] []).bind _ = _
  rw [hL']
  rfl
 ·cases h
noncomputable def Vt {R : Type} (k : Kt R) := (Hw (pa_spec_l2Sync 3) (.exit 0) 2 k)
noncomputable def w7 {R : Type} : Lt R pa_spec_l2Sync := (D5 (pat := pa_spec_l2Sync) 3 (fun d k => (Cq (Ft d.1 d.2.1 d.2.2.1 d.2.2.2.1 d.2.2.2.2.1) d.1 d.2.1 d.2.2.1 d.2.2.2.1 d.2.2.2.2.1).bind (Vt k)) Ff)
theorem Z4 : Au Tryz.prog ta_spec_l2Sync := At trivial
theorem Afx {R : Type} : Aw Tryz.prog R 29 1 pa_spec_l2Sync w7 co_spec_l2Sync_3 :=
 B1 (cfg := ⟨ta_spec_l2Sync, 1, 29, pa_spec_l2Sync⟩) 3 [] (fun NX X d => I2  NX X d.1 d.2.1 d.2.2.1 d.2.2.2.1 d.2.2.2.2.1) (fun m d => Cq m d.1 d.2.1 d.2.2.1 d.2.2.2.1 d.2.2.2.2.1) (fun d => Ft d.1 d.2.1 d.2.2.1 d.2.2.2.1 d.2.2.2.2.1) Vt Z4 trivial (fun f NX d => by unfold I2; simp only [Aj, Ap, Ai, Option.bind_assoc, Option.bind_none, Option.bind_some]) (fun _ _ _ => by kernel_rfl)
theorem Z5 : Bf Tryz.prog 179 sd_spec_l2Sync :=
 Ar (pat := pa_spec_l2Sync) [co_spec_l2Sync_3] w7 Z4 ⟨Afx, trivial⟩ Tryz.func179 (de := fun x => Sm x.1 x.2.1) (fun x r h => A3 (Am5 x.1 x.2.1) h) fun _ => by kernel_rfl
def In (d : Dk) : Option Dk := if d.1.length ≤ 1099511627776 ∧ d.2.1.length ≤ 1099511627776 then some d else none
def Am6 : Sig := ⟨[.rd P3], [some 2], [.own 9 .str, .own 182 Ey], [some 2]⟩
noncomputable def sd_spec_l2Copy : SD := ⟨Am6, fun x => (In x.1).bind fun r => some ((r.1, r.2.1, ()), (()))⟩
noncomputable def Sn (a0 : Dk) : Option ((Dk × (Unit))) :=
 bif decide ((0 + List.length a0.1) * 16 ≤ 140737488355328) then bif decide ((0 + List.length a0.2.1) * 24 ≤ 140737488355328) then some (([] ++ a0.1, [] ++ a0.2.1, ()), ()) else none else none
theorem Am7 (a0 : Dk) r (h : In a0 = some r) : Sn a0 = some ((r.1, r.2.1, ()), (())) := by
 unfold In at h
 split at h
 ·rename_i hc
  cases h
  unfold Sn
  have c1 : (0 + List.length a0.1) * 16 ≤ 140737488355328 := by omega
  have c2 : (0 + List.length a0.2.1) * 24 ≤ 140737488355328 := by omega
  rw [decide_eq_true c1, decide_eq_true c2]
  rfl
 ·cases h
theorem Z6 : Bf Tryz.prog 180 sd_spec_l2Copy :=
 Ar (pat := Ci) [] Ff (At (l := []) trivial) trivial Tryz.func180 (de := fun x => Sn x.1) (fun x r h => A3 (Am7 x.1) h) fun _ => by kernel_rfl
def F0 (s : ByteArray) : Option Int := if s.size ≤ 7 then some (Zh s) else none
def I3 (v0 : ByteArray) (v3 v4 : Int) : Nat := (nI v0.size - v4).toNat + 1
def Am8 : Sig := ⟨[.rd .str], [none], [.rd tI], [none]⟩
noncomputable def sd_spec_l1Read : SD := ⟨Am8, fun x => (F0 x.1).bind fun r => some ((r, ()), (()))⟩
noncomputable def ta_spec_l1Read : Tb := tb []
def pa_spec_l1Read : Nat → Pat × (Nat → Pat) := Fj [(4, ⟨[], [(0, .lf (.d .str)), (3, .lf (.d tI)), (4, .lf (.d tI))], []⟩, [(2, ⟨[], [(3, .lf (.d tI))], []⟩)])]
noncomputable def co_spec_l1Read_4 : Code := (Ao (A4 Tryz.f75)).getD 0 .skip
noncomputable def I4 {R : Type}  (NX : ((ByteArray) × (Int) × (Int) × Unit) → Option R) (X2 : ((Int) × Unit) → Option R) (v0 : ByteArray) (v3 : Int) (v4 : Int) : Option R :=
 bif decide (v4 < nI v0.size) then bif decide (0 ≤ v4) then bif decide (v4 < nI v0.size) then NX (v0, IntKind.i64.wrap (IntKind.i64.wrap (v3 * 256) + IntKind.i64.wrap (Ae v0 v4)), IntKind.i64.wrap (v4 + 1), ()) else none else none else X2 (v3, ())
noncomputable def Fu : Nat → (ByteArray) → (Int) → (Int) →  Option ((Int) × Unit)
 | 0, _, _, _ => none
 | m + 1, v0, v3, v4 => I4  (fun d => Fu m d.1 d.2.1 d.2.2.1) (fun d => some (d)) v0 v3 v4
noncomputable def So (a0 : ByteArray) : Option ((((Int) × Unit) × (Unit))) :=
 ((fun d => Fu (I3 d.1 d.2.1 d.2.2.1) d.1 d.2.1 d.2.2.1) (a0, 0, 0, ())).bind fun val => some (val, ())
theorem Ahu (s : ByteArray) (hs : s.size ≤ 7) : ∀ (k m i : Nat) (v : Int), i + k = s.size → k < m → 0 ≤ v → v < 256 ^ i → Fu m s v i = some (Auv s k i v, ())
 | 0, m + 1, i, v, hi, hm, h0, h1 => by
  simp only [Fu, I4]
  rw [decide_eq_false (show ¬ ((i : Int) < nI s.size) by simp only [nI]; omega)]
  rfl
 | k + 1, m + 1, i, v, hi, hm, h0, h1 => by
  obtain ⟨hb, hs', e⟩ := A1x s i hi (by omega) h0 h1
  simp only [Fu, I4]
  have c1 : (i : Int) < nI s.size := by simp only [nI]; omega
  rw [decide_eq_true c1, decide_eq_true (show (0 : Int) ≤ (i : Int) by omega), wI (show i < 4611686018427387904 by omega), e]
  exact Ahu s hs k m (i + 1) _ (by omega) (by omega) hb hs'
theorem Am9 (a0 : ByteArray) r (h : F0 a0 = some r) : So a0 = some ((r, ()), (())) := by
 unfold F0 at h
 split at h
 ·rename_i hc
  cases h
  unfold So
  have hL := Ahu a0 hc a0.size (I3 a0 0 0) 0 0 (by omega) (by simp only [I3, nI]; omega) (by omega) (by decide)
  exact Xr hL rfl
 ·cases h
noncomputable def Vu {R : Type} (k : Kt R) := (Hw (pa_spec_l1Read 4) (.exit 0) 2 k)
noncomputable def w8 {R : Type} : Lt R pa_spec_l1Read := (D5 (pat := pa_spec_l1Read) 4 (fun d k => (Fu (I3 d.1 d.2.1 d.2.2.1) d.1 d.2.1 d.2.2.1).bind (Vu k)) Ff)
theorem Z7 : Au Tryz.prog ta_spec_l1Read := At trivial
theorem Afy {R : Type} : Aw Tryz.prog R 19 0 pa_spec_l1Read w8 co_spec_l1Read_4 :=
 B1 (cfg := ⟨ta_spec_l1Read, 0, 19, pa_spec_l1Read⟩) 4 [] (fun NX X d => I4  NX X d.1 d.2.1 d.2.2.1) (fun m d => Fu m d.1 d.2.1 d.2.2.1) (fun d => I3 d.1 d.2.1 d.2.2.1) Vu Z7 trivial (fun f NX d => by unfold I4; simp only [Aj, Ap, Ai, Option.bind_assoc, Option.bind_none, Option.bind_some]) (fun _ _ _ => by kernel_rfl)
theorem Z8 : Bf Tryz.prog 75 sd_spec_l1Read :=
 Ar (pat := pa_spec_l1Read) [co_spec_l1Read_4] w8 Z7 ⟨Afy, trivial⟩ Tryz.func75 (de := fun x => So x.1) (fun x r h => A3 (Am9 x.1) h) fun _ => by kernel_rfl
def Ac (s : ByteArray) (w : Int) : Pg × Bool := Cw s w
def Afz : Sig := ⟨[.rd .str, .rd tI], [none, none], [.rd yPg, .rd .bool], [some 4, none]⟩
noncomputable def sd_spec_ReadPage : SD := ⟨Afz, fun x => some (((Ac x.1 x.2.1).1, (Ac x.1 x.2.1).2, ()), (()))⟩
noncomputable def Pa (a0 : ByteArray) (a1 : Int) : Option (((Pg × (Bool) × Unit) × (Unit))) :=
 Option.bind (bif decide (a1 ≥ 1) then some ((decide (a1 ≤ 8), ()), ()) else some ((false, ()), ())) fun val => bif !val.1.1 then some (((0, 0, 0, ByteArray.mk #[], ()), false, ()), ()) else bif nI a0.size != 64 then some (((0, 0, 0, ByteArray.mk #[], ()), false, ()), ()) else bif decide (0 ≤ a1) then bif decide (a1 ≤ nI a0.size) then bif decide (7 < nI (Ah a0 a1 (nI a0.size)).size) then bif decide (IntKind.i64.wrap (Ae (Ah a0 a1 (nI a0.size)) 7) > IntKind.i64.wrap (IntKind.i64.wrap (64 - a1) - 8)) then some (((0, 0, 0, ByteArray.mk #[], ()), false, ()), ()) else bif decide (0 < nI (Ah a0 a1 (nI a0.size)).size) then bif decide (3 ≤ nI (Ah a0 a1 (nI a0.size)).size) then ((F0 (Ah (Ah a0 a1 (nI a0.size)) 1 3)).bind fun val => some ((val, ()), ())).bind fun val => bif decide (7 ≤ nI (Ah a0 a1 (nI a0.size)).size) then ((F0 (Ah (Ah a0 a1 (nI a0.size)) 3 7)).bind fun val => some ((val, ()), ())).bind fun val_1 => bif decide (8 ≤ IntKind.i64.wrap (8 + IntKind.i64.wrap (Ae (Ah a0 a1 (nI a0.size)) 7))) then bif decide (IntKind.i64.wrap (8 + IntKind.i64.wrap (Ae (Ah a0 a1 (nI a0.size)) 7)) ≤ nI (Ah a0 a1 (nI a0.size)).size) then bif !(Cn (IntKind.i64.wrap (Ae (Ah a0 a1 (nI a0.size)) 0), val.1.1, val_1.1.1, Ah (Ah a0 a1 (nI a0.size)) 8 (IntKind.i64.wrap (8 + IntKind.i64.wrap (Ae (Ah a0 a1 (nI a0.size)) 7))), ()) a1).toList == a0.toList then some (((0, 0, 0, ByteArray.mk #[], ()), false, ()), ()) else some (((IntKind.i64.wrap (Ae (Ah a0 a1 (nI a0.size)) 0), val.1.1, val_1.1.1, Ah (Ah a0 a1 (nI a0.size)) 8 (IntKind.i64.wrap (8 + IntKind.i64.wrap (Ae (Ah a0 a1 (nI a0.size)) 7))), ()), true, ()), ()) else none else none else none else none else none else none else none else none
theorem Af0 (a0 : ByteArray) (a1 : Int) : Pa a0 a1 = some (((Ac a0 a1).1, (Ac a0 a1).2, ()), (())) := by
 unfold Pa Ac Cw
 refine Xr (wid a1) ?_
 show (bif !Eo a1 1 8 then _ else (bif nI a0.size != 64 then _ else _)) = _
 cases hz : nI a0.size != 64 with
 | true => cases Eo a1 1 8 <;> rfl
 | false =>
   cases hw : Eo a1 1 8 with
   | false => rfl
   | true =>
    have k1 := (G4 hw).1
    have k2 := (G4 hw).2
    have hs : a0.size = 64 := by
     by_cases q : nI a0.size = 64
     ·simp only [nI] at q; omega
     ·rw [(bne_iff_ne).2 q] at hz; cases hz
    have hb : (Ah a0 a1 (nI a0.size)).size = (64 - a1).toNat := by rw [Fp (by omega) (by simp only [nI]; omega) (by simp [nI])]; simp only [nI, hs]; omega
    simp only [Bool.not_true, cond_false, cond_true]
    rw [decide_eq_true (show (0 : Int) ≤ a1 by omega), decide_eq_true (show a1 ≤ nI a0.size by simp only [nI]; omega)]
    unfold Axh
    generalize Ah a0 a1 (nI a0.size) = b at *
    obtain ⟨b0, b1⟩ := Gk b 7
    obtain ⟨c0, c1⟩ := Gk b 0
    have hB : nI b.size = 64 - a1 := by simp only [nI]; omega
    rw [hB, decide_eq_true (show (7 : Int) < 64 - a1 by omega), decide_eq_true (show (0 : Int) < 64 - a1 by omega), decide_eq_true (show (3 : Int) ≤ 64 - a1 by omega), decide_eq_true (show (7 : Int) ≤ 64 - a1 by omega), Ag (n := Ae b 7) (by omega) (by omega), Ag (n := Ae b 0) (by omega) (by omega), Ag (n := 64 - a1) (by omega) (by omega), Ag (n := 64 - a1 - 8) (by omega) (by omega), Ag (n := 8 + Ae b 7) (by omega) (by omega), show 64 - a1 - 8 = 56 - a1 by omega]
    by_cases q : Ae b 7 > 56 - a1
    ·rw [decide_eq_true q]; rfl
    ·rw [decide_eq_false q]
     have n1 : F0 (Ah b 1 3) = some (Zh (Ah b 1 3)) := if_pos (by rw [Fp (by omega) (by omega) (by omega)]; decide)
     have n2 : F0 (Ah b 3 7) = some (Zh (Ah b 3 7)) := if_pos (by rw [Fp (by omega) (by omega) (by omega)]; decide)
     simp only [n1, n2, Option.bind_some, cond_true, cond_false]
     rw [decide_eq_true (show 8 ≤ 8 + Ae b 7 by omega), decide_eq_true (show 8 + Ae b 7 ≤ 64 - a1 by omega)]
     show (bif !(ByteArray.toList (D1 (Axg b) a1) == ByteArray.toList a0) then _ else _) = _
     cases (ByteArray.toList (D1 (Axg b) a1) == ByteArray.toList a0) <;> rfl
theorem Vv : Bf Tryz.prog 14 sd_spec_ReadPage :=
 Ar (pat := Ci) [] Ff (At (l := [(69, sd_spec_l1Width), (74, sd_spec_l1Part), (75, sd_spec_l1Read), (76, sd_spec_FormPage)]) ⟨Db, Sh, Z8, I1, trivial⟩) trivial Tryz.func14 (de := fun x => Pa x.1 x.2.1) (fun x r h => (Af0 x.1 x.2.1).trans h) fun _ => by kernel_rfl
def Gq (r : Rt) (w : Int) : ByteArray := Vd r w
def Af1 : Sig := ⟨[.rd yRt, .rd tI], [some 4, none], [.rd .str], [none]⟩
noncomputable def sd_spec_RootPage : SD := ⟨Af1, fun x => some (((Gq x.1 x.2.1), ()), (()))⟩
noncomputable def Pb (a0 : Rt) (a1 : Int) : Option ((((ByteArray) × Unit) × (Unit))) :=
 bif decide (a0.2.1 < 0) then some ((ByteArray.mk #[], ()), ()) else bif decide (a0.2.1 > 1) then some ((ByteArray.mk #[], ()), ()) else bif decide (a0.2.2.1 < 1) then some ((ByteArray.mk #[], ()), ()) else bif decide (a0.2.2.1 > 999999000) then some ((ByteArray.mk #[], ()), ()) else ((Bl a0.2.1 1).bind fun val => some ((val, ()), ())).bind fun val => ((Bl a0.2.2.1 4).bind fun val => some ((val, ()), ())).bind fun val_1 => bif decide (ByteArray.size val.1.1 + ByteArray.size val_1.1.1 ≤ 9223372036854775807) then some ((Cn (4, a0.2.2.2.1, a0.1, val.1.1 ++ val_1.1.1, ()) a1, ()), ()) else none
theorem Af2 (a0 : Rt) (a1 : Int) : Pb a0 a1 = some (((Gq a0 a1), ()), (())) := by
 unfold Pb Gq Vd Me
 rw [Al6 a0.2.1, Al6 a0.2.2.1]
 cases h1 : Eo a0.2.1 0 1 with
 | false => rfl
 | true =>
  cases h2 : Eo a0.2.2.1 1 999999000 with
  | false => rfl
  | true =>
   have q1 := G4 h1
   have q2 := G4 h2
   have n1 : Bl a0.2.1 1 = some (C1 a0.2.1 1) := (Fs _ _).trans (if_pos (by omega))
   have n2 : Bl a0.2.2.1 4 = some (C1 a0.2.2.1 4) := (Fs _ _).trans (if_pos (by omega))
   simp only [n1, n2, Option.bind_some, cond_true]
   rw [Iy, Iy, decide_eq_true (show 1 + 4 ≤ 9223372036854775807 by decide)]
   rfl
theorem Vw : Bf Tryz.prog 184 sd_spec_RootPage :=
 Ar (pat := Ci) [] Ff (At (l := [(76, sd_spec_FormPage), (162, sd_spec_l1Number)]) ⟨I1, Vr, trivial⟩) trivial Tryz.func184 (de := fun x => Pb x.1 x.2.1) (fun x r h => (Af2 x.1 x.2.1).trans h) fun _ => by kernel_rfl
def C0 (s : ByteArray) (at' w : Int) : Rt × Bool :=
 bif (Cw s w).2 && decide ((Cw s w).1.2.2.2.1.size = 5) then (J9 (Cw s w).1, ((Vd (J9 (Cw s w).1) w).toList == s.toList) && (Int.tmod (Cw s w).1.2.2.1 2 == at')) else ((0, 0, 0, 0, ()), false)
def Asy : Sig := ⟨[.rd .str, .rd tI, .rd tI], [none, none, none], [.rd yRt, .rd .bool], [some 4, none]⟩
noncomputable def sd_spec_l5At : SD := ⟨Asy, fun x => some (((C0 x.1 x.2.1 x.2.2.1).1, (C0 x.1 x.2.1 x.2.2.1).2, ()), (()))⟩
noncomputable def Xe (a0 : ByteArray) (a1 : Int) (a2 : Int) : Option (((Rt × (Bool) × Unit) × (Unit))) :=
 bif !(Ac a0 a2).2 then some (((0, 0, 0, 0, ()), false, ()), ()) else bif nI (ByteArray.size (Ac a0 a2).1.2.2.2.1) != 5 then some (((0, 0, 0, 0, ()), false, ()), ()) else bif decide (0 < nI (ByteArray.size (Ac a0 a2).1.2.2.2.1)) then bif decide (1 ≤ nI (ByteArray.size (Ac a0 a2).1.2.2.2.1)) then ((F0 (Ah (Ac a0 a2).1.2.2.2.1 1 (nI (ByteArray.size (Ac a0 a2).1.2.2.2.1)))).bind fun val => some ((val, ()), ())).bind fun val => bif (Gq ((Ac a0 a2).1.2.2.1, IntKind.i64.wrap (Ae (Ac a0 a2).1.2.2.2.1 0), val.1.1, (Ac a0 a2).1.2.1, ()) a2).toList == a0.toList then some ((((Ac a0 a2).1.2.2.1, IntKind.i64.wrap (Ae (Ac a0 a2).1.2.2.2.1 0), val.1.1, (Ac a0 a2).1.2.1, ()), Int.tmod (Ac a0 a2).1.2.2.1 2 == a1, ()), ()) else some ((((Ac a0 a2).1.2.2.1, IntKind.i64.wrap (Ae (Ac a0 a2).1.2.2.2.1 0), val.1.1, (Ac a0 a2).1.2.1, ()), false, ()), ()) else none else none
theorem Asz (a0 : ByteArray) (a1 : Int) (a2 : Int) : Xe a0 a1 a2 = some (((C0 a0 a1 a2).1, (C0 a0 a1 a2).2, ()), (())) := by
 unfold Xe C0
 have e : Ac a0 a2 = Cw a0 a2 := rfl
 rw [e]
 generalize Cw a0 a2 = p
 obtain ⟨g, o⟩ := p
 cases o
 ·rfl
 ·by_cases h5 : g.2.2.2.1.size = 5
  ·have n1 : F0 (Ah g.2.2.2.1 1 (nI g.2.2.2.1.size)) = some (Zh (Ah g.2.2.2.1 1 (nI g.2.2.2.1.size))) := if_pos (by rw [Fp (by omega) (by simp only [nI]; omega) (by simp [nI])]; simp only [nI]; omega)
   obtain ⟨b0, b1⟩ := Gk g.2.2.2.1 0
   simp only [n1, Option.bind_some, Bool.not_true, cond_false, Bool.true_and]
   rw [bne_eq_false_iff_eq.2 (show nI g.2.2.2.1.size = 5 by simp only [nI]; omega), decide_eq_true h5, decide_eq_true (show 0 < nI g.2.2.2.1.size by simp only [nI]; omega), decide_eq_true (show 1 ≤ nI g.2.2.2.1.size by simp only [nI]; omega), Ag (n := Ae g.2.2.2.1 0) (by omega) (by omega)]
   show (bif (ByteArray.toList (Vd (J9 g) a2) == ByteArray.toList a0) then _ else _) = _
   cases hq : (ByteArray.toList (Vd (J9 g) a2) == ByteArray.toList a0) <;> rfl
  ·simp only [Bool.not_true, cond_false, Bool.true_and]
   rw [bne_iff_ne.2 (show nI g.2.2.2.1.size ≠ 5 by simp only [nI]; omega), decide_eq_false h5]
   rfl
theorem As0 : Bf Tryz.prog 181 sd_spec_l5At :=
 Ar (pat := Ci) [] Ff (At (l := [(14, sd_spec_ReadPage), (75, sd_spec_l1Read), (184, sd_spec_RootPage)]) ⟨Vv, Z8, Vw, trivial⟩) trivial Tryz.func181 (de := fun x => Xe x.1 x.2.1 x.2.2.1) (fun x r h => (Asz x.1 x.2.1 x.2.2.1).trans h) fun _ => by kernel_rfl
def Ad (d : Dk) (w : Int) : Rt := A7 d w
def Mr (v1 v7 : Int) (b0_0 b0_1 b0_2 b0_3 : Int) (b1_0 : List ByteArray) (b1_1 : List Wr) (b2_0 b2_1 b2_2 b2_3 : Int) : Nat := 3
def Af3 : Sig := ⟨[.rd P3, .rd tI], [some 2, none], [.rd yRt], [some 4]⟩
noncomputable def sd_spec_FindRoot : SD := ⟨Af3, fun x => some (((Ad x.1 x.2.1), ()), (()))⟩
noncomputable def ta_spec_FindRoot : Tb := tb [(69, sd_spec_l1Width), (70, sd_spec_ValidDisk), (179, sd_spec_l2Sync), (180, sd_spec_l2Copy), (181, sd_spec_l5At)]
def pa_spec_FindRoot : Nat → Pat × (Nat → Pat) := Fj [(7, ⟨[.boxSl 5 0 .str, .boxSl 5 1 Ey], [(1, .lf (.d tI)), (4, .lf (.ptr 0 0)), (5, .lf (.ptr 1 0)), (6, .lf (.ptr 2 0)), (7, .lf (.d tI))], [.box 28 [.d tI, .d tI, .d tI, .d tI], .box 26 [.d (.sl .str), .d (.sl Ey)], .box 28 [.d tI, .d tI, .d tI, .d tI]]⟩, [(2, ⟨[], [(4, .lf (.ptr 0 0)), (6, .lf (.ptr 1 0))], [.box 28 [.d tI, .d tI, .d tI, .d tI], .box 28 [.d tI, .d tI, .d tI, .d tI]]⟩)])]
noncomputable def co_spec_FindRoot_7 : Code := (Ao (A4 Tryz.f105)).getD 0 .skip
noncomputable def Jk {R : Type}  (NX : ((Int) × (Int) × (Int) × (Int) × (Int) × (Int) × (List ByteArray) × (List Wr) × (Int) × (Int) × (Int) × (Int) × Unit) → Option R) (X2 : ((Int) × (Int) × (Int) × (Int) × (Int) × (Int) × (Int) × (Int) × Unit) → Option R) (v1 : Int) (v7 : Int) (b0_0 : Int) (b0_1 : Int) (b0_2 : Int) (b0_3 : Int) (b1_0 : List ByteArray) (b1_1 : List Wr) (b2_0 : Int) (b2_1 : Int) (b2_2 : Int) (b2_3 : Int) : Option R :=
 bif decide (v7 < 2) then bif decide (0 ≤ v7) then bif decide (v7 < nI b1_0.length) then bif (C0 (b1_0.getD v7.toNat (ByteArray.mk #[])) v7 v1).2 then bif decide ((C0 (b1_0.getD v7.toNat (ByteArray.mk #[])) v7 v1).1.1 > b2_0) then NX (v1, IntKind.i64.wrap (v7 + 1), b0_0, b0_1, b0_2, b0_3, b1_0, b1_1, (C0 (b1_0.getD v7.toNat (ByteArray.mk #[])) v7 v1).1) else NX (v1, IntKind.i64.wrap (v7 + 1), b0_0, b0_1, b0_2, b0_3, b1_0, b1_1, b2_0, b2_1, b2_2, b2_3, ()) else NX (v1, IntKind.i64.wrap (v7 + 1), b0_0, b0_1, b0_2, b0_3, b1_0, b1_1, b2_0, b2_1, b2_2, b2_3, ()) else none else none else X2 (b0_0, b0_1, b0_2, b0_3, b2_0, b2_1, b2_2, b2_3, ())
noncomputable def Ef : Nat → (Int) → (Int) → (Int) → (Int) → (Int) → (Int) → (List ByteArray) → (List Wr) → (Int) → (Int) → (Int) → (Int) →  Option ((Int) × (Int) × (Int) × (Int) × (Int) × (Int) × (Int) × (Int) × Unit)
 | 0, _, _, _, _, _, _, _, _, _, _, _, _ => none
 | m + 1, v1, v7, b0_0, b0_1, b0_2, b0_3, b1_0, b1_1, b2_0, b2_1, b2_2, b2_3 => Jk  (fun d => Ef m d.1 d.2.1 d.2.2.1 d.2.2.2.1 d.2.2.2.2.1 d.2.2.2.2.2.1 d.2.2.2.2.2.2.1 d.2.2.2.2.2.2.2.1 d.2.2.2.2.2.2.2.2.1 d.2.2.2.2.2.2.2.2.2.1 d.2.2.2.2.2.2.2.2.2.2.1 d.2.2.2.2.2.2.2.2.2.2.2.1) (fun d => some (d)) v1 v7 b0_0 b0_1 b0_2 b0_3 b1_0 b1_1 b2_0 b2_1 b2_2 b2_3
noncomputable def Pc (a0 : Dk) (a1 : Int) : Option (((Rt × Unit) × (Unit))) :=
 bif !Fr a0 then some (((0, 0, 0, 0, ()), ()), ()) else Option.bind (bif decide (a1 ≥ 1) then some ((decide (a1 ≤ 8), ()), ()) else some ((false, ()), ())) fun val => bif !val.1.1 then some (((0, 0, 0, 0, ()), ()), ()) else ((In a0).bind fun val => some (val, ())).bind fun val => ((Im val.1).bind fun val => some (val, ())).bind fun val => ((fun d => Ef (Mr d.1 d.2.1 d.2.2.1 d.2.2.2.1 d.2.2.2.2.1 d.2.2.2.2.2.1 d.2.2.2.2.2.2.1 d.2.2.2.2.2.2.2.1 d.2.2.2.2.2.2.2.2.1 d.2.2.2.2.2.2.2.2.2.1 d.2.2.2.2.2.2.2.2.2.2.1 d.2.2.2.2.2.2.2.2.2.2.2.1) d.1 d.2.1 d.2.2.1 d.2.2.2.1 d.2.2.2.2.1 d.2.2.2.2.2.1 d.2.2.2.2.2.2.1 d.2.2.2.2.2.2.2.1 d.2.2.2.2.2.2.2.2.1 d.2.2.2.2.2.2.2.2.2.1 d.2.2.2.2.2.2.2.2.2.2.1 d.2.2.2.2.2.2.2.2.2.2.2.1) (a1, 0, 0, 0, 0, 0, val.1.1, val.1.2.1, 0, 0, 1, 0, ())).bind fun val => some ((val.2.2.2.2, ()), ())
theorem A3j (s : ByteArray) (w : Int) (i : Nat) (b : Rt) : (bif (C0 s i w).2 then (bif decide ((C0 s i w).1.1 > b.1) then (C0 s i w).1 else b) else b) = F5 s w i b := by
 unfold C0 F5
 have hf := @R4 s w
 have hr := @Az8 s w
 generalize Cw s w = p at *
 obtain ⟨g, o⟩ := p
 cases o
 ·rfl
 ·obtain ⟨_, _, _, hp⟩ := hf rfl
  obtain ⟨_, _, r3, _⟩ := Zl hp
  by_cases h5 : g.2.2.2.1.size = 5
  ·have hr := hr rfl h5
   simp only [decide_eq_true h5, Bool.true_and, cond_true, hr]
   rw [Int.tmod_eq_emod_of_nonneg (by omega)]
   have e : (J9 g).1 = g.2.2.1 := rfl
   rw [e]
   cases (g.1 == 4) <;> cases Me (J9 g) <;> cases (g.2.2.1 % 2 == (i : Int)) <;> cases decide (g.2.2.1 > b.1) <;> rfl
  ·simp only [decide_eq_false h5, Bool.true_and, cond_false, Bool.and_false, Bool.false_and]
theorem Avt (X : List ByteArray) (P : List Wr) (w : Int) (i : Nat) (hi : i < 2) (hX : 2 ≤ X.length) (m : Nat) (x1 x2 x3 x4 : Int) (b : Rt) :
  Ef (m + 1) w i x1 x2 x3 x4 X P b.1 b.2.1 b.2.2.1 b.2.2.2.1 = Ef m w ((i + 1 : Nat) : Int) x1 x2 x3 x4 X P (F5 (X.getD i z0) w i b).1 (F5 (X.getD i z0) w i b).2.1 (F5 (X.getD i z0) w i b).2.2.1 (F5 (X.getD i z0) w i b).2.2.2.1 := by
 simp only [Ef, Jk]
 rw [decide_eq_true (show (i : Int) < 2 by omega), Fh, decide_eq_true (show (i : Int) < nI X.length by simp only [nI]; omega), wI (show i < 4611686018427387904 by omega), Int.toNat_natCast, ← A3j]
 show (bif (C0 (X.getD i z0) i w).2 then (bif decide ((C0 (X.getD i z0) i w).1.1 > b.1) then _ else _) else _) = _
 cases (C0 (X.getD i z0) i w).2
 ·rfl
 ·cases decide ((C0 (X.getD i z0) i w).1.1 > b.1) <;> rfl
theorem Af4 (a0 : Dk) (a1 : Int) : Pc a0 a1 = some (((Ad a0 a1), ()), (())) := by
 unfold Pc Ad A7
 show (bif !Bp a0 then _ else _) = _
 cases hv : Bp a0 with
 | false => rfl
 | true =>
  refine Xr (wid a1) ?_
  show (bif !Eo a1 1 8 then _ else _) = _
  cases hw : Eo a1 1 8 with
  | false => rfl
  | true =>
   obtain ⟨k1, k2, k3, k4, k5⟩ := l6 hv
   have e1 : In (a0.1, a0.2.1, ()) = some a0 := if_pos ⟨by show a0.1.length ≤ _; omega, by show a0.2.1.length ≤ _; omega⟩
   have e2 : Im (a0.1, a0.2.1, ()) = some (Auu a0) := if_pos ⟨by show a0.2.1.length ≤ _; omega, fun i hi => ⟨(k5 i hi).1, (k5 i hi).2.1⟩⟩
   have hlen : (Lg a0.1 a0.2.1).length = a0.1.length := Rf _ _
   have hg : ∀ i : Nat, i < 2 → (Lg a0.1 a0.2.1).getD i z0 = Rd a0 i := fun i hi => Aux a0.1 i (by omega) a0.2.1 (fun w hw => by
    obtain ⟨j, hj, rfl⟩ := Ac0 zW hw
    exact (k5 j hj).1)
   have h1 := Avt (Lg a0.1 a0.2.1) [] a1 0 (by omega) (by omega) 2 0 0 0 0 (0, 0, 1, 0, ())
   have h2 := Avt (Lg a0.1 a0.2.1) [] a1 1 (by omega) (by omega) 1 0 0 0 0 (F5 ((Lg a0.1 a0.2.1).getD 0 z0) a1 (0 : Nat) (0, 0, 1, 0, ()))
   have h3 := h1.trans h2
   rw [hg 0 (by omega), hg 1 (by omega)] at h3
   simp only [e1, e2, Option.bind_some, Bool.not_true, cond_false]
   exact Xr h3 rfl
noncomputable def Sp {R : Type} (k : Kt R) := (Hw (pa_spec_FindRoot 7) (.exit 0) 2 k)
noncomputable def X7 {R : Type} : Lt R pa_spec_FindRoot := (D5 (pat := pa_spec_FindRoot) 7 (fun d k => (Ef (Mr d.1 d.2.1 d.2.2.1 d.2.2.2.1 d.2.2.2.2.1 d.2.2.2.2.2.1 d.2.2.2.2.2.2.1 d.2.2.2.2.2.2.2.1 d.2.2.2.2.2.2.2.2.1 d.2.2.2.2.2.2.2.2.2.1 d.2.2.2.2.2.2.2.2.2.2.1 d.2.2.2.2.2.2.2.2.2.2.2.1) d.1 d.2.1 d.2.2.1 d.2.2.2.1 d.2.2.2.2.1 d.2.2.2.2.2.1 d.2.2.2.2.2.2.1 d.2.2.2.2.2.2.2.1 d.2.2.2.2.2.2.2.2.1 d.2.2.2.2.2.2.2.2.2.1 d.2.2.2.2.2.2.2.2.2.2.1 d.2.2.2.2.2.2.2.2.2.2.2.1).bind (Sp k)) Ff)
theorem Vx : Au Tryz.prog ta_spec_FindRoot := At ⟨Db, Kd, Z5, Z6, As0, trivial⟩
theorem Abd {R : Type} : Aw Tryz.prog R 48 0 pa_spec_FindRoot X7 co_spec_FindRoot_7 :=
 B1 (cfg := ⟨ta_spec_FindRoot, 0, 48, pa_spec_FindRoot⟩) 7 [] (fun NX X d => Jk  NX X d.1 d.2.1 d.2.2.1 d.2.2.2.1 d.2.2.2.2.1 d.2.2.2.2.2.1 d.2.2.2.2.2.2.1 d.2.2.2.2.2.2.2.1 d.2.2.2.2.2.2.2.2.1 d.2.2.2.2.2.2.2.2.2.1 d.2.2.2.2.2.2.2.2.2.2.1 d.2.2.2.2.2.2.2.2.2.2.2.1) (fun m d => Ef m d.1 d.2.1 d.2.2.1 d.2.2.2.1 d.2.2.2.2.1 d.2.2.2.2.2.1 d.2.2.2.2.2.2.1 d.2.2.2.2.2.2.2.1 d.2.2.2.2.2.2.2.2.1 d.2.2.2.2.2.2.2.2.2.1 d.2.2.2.2.2.2.2.2.2.2.1 d.2.2.2.2.2.2.2.2.2.2.2.1) (fun d => Mr d.1 d.2.1 d.2.2.1 d.2.2.2.1 d.2.2.2.2.1 d.2.2.2.2.2.1 d.2.2.2.2.2.2.1 d.2.2.2.2.2.2.2.1 d.2.2.2.2.2.2.2.2.1 d.2.2.2.2.2.2.2.2.2.1 d.2.2.2.2.2.2.2.2.2.2.1 d.2.2.2.2.2.2.2.2.2.2.2.1) Sp Vx trivial (fun f NX d => by unfold Jk; simp only [Aj, Ap, Ai, Option.bind_assoc, Option.bind_none, Option.bind_some]) (fun _ _ _ => by kernel_rfl)
theorem Af5 : Bf Tryz.prog 105 sd_spec_FindRoot :=
 Ar (pat := pa_spec_FindRoot) [co_spec_FindRoot_7] X7 Vx ⟨Abd, trivial⟩ Tryz.func105 (de := fun x => Pc x.1 x.2.1) (fun x r h => (Af4 x.1 x.2.1).trans h) fun _ => by kernel_rfl
def Lq (was p : Pg) : Bool := Ama was.1 was.2.1 p
def Ana : Sig := ⟨[.rd yPg, .rd yPg], [some 4, some 4], [.rd .bool], [none]⟩
noncomputable def sd_spec_l3Goes : SD := ⟨Ana, fun x => some (((Lq x.1 x.2.1), ()), (()))⟩
noncomputable def Sq (a0 : Pg) (a1 : Pg) : Option ((((Bool) × Unit) × (Unit))) :=
 bif decide (a1.2.1 < a0.2.1) then some ((false, ()), ()) else bif a1.1 == 3 then some ((a0.1 != 1, ()), ()) else bif a1.1 == 1 then bif a0.1 != 1 then some ((true, ()), ()) else some ((a0.2.1 == a1.2.1, ()), ()) else bif a1.1 == 2 then bif a0.1 != 1 then some ((true, ()), ()) else some ((a0.2.1 == a1.2.1, ()), ()) else some ((false, ()), ())
theorem Anb (a0 : Pg) (a1 : Pg) : Sq a0 a1 = some (((Lq a0 a1), ()), (())) := by
 unfold Sq Lq Ama
 cases decide (a1.2.1 < a0.2.1) <;> cases (a1.1 == 3) <;> cases (a1.1 == 1) <;> cases (a1.1 == 2) <;> cases (a0.1 != 1) <;> rfl
theorem Anc : Bf Tryz.prog 182 sd_spec_l3Goes :=
 Ar (pat := Ci) [] Ff (At (l := []) trivial) trivial Tryz.func182 (de := fun x => Sq x.1 x.2.1) (fun x r h => (Anb x.1 x.2.1).trans h) fun _ => by kernel_rfl
def Ck (d : Dk) (from_ size first life w : Int) : Scd := Tp d from_ size first life w
def As1 : Sig := ⟨[.rd P3, .rd tI, .rd tI, .rd tI, .rd tI, .rd tI], [some 2, none, none, none, none, none], [.own 9 .str, .rd tI, .rd tI], [some 3]⟩
noncomputable def sd_spec_Scan : SD := ⟨As1, fun x => some (((Ck x.1 x.2.1 x.2.2.1 x.2.2.2.1 x.2.2.2.2.1 x.2.2.2.2.2.1).1, (Ck x.1 x.2.1 x.2.2.1 x.2.2.2.1 x.2.2.2.2.1 x.2.2.2.2.2.1).2.1, (Ck x.1 x.2.1 x.2.2.1 x.2.2.2.1 x.2.2.2.2.1 x.2.2.2.2.2.1).2.2.1, ()), (()))⟩
noncomputable def ta_spec_Scan : Tb := tb [(14, sd_spec_ReadPage), (69, sd_spec_l1Width), (70, sd_spec_ValidDisk), (179, sd_spec_l2Sync), (180, sd_spec_l2Copy), (182, sd_spec_l3Goes)]
def pa_spec_Scan : Nat → Pat × (Nat → Pat) := Fj [(9, ⟨[.boxRow 12 0 9 .str, .boxSl 13 0 .str, .boxSl 13 1 Ey, .boxRow 14 0 9 .str], [(1, .lf (.d tI)), (2, .lf (.d tI)), (3, .lf (.d tI)), (5, .lf (.d tI)), (12, .lf (.ptr 0 0)), (13, .lf (.ptr 1 0)), (14, .lf (.ptr 2 0)), (15, .lf (.ptr 3 0)), (16, .lf (.d .str)), (17, .lf (.d tI))], [.box 142 [.row 4, .d tI, .d tI], .box 26 [.d (.sl .str), .d (.sl Ey)], .box 142 [.row 5, .d tI, .d tI], .box 41 [.d tI, .d tI, .d tI, .d .str], .row 9 .str, .row 9 .str]⟩, [(2, ⟨[.boxRow 12 0 9 .str, .boxRow 14 0 9 .str], [(12, .lf (.ptr 0 0)), (14, .lf (.ptr 1 0))], [.box 142 [.row 2, .d tI, .d tI], .box 142 [.row 3, .d tI, .d tI], .row 9 .str, .row 9 .str]⟩), (1, ⟨[.boxRow 12 0 9 .str], [(12, .lf (.ptr 0 0))], [.box 142 [.row 1, .d tI, .d tI], .row 9 .str]⟩)])]
noncomputable def co_spec_Scan_9 : Code := (Ao (A4 Tryz.f106)).getD 0 .skip
def Hk (v1 : Int) (v2 : Int) (v3 : Int) (v5 : Int) (v16 : ByteArray) (v17 : Int) (b0_1 : Int) (b0_2 : Int) (b1_0 : List ByteArray) (b1_1 : List Wr) (b2_1 : Int) (b2_2 : Int) (b3_0 : Int) (b3_1 : Int) (b3_2 : Int) (b3_3 : ByteArray) (r4 : List ByteArray) (r5 : List ByteArray) : Nat := (v2 - v17).toNat + 1
noncomputable def Kz {R : Type}  (NX : ((Int) × (Int) × (Int) × (Int) × (ByteArray) × (Int) × (Int) × (Int) × (List ByteArray) × (List Wr) × (Int) × (Int) × (Int) × (Int) × (Int) × (ByteArray) × (List ByteArray) × (List ByteArray) × Unit) → Option R) (X2 : ((Int) × (Int) × (Int) × (Int) × (List ByteArray) × (List ByteArray) × Unit) → Option R) (X1 : ((Int) × (Int) × (List ByteArray) × Unit) → Option R) (v1 : Int) (v2 : Int) (v3 : Int) (v5 : Int) (v16 : ByteArray) (v17 : Int) (b0_1 : Int) (b0_2 : Int) (b1_0 : List ByteArray) (b1_1 : List Wr) (b2_1 : Int) (b2_2 : Int) (b3_0 : Int) (b3_1 : Int) (b3_2 : Int) (b3_3 : ByteArray) (r4 : List ByteArray) (r5 : List ByteArray) : Option R :=
 bif decide (v17 < v2) then bif decide (0 ≤ IntKind.i64.wrap (v1 + v17)) then bif decide (IntKind.i64.wrap (v1 + v17) < nI b1_0.length) then bif !(Ac (b1_0.getD (IntKind.i64.wrap (v1 + v17)).toNat (ByteArray.mk #[])) v5).2 then X1 (b2_1, b2_2, r5, ()) else bif IntKind.i64.wrap ((Ac (b1_0.getD (IntKind.i64.wrap (v1 + v17)).toNat (ByteArray.mk #[])) v5).1.2.2.1 - v17) != v3 then X1 (b2_1, b2_2, r5, ()) else bif !Lq (b3_0, b3_1, b3_2, b3_3, ()) (Ac (b1_0.getD (IntKind.i64.wrap (v1 + v17)).toNat (ByteArray.mk #[])) v5).1 then X1 (b2_1, b2_2, r5, ()) else bif decide (v16.size + ByteArray.size (Ac (b1_0.getD (IntKind.i64.wrap (v1 + v17)).toNat (ByteArray.mk #[])) v5).1.2.2.2.1 ≤ 9223372036854775807) then bif (Ac (b1_0.getD (IntKind.i64.wrap (v1 + v17)).toNat (ByteArray.mk #[])) v5).1.1 == 1 then NX (v1, v2, v3, v5, v16 ++ (Ac (b1_0.getD (IntKind.i64.wrap (v1 + v17)).toNat (ByteArray.mk #[])) v5).1.2.2.2.1, IntKind.i64.wrap (v17 + 1), b0_1, b0_2, b1_0, b1_1, b2_1, b2_2, (Ac (b1_0.getD (IntKind.i64.wrap (v1 + v17)).toNat (ByteArray.mk #[])) v5).1.1, (Ac (b1_0.getD (IntKind.i64.wrap (v1 + v17)).toNat (ByteArray.mk #[])) v5).1.2.1, (Ac (b1_0.getD (IntKind.i64.wrap (v1 + v17)).toNat (ByteArray.mk #[])) v5).1.2.2.1, (Ac (b1_0.getD (IntKind.i64.wrap (v1 + v17)).toNat (ByteArray.mk #[])) v5).1.2.2.2.1, r4, r5, ()) else bif (Ac (b1_0.getD (IntKind.i64.wrap (v1 + v17)).toNat (ByteArray.mk #[])) v5).1.1 == 2 then bif decide ((r5.length + [v16 ++ (Ac (b1_0.getD (IntKind.i64.wrap (v1 + v17)).toNat (ByteArray.mk #[])) v5).1.2.2.2.1].length) * 16 ≤ 140737488355328) then NX (v1, v2, v3, v5, ByteArray.mk #[], IntKind.i64.wrap (v17 + 1), b0_1, b0_2, b1_0, b1_1, IntKind.i64.wrap (v17 + 1), (Ac (b1_0.getD (IntKind.i64.wrap (v1 + v17)).toNat (ByteArray.mk #[])) v5).1.2.1, (Ac (b1_0.getD (IntKind.i64.wrap (v1 + v17)).toNat (ByteArray.mk #[])) v5).1.1, (Ac (b1_0.getD (IntKind.i64.wrap (v1 + v17)).toNat (ByteArray.mk #[])) v5).1.2.1, (Ac (b1_0.getD (IntKind.i64.wrap (v1 + v17)).toNat (ByteArray.mk #[])) v5).1.2.2.1, (Ac (b1_0.getD (IntKind.i64.wrap (v1 + v17)).toNat (ByteArray.mk #[])) v5).1.2.2.2.1, r4, r5 ++ [v16 ++ (Ac (b1_0.getD (IntKind.i64.wrap (v1 + v17)).toNat (ByteArray.mk #[])) v5).1.2.2.2.1], ()) else none else NX (v1, v2, v3, v5, ByteArray.mk #[], IntKind.i64.wrap (v17 + 1), b0_1, b0_2, b1_0, b1_1, IntKind.i64.wrap (v17 + 1), (Ac (b1_0.getD (IntKind.i64.wrap (v1 + v17)).toNat (ByteArray.mk #[])) v5).1.2.1, (Ac (b1_0.getD (IntKind.i64.wrap (v1 + v17)).toNat (ByteArray.mk #[])) v5).1.1, (Ac (b1_0.getD (IntKind.i64.wrap (v1 + v17)).toNat (ByteArray.mk #[])) v5).1.2.1, (Ac (b1_0.getD (IntKind.i64.wrap (v1 + v17)).toNat (ByteArray.mk #[])) v5).1.2.2.1, (Ac (b1_0.getD (IntKind.i64.wrap (v1 + v17)).toNat (ByteArray.mk #[])) v5).1.2.2.2.1, r4, r5, ()) else none else none else none else X2 (b0_1, b0_2, b2_1, b2_2, r4, r5, ())
noncomputable def E3 : Nat → (Int) → (Int) → (Int) → (Int) → (ByteArray) → (Int) → (Int) → (Int) → (List ByteArray) → (List Wr) → (Int) → (Int) → (Int) → (Int) → (Int) → (ByteArray) → (List ByteArray) → (List ByteArray) →  Option (((Int) × (Int) × (Int) × (Int) × (List ByteArray) × (List ByteArray) × Unit) ⊕ ((Int) × (Int) × (List ByteArray) × Unit))
 | 0, _, _, _, _, _, _, _, _, _, _, _, _, _, _, _, _, _, _ => none
 | m + 1, v1, v2, v3, v5, v16, v17, b0_1, b0_2, b1_0, b1_1, b2_1, b2_2, b3_0, b3_1, b3_2, b3_3, r4, r5 => Kz  (fun d => E3 m d.1 d.2.1 d.2.2.1 d.2.2.2.1 d.2.2.2.2.1 d.2.2.2.2.2.1 d.2.2.2.2.2.2.1 d.2.2.2.2.2.2.2.1 d.2.2.2.2.2.2.2.2.1 d.2.2.2.2.2.2.2.2.2.1 d.2.2.2.2.2.2.2.2.2.2.1 d.2.2.2.2.2.2.2.2.2.2.2.1 d.2.2.2.2.2.2.2.2.2.2.2.2.1 d.2.2.2.2.2.2.2.2.2.2.2.2.2.1 d.2.2.2.2.2.2.2.2.2.2.2.2.2.2.1 d.2.2.2.2.2.2.2.2.2.2.2.2.2.2.2.1 d.2.2.2.2.2.2.2.2.2.2.2.2.2.2.2.2.1 d.2.2.2.2.2.2.2.2.2.2.2.2.2.2.2.2.2.1) (fun d => some (.inl (d))) (fun d => some (.inr (d))) v1 v2 v3 v5 v16 v17 b0_1 b0_2 b1_0 b1_1 b2_1 b2_2 b3_0 b3_1 b3_2 b3_3 r4 r5
noncomputable def Xf (a0 : Dk) (a1 : Int) (a2 : Int) (a3 : Int) (a4 : Int) (a5 : Int) : Option ((((List ByteArray) × (Int) × (Int) × Unit) × (Unit))) :=
 bif !Fr a0 then some (([], 0, 0, ()), ()) else Option.bind (bif decide (a5 ≥ 1) then some ((decide (a5 ≤ 8), ()), ()) else some ((false, ()), ())) fun val => bif !val.1.1 then some (([], 0, 0, ()), ()) else bif decide (a1 < 0) then some (([], 0, 0, ()), ()) else bif decide (a2 < 0) then some (([], 0, 0, ()), ()) else bif decide (a1 > nI (List.length a0.1)) then some (([], 0, 0, ()), ()) else bif decide (a2 > IntKind.i64.wrap (nI (List.length a0.1) - a1)) then some (([], 0, 0, ()), ()) else ((In a0).bind fun val => some (val, ())).bind fun val => ((Im val.1).bind fun val => some (val, ())).bind fun val => ((fun d => E3 (Hk d.1 d.2.1 d.2.2.1 d.2.2.2.1 d.2.2.2.2.1 d.2.2.2.2.2.1 d.2.2.2.2.2.2.1 d.2.2.2.2.2.2.2.1 d.2.2.2.2.2.2.2.2.1 d.2.2.2.2.2.2.2.2.2.1 d.2.2.2.2.2.2.2.2.2.2.1 d.2.2.2.2.2.2.2.2.2.2.2.1 d.2.2.2.2.2.2.2.2.2.2.2.2.1 d.2.2.2.2.2.2.2.2.2.2.2.2.2.1 d.2.2.2.2.2.2.2.2.2.2.2.2.2.2.1 d.2.2.2.2.2.2.2.2.2.2.2.2.2.2.2.1 d.2.2.2.2.2.2.2.2.2.2.2.2.2.2.2.2.1 d.2.2.2.2.2.2.2.2.2.2.2.2.2.2.2.2.2.1) d.1 d.2.1 d.2.2.1 d.2.2.2.1 d.2.2.2.2.1 d.2.2.2.2.2.1 d.2.2.2.2.2.2.1 d.2.2.2.2.2.2.2.1 d.2.2.2.2.2.2.2.2.1 d.2.2.2.2.2.2.2.2.2.1 d.2.2.2.2.2.2.2.2.2.2.1 d.2.2.2.2.2.2.2.2.2.2.2.1 d.2.2.2.2.2.2.2.2.2.2.2.2.1 d.2.2.2.2.2.2.2.2.2.2.2.2.2.1 d.2.2.2.2.2.2.2.2.2.2.2.2.2.2.1 d.2.2.2.2.2.2.2.2.2.2.2.2.2.2.2.1 d.2.2.2.2.2.2.2.2.2.2.2.2.2.2.2.2.1 d.2.2.2.2.2.2.2.2.2.2.2.2.2.2.2.2.2.1) (a1, a2, a3, a5, ByteArray.mk #[], 0, 0, 0, val.1.1, val.1.2.1, 0, a4, 0, a4, 0, ByteArray.mk #[], [], [], ())).bind fun val => Be (fun val => some ((val.2.2.2.2.2.1, val.2.2.1, val.2.2.2.1, ()), ())) (fun val => some ((val.2.2.1, val.1, val.2.1, ()), ())) val
def Azb (y : (Int × Int × Int × Int × List ByteArray × List ByteArray × Unit) ⊕ (Int × Int × List ByteArray × Unit)) : Scd := match y with
 | .inl v => (v.2.2.2.2.2.1, v.2.2.1, v.2.2.2.1, ())
 | .inr v => (v.2.2.1, v.1, v.2.1, ())
theorem Ard {d : Dk} (hd : Mh d) (f n : Nat) (hfn : f + n ≤ d.1.length) (first w b1 b2 : Int) (r4 : List ByteArray) : ∀ (k m i : Nat) (st : ScT) (num : Int) (part : ByteArray), i + k = n → k < m → Xs i st →
  ∃ y, E3 m f n first w st.2.2.1 i b1 b2 (Lg d.1 d.2.1) [] st.2.2.2.2.1 st.2.2.2.2.2 st.1 st.2.1 num part r4 st.2.2.2.1 = some y ∧ Azb y = Mk w first (seen d f i k) i st
 | 0, m + 1, i, st, num, part, hi, _, _ => by
  simp only [E3, Kz]
  rw [decide_eq_false (show ¬ (i : Int) < (n : Int) by omega)]
  exact ⟨_, rfl, rfl⟩
 | k + 1, m + 1, i, st, num, part, hi, hm, hI => by
  have h200 := hd.n200
  have e1 : IntKind.i64.wrap ((f : Int) + (i : Int)) = ((f + i : Nat) : Int) := by rw [Ag (by omega) (by omega)]; omega
  have e2 : List.getD (Lg d.1 d.2.1) (f + i) (ByteArray.mk #[]) = Rd d ((f : Int) + (i : Int)) := A14 hd (by omega)
  have e3 : decide (((f + i : Nat) : Int) < nI (Lg d.1 d.2.1).length) = true := decide_eq_true (by rw [Rf]; simp only [nI]; omega)
  have e4 : IntKind.i64.wrap ((i : Int) + 1) = ((i + 1 : Nat) : Int) := wI (by omega)
  have es : seen d f i (k + 1) = Rd d ((f : Int) + (i : Int)) :: seen d f (i + 1) k := rfl
  simp only [E3, Kz]
  rw [es, decide_eq_true (show (i : Int) < (n : Int) by omega)]
  simp only [e1, e2, e3, e4, Fh, cond_true, Int.toNat_natCast, Ac, Lq]
  unfold Mk Afi
  generalize hx : Rd d ((f : Int) + (i : Int)) = x
  generalize hR : Cw x w = R
  obtain ⟨p, ok⟩ := R
  cases ok with
  | false => exact ⟨_, rfl, rfl⟩
  | true =>
   obtain ⟨q1, q2, q3⟩ := Ako hR
   have e5 : IntKind.i64.wrap (p.2.2.1 - (i : Int)) = p.2.2.1 - (i : Int) := Ag (by omega) (by omega)
   simp only [e5, Bool.not_true, cond_false, Bool.true_and, bne]
   cases hn : (p.2.2.1 - (i : Int) == first) with
   | false => exact ⟨_, rfl, rfl⟩
   | true =>
    simp only [Bool.not_true, cond_false, Bool.true_and]
    have hg : Ama st.1 st.2.1 (p.1, p.2.1, p.2.2.1, p.2.2.2.1, ()) = Ama st.1 st.2.1 p := rfl
    try simp only [hg]
    cases hgo : Ama st.1 st.2.1 p with
    | false => exact ⟨_, rfl, rfl⟩
    | true =>
     have hN := hI.next (by omega) q3
     have e6 : decide (ByteArray.size st.2.2.1 + ByteArray.size p.2.2.2.1 ≤ 9223372036854775807) = true := decide_eq_true (by have := hI.2.1; omega)
     have e7 : decide ((List.length st.2.2.2.1 + 1) * 16 ≤ 140737488355328) = true := decide_eq_true (by have := hI.2.2; omega)
     simp only [e6, Bool.not_true, cond_false, cond_true, List.length_singleton, e7]
     have ih := fun num part => Ard hd f n hfn first w b1 b2 r4 k m (i + 1) (Kr i p st) num part (by omega) (by omega) hN
     have ei : (i : Int) + 1 = ((i + 1 : Nat) : Int) := by omega
     rw [ei]
     unfold Kr at ih ⊢
     cases h1 : (p.1 == 1) with
     | true =>
      have hp : p.1 = 1 := eq_of_beq h1
      rw [h1] at ih
      have := ih p.2.2.1 p.2.2.2.1
      rw [hp]
      exact this
     | false =>
      rw [h1] at ih
      cases h2 : (p.1 == 2) with
      | true =>
       have hp : p.1 = 2 := eq_of_beq h2
       rw [h2] at ih
       have := ih p.2.2.1 p.2.2.2.1
       rw [hp]
       simp only [cond_false, cond_true, ei] at this ⊢
       exact this
      | false =>
       rw [h2] at ih
       have := ih p.2.2.1 p.2.2.2.1
       simp only [cond_false, ei] at this ⊢
       exact this
theorem As2 (a0 : Dk) (a1 : Int) (a2 : Int) (a3 : Int) (a4 : Int) (a5 : Int) : Xf a0 a1 a2 a3 a4 a5 = some (((Ck a0 a1 a2 a3 a4 a5).1, (Ck a0 a1 a2 a3 a4 a5).2.1, (Ck a0 a1 a2 a3 a4 a5).2.2.1, ()), (())) := by
 unfold Xf Ck Tp
 show (bif !Bp a0 then _ else _) = _
 cases hv : Bp a0 with
 | false => rfl
 | true =>
  have hd := l6 hv
  simp only [Bool.not_true, cond_false]
  refine Xr (wid a5) ?_
  cases hw : Eo a5 1 8 with
  | false => rfl
  | true =>
   simp only [Bool.not_true, cond_false]
   have h200 := hd.n200
   by_cases h1 : a1 < 0
   ·rw [decide_eq_true h1, decide_eq_false (show ¬ 0 ≤ a1 by omega)]; rfl
   ·rw [decide_eq_false h1, decide_eq_true (show 0 ≤ a1 by omega)]
    by_cases h2 : a2 < 0
    ·rw [decide_eq_true h2, decide_eq_false (show ¬ 0 ≤ a2 by omega)]; rfl
    ·rw [decide_eq_false h2, decide_eq_true (show 0 ≤ a2 by omega)]
     by_cases h3 : a1 > nI a0.1.length
     ·rw [decide_eq_true h3, decide_eq_false (show ¬ a1 ≤ (a0.1.length : Int) by simp only [nI] at h3; omega)]; rfl
     ·have h3' : a1 ≤ (a0.1.length : Int) := by simp only [nI] at h3; omega
      rw [decide_eq_false h3, decide_eq_true h3']
      rw [Ag (n := nI a0.1.length - a1) (by simp only [nI]; omega) (by simp only [nI]; omega)]
      by_cases h4 : a2 > nI a0.1.length - a1
      ·rw [decide_eq_true h4, decide_eq_false (show ¬ a2 ≤ (a0.1.length : Int) - a1 by simp only [nI] at h4; omega)]; rfl
      ·have h4' : a2 ≤ (a0.1.length : Int) - a1 := by simp only [nI] at h4; omega
       rw [decide_eq_false h4, decide_eq_true h4']
       simp only [cond_false, cond_true, Bool.true_and, Bool.and_self]
       have c1 : In (a0.1, a0.2.1, ()) = some (a0.1, a0.2.1, ()) := if_pos ⟨Nat.le_trans hd.n200 (by decide), Nat.le_trans hd.p300 (by decide)⟩
       have c2 : Im (a0.1, a0.2.1, ()) = some (Auu a0) := if_pos ⟨Nat.le_trans hd.p300 (by decide), fun k hk => ⟨(hd.pen k hk).1, (hd.pen k hk).2.1⟩⟩
       rw [c1]
       simp only [Option.bind_some]
       rw [c2]
       simp only [Option.bind_some]
       obtain ⟨f, rfl⟩ : ∃ f : Nat, a1 = (f : Int) := ⟨a1.toNat, by omega⟩
       obtain ⟨n, rfl⟩ : ∃ n : Nat, a2 = (n : Int) := ⟨a2.toNat, by omega⟩
       have hfu : n < Hk f n a3 a5 (ByteArray.mk #[]) 0 0 0 (Lg a0.1 a0.2.1) [] 0 a4 0 a4 0 (ByteArray.mk #[]) [] [] := by simp only [Hk]; omega
       generalize hF : Hk f n a3 a5 (ByteArray.mk #[]) 0 0 0 (Lg a0.1 a0.2.1) [] 0 a4 0 a4 0 (ByteArray.mk #[]) [] [] = F at hfu
       have hfn : f + n ≤ a0.1.length := by omega
       have hst : Xs 0 (0, a4, z0, [], 0, a4) := Xs.zero _ _ _ _
       obtain ⟨y, hy1, hy2⟩ := Ard hd f n hfn a3 a5 0 0 [] n F 0 (0, a4, z0, [], 0, a4) 0 (ByteArray.mk #[])
        (Nat.zero_add n)
        hfu
        hst
       show (E3 (Hk f n a3 a5 (ByteArray.mk #[]) 0 0 0 (Lg a0.1 a0.2.1) [] 0 a4 0 a4 0 (ByteArray.mk #[]) [] []) f n a3 a5 (ByteArray.mk #[]) 0 0 0 (Lg a0.1 a0.2.1) [] 0 a4 0 a4 0 (ByteArray.mk #[]) [] []).bind _ = _
       rw [hF]
       have hy1' : E3 F f n a3 a5 (ByteArray.mk #[]) 0 0 0 (Lg a0.1 a0.2.1) [] 0 a4 0 a4 0 (ByteArray.mk #[]) [] [] = some y := hy1
       rw [hy1', Int.toNat_natCast]
       simp only [Option.bind_some]
       have hy3 : Azb y = Mk a5 a3 (seen a0 (f : Int) 0 n) 0 (0, a4, z0, [], 0, a4) := hy2
       rw [← hy3]
       cases y <;> rfl
noncomputable def Z9 {R : Type} (k : Kt R) := (Be (Hw (pa_spec_Scan 9) (.exit 0) 2 k) (Hw (pa_spec_Scan 9) .ret 1 k))
noncomputable def Ahv {R : Type} : Lt R pa_spec_Scan := (D5 (pat := pa_spec_Scan) 9 (fun d k => (E3 (Hk d.1 d.2.1 d.2.2.1 d.2.2.2.1 d.2.2.2.2.1 d.2.2.2.2.2.1 d.2.2.2.2.2.2.1 d.2.2.2.2.2.2.2.1 d.2.2.2.2.2.2.2.2.1 d.2.2.2.2.2.2.2.2.2.1 d.2.2.2.2.2.2.2.2.2.2.1 d.2.2.2.2.2.2.2.2.2.2.2.1 d.2.2.2.2.2.2.2.2.2.2.2.2.1 d.2.2.2.2.2.2.2.2.2.2.2.2.2.1 d.2.2.2.2.2.2.2.2.2.2.2.2.2.2.1 d.2.2.2.2.2.2.2.2.2.2.2.2.2.2.2.1 d.2.2.2.2.2.2.2.2.2.2.2.2.2.2.2.2.1 d.2.2.2.2.2.2.2.2.2.2.2.2.2.2.2.2.2.1) d.1 d.2.1 d.2.2.1 d.2.2.2.1 d.2.2.2.2.1 d.2.2.2.2.2.1 d.2.2.2.2.2.2.1 d.2.2.2.2.2.2.2.1 d.2.2.2.2.2.2.2.2.1 d.2.2.2.2.2.2.2.2.2.1 d.2.2.2.2.2.2.2.2.2.2.1 d.2.2.2.2.2.2.2.2.2.2.2.1 d.2.2.2.2.2.2.2.2.2.2.2.2.1 d.2.2.2.2.2.2.2.2.2.2.2.2.2.1 d.2.2.2.2.2.2.2.2.2.2.2.2.2.2.1 d.2.2.2.2.2.2.2.2.2.2.2.2.2.2.2.1 d.2.2.2.2.2.2.2.2.2.2.2.2.2.2.2.2.1 d.2.2.2.2.2.2.2.2.2.2.2.2.2.2.2.2.2.1).bind (Z9 k)) Ff)
theorem Adm : Au Tryz.prog ta_spec_Scan := At ⟨Vv, Db, Kd, Z5, Z6, Anc, trivial⟩
theorem And {R : Type} : Aw Tryz.prog R 118 0 pa_spec_Scan Ahv co_spec_Scan_9 :=
 B1 (cfg := ⟨ta_spec_Scan, 0, 118, pa_spec_Scan⟩) 9 [] (fun NX X d => Kz  NX (fun e => X (.inl (e))) (fun e => X (.inr (e))) d.1 d.2.1 d.2.2.1 d.2.2.2.1 d.2.2.2.2.1 d.2.2.2.2.2.1 d.2.2.2.2.2.2.1 d.2.2.2.2.2.2.2.1 d.2.2.2.2.2.2.2.2.1 d.2.2.2.2.2.2.2.2.2.1 d.2.2.2.2.2.2.2.2.2.2.1 d.2.2.2.2.2.2.2.2.2.2.2.1 d.2.2.2.2.2.2.2.2.2.2.2.2.1 d.2.2.2.2.2.2.2.2.2.2.2.2.2.1 d.2.2.2.2.2.2.2.2.2.2.2.2.2.2.1 d.2.2.2.2.2.2.2.2.2.2.2.2.2.2.2.1 d.2.2.2.2.2.2.2.2.2.2.2.2.2.2.2.2.1 d.2.2.2.2.2.2.2.2.2.2.2.2.2.2.2.2.2.1) (fun m d => E3 m d.1 d.2.1 d.2.2.1 d.2.2.2.1 d.2.2.2.2.1 d.2.2.2.2.2.1 d.2.2.2.2.2.2.1 d.2.2.2.2.2.2.2.1 d.2.2.2.2.2.2.2.2.1 d.2.2.2.2.2.2.2.2.2.1 d.2.2.2.2.2.2.2.2.2.2.1 d.2.2.2.2.2.2.2.2.2.2.2.1 d.2.2.2.2.2.2.2.2.2.2.2.2.1 d.2.2.2.2.2.2.2.2.2.2.2.2.2.1 d.2.2.2.2.2.2.2.2.2.2.2.2.2.2.1 d.2.2.2.2.2.2.2.2.2.2.2.2.2.2.2.1 d.2.2.2.2.2.2.2.2.2.2.2.2.2.2.2.2.1 d.2.2.2.2.2.2.2.2.2.2.2.2.2.2.2.2.2.1) (fun d => Hk d.1 d.2.1 d.2.2.1 d.2.2.2.1 d.2.2.2.2.1 d.2.2.2.2.2.1 d.2.2.2.2.2.2.1 d.2.2.2.2.2.2.2.1 d.2.2.2.2.2.2.2.2.1 d.2.2.2.2.2.2.2.2.2.1 d.2.2.2.2.2.2.2.2.2.2.1 d.2.2.2.2.2.2.2.2.2.2.2.1 d.2.2.2.2.2.2.2.2.2.2.2.2.1 d.2.2.2.2.2.2.2.2.2.2.2.2.2.1 d.2.2.2.2.2.2.2.2.2.2.2.2.2.2.1 d.2.2.2.2.2.2.2.2.2.2.2.2.2.2.2.1 d.2.2.2.2.2.2.2.2.2.2.2.2.2.2.2.2.1 d.2.2.2.2.2.2.2.2.2.2.2.2.2.2.2.2.2.1) Z9 Adm trivial (fun f NX d => by unfold Kz; simp only [Aj, Ap, Ai, Option.bind_assoc, Option.bind_none, Option.bind_some]) (fun _ _ _ => by kernel_rfl)
theorem As3 : Bf Tryz.prog 106 sd_spec_Scan :=
 Ar (pat := pa_spec_Scan) [co_spec_Scan_9] Ahv Adm ⟨And, trivial⟩ Tryz.func106 (de := fun x => Xf x.1 x.2.1 x.2.2.1 x.2.2.2.1 x.2.2.2.2.1 x.2.2.2.2.2.1) (fun x r h => (As2 x.1 x.2.1 x.2.2.1 x.2.2.2.1 x.2.2.2.2.1 x.2.2.2.2.2.1).trans h) fun _ => by kernel_rfl
def F1 (s : Stt) : Option Stt := if s.1.length ≤ 1000000 then some (s.1, ()) else none
def Ane : Sig := ⟨[.rd Bd], [some 1], [.own 167 Ak], [some 1]⟩
noncomputable def sd_spec_l4Copy : SD := ⟨Ane, fun x => (F1 x.1).bind fun r => some ((r.1, ()), (()))⟩
noncomputable def Sr (a0 : Stt) : Option ((Stt × (Unit))) :=
 bif decide ((0 + List.length a0.1) * 32 ≤ 140737488355328) then some (([] ++ a0.1, ()), ()) else none
theorem Anf (a0 : Stt) r (h : F1 a0 = some r) : Sr a0 = some ((r.1, ()), (())) := by
 unfold F1 at h
 split at h
 ·rename_i hc
  cases h
  unfold Sr
  rw [decide_eq_true (show (0 + a0.1.length) * 32 ≤ 140737488355328 by omega)]
  rfl
 ·cases h
theorem Ss : Bf Tryz.prog 127 sd_spec_l4Copy :=
 Ar (pat := Ci) [] Ff (At (l := []) trivial) trivial Tryz.func127 (de := fun x => Sr x.1) (fun x r h => A3 (Anf x.1) h) fun _ => by kernel_rfl
def Jx (s : Stt) (c : Chg) : Option Stt := if s.1.length ≤ 1000000 then some (Ami c s.1, ()) else none
def Af6 : Sig := ⟨[.rd Bd, .rd D8], [some 1, some 3], [.own 167 Ak], [some 1]⟩
noncomputable def sd_spec_l4Change : SD := ⟨Af6, fun x => (Jx x.1 x.2.1).bind fun r => some ((r.1, ()), (()))⟩
noncomputable def ta_spec_l4Change : Tb := tb []
def pa_spec_l4Change : Nat → Pat × (Nat → Pat) := Fj [(5, ⟨[.boxSl 2 0 Ak, .boxRow 4 0 167 Ak, .boxRow 5 0 167 Ak], [(2, .lf (.ptr 0 0)), (3, .lf (.ptr 1 0)), (4, .lf (.ptr 2 0)), (5, .lf (.ptr 3 0)), (6, .lf (.d .bool)), (7, .lf (.d tI))], [.box 31 [.d (.sl Ak)], .box 131 [.d .str, .d .str, .d .bool], .box 31 [.row 4], .box 31 [.row 5], .row 167 Ak, .row 167 Ak]⟩, [(2, ⟨[.boxRow 4 0 167 Ak, .boxRow 5 0 167 Ak], [(3, .lf (.ptr 0 0)), (4, .lf (.ptr 1 0)), (5, .lf (.ptr 2 0)), (6, .lf (.d .bool))], [.box 131 [.d .str, .d .str, .d .bool], .box 31 [.row 3], .box 31 [.row 4], .row 167 Ak, .row 167 Ak]⟩)])]
noncomputable def co_spec_l4Change_5 : Code := (Ao (A4 Tryz.f165)).getD 0 .skip
def Hl (v6 : Bool) (v7 : Int) (b0_0 : List Pr2) (b1_0 : ByteArray) (b1_1 : ByteArray) (b1_2 : Bool) (r4 : List Pr2) (r5 : List Pr2) : Nat := ((b0_0.length : Int) - v7).toNat + 1
noncomputable def Hm {R : Type}  (NX : ((Bool) × (Int) × (List Pr2) × (ByteArray) × (ByteArray) × (Bool) × (List Pr2) × (List Pr2) × Unit) → Option R) (X2 : ((Bool) × (ByteArray) × (ByteArray) × (Bool) × (List Pr2) × (List Pr2) × Unit) → Option R) (v6 : Bool) (v7 : Int) (b0_0 : List Pr2) (b1_0 : ByteArray) (b1_1 : ByteArray) (b1_2 : Bool) (r4 : List Pr2) (r5 : List Pr2) : Option R :=
 bif decide (v7 < nI b0_0.length) then bif !v6 then bif decide (0 ≤ v7) then bif decide (v7 < nI b0_0.length) then bif !(Op.bytesLess (ByteArray.toList (b0_0.getD v7.toNat (ByteArray.mk #[], ByteArray.mk #[], ())).1) b1_0.toList || ByteArray.toList (b0_0.getD v7.toNat (ByteArray.mk #[], ByteArray.mk #[], ())).1 == b1_0.toList) then bif decide ((r5.length + [(b1_0, b1_1, ())].length) * 32 ≤ 140737488355328) then bif decide (0 ≤ v7) then bif decide (v7 < nI b0_0.length) then bif !ByteArray.toList (b0_0.getD v7.toNat (ByteArray.mk #[], ByteArray.mk #[], ())).1 == b1_0.toList then bif decide (0 ≤ v7) then bif decide (v7 < nI b0_0.length) then bif decide (((r5 ++ [(b1_0, b1_1, ())]).length + [b0_0.getD v7.toNat (ByteArray.mk #[], ByteArray.mk #[], ())].length) * 32 ≤ 140737488355328) then NX (true, IntKind.i64.wrap (v7 + 1), b0_0, b1_0, b1_1, b1_2, r4, r5 ++ [(b1_0, b1_1, ())] ++ [b0_0.getD v7.toNat (ByteArray.mk #[], ByteArray.mk #[], ())], ()) else none else none else none else NX (true, IntKind.i64.wrap (v7 + 1), b0_0, b1_0, b1_1, b1_2, r4, r5 ++ [(b1_0, b1_1, ())], ()) else none else none else none else bif decide (0 ≤ v7) then bif decide (v7 < nI b0_0.length) then bif !ByteArray.toList (b0_0.getD v7.toNat (ByteArray.mk #[], ByteArray.mk #[], ())).1 == b1_0.toList then bif decide (0 ≤ v7) then bif decide (v7 < nI b0_0.length) then bif decide ((r5.length + [b0_0.getD v7.toNat (ByteArray.mk #[], ByteArray.mk #[], ())].length) * 32 ≤ 140737488355328) then NX (v6, IntKind.i64.wrap (v7 + 1), b0_0, b1_0, b1_1, b1_2, r4, r5 ++ [b0_0.getD v7.toNat (ByteArray.mk #[], ByteArray.mk #[], ())], ()) else none else none else none else NX (v6, IntKind.i64.wrap (v7 + 1), b0_0, b1_0, b1_1, b1_2, r4, r5, ()) else none else none else none else none else bif decide (0 ≤ v7) then bif decide (v7 < nI b0_0.length) then bif !ByteArray.toList (b0_0.getD v7.toNat (ByteArray.mk #[], ByteArray.mk #[], ())).1 == b1_0.toList then bif decide (0 ≤ v7) then bif decide (v7 < nI b0_0.length) then bif decide ((r5.length + [b0_0.getD v7.toNat (ByteArray.mk #[], ByteArray.mk #[], ())].length) * 32 ≤ 140737488355328) then NX (v6, IntKind.i64.wrap (v7 + 1), b0_0, b1_0, b1_1, b1_2, r4, r5 ++ [b0_0.getD v7.toNat (ByteArray.mk #[], ByteArray.mk #[], ())], ()) else none else none else none else NX (v6, IntKind.i64.wrap (v7 + 1), b0_0, b1_0, b1_1, b1_2, r4, r5, ()) else none else none else X2 (v6, b1_0, b1_1, b1_2, r4, r5, ())
noncomputable def Cv : Nat → (Bool) → (Int) → (List Pr2) → (ByteArray) → (ByteArray) → (Bool) → (List Pr2) → (List Pr2) →  Option ((Bool) × (ByteArray) × (ByteArray) × (Bool) × (List Pr2) × (List Pr2) × Unit)
 | 0, _, _, _, _, _, _, _, _ => none
 | m + 1, v6, v7, b0_0, b1_0, b1_1, b1_2, r4, r5 => Hm  (fun d => Cv m d.1 d.2.1 d.2.2.1 d.2.2.2.1 d.2.2.2.2.1 d.2.2.2.2.2.1 d.2.2.2.2.2.2.1 d.2.2.2.2.2.2.2.1) (fun d => some (d)) v6 v7 b0_0 b1_0 b1_1 b1_2 r4 r5
noncomputable def Pd (a0 : Stt) (a1 : Chg) : Option ((Stt × (Unit))) :=
 ((fun d => Cv (Hl d.1 d.2.1 d.2.2.1 d.2.2.2.1 d.2.2.2.2.1 d.2.2.2.2.2.1 d.2.2.2.2.2.2.1 d.2.2.2.2.2.2.2.1) d.1 d.2.1 d.2.2.1 d.2.2.2.1 d.2.2.2.2.1 d.2.2.2.2.2.1 d.2.2.2.2.2.2.1 d.2.2.2.2.2.2.2.1) (a1.2.2.1, 0, a0.1, a1.1, a1.2.1, a1.2.2.1, [], [], ())).bind fun val => bif !val.1 then bif decide ((val.2.2.2.2.2.1.length + [(val.2.1, val.2.2.1, ())].length) * 32 ≤ 140737488355328) then some ((val.2.2.2.2.2.1 ++ [(val.2.1, val.2.2.1, ())], ()), ()) else none else some (val.2.2.2.2.2, ())
theorem Af7 (a0 : Stt) (a1 : Chg) r (h : Jx a0 a1 = some r) : Pd a0 a1 = some ((r.1, ()), (())) := by
 unfold Jx at h
 split at h
 rotate_left
 ·cases h
 rename_i hlen
 cases h
 unfold Pd
 have hL := Fq (xs := a0.1) zP (fun i (s : Bool × List Pr2) => i ≤ 1000000 ∧ s.2.length ≤ 2 * i) (fun _ p s => R7 a1.1 a1.2.1 p s) (g := fun m i s => Cv m s.1 i a0.1 a1.1 a1.2.1 a1.2.2.1 [] s.2) (ok := fun s => (s.1, a1.1, a1.2.1, a1.2.2.1, [], s.2, ())) (fun m i s hi hI => by
   show Cv (m + 1) s.1 i a0.1 a1.1 a1.2.1 a1.2.2.1 [] s.2 = _
   obtain ⟨d, out⟩ := s
   obtain ⟨h1, h2⟩ := hI
   simp only at h2 ⊢
   simp only [Cv, Hm]
   have e1 : decide ((out.length + 1) * 32 ≤ 140737488355328) = true := decide_eq_true (by omega)
   have e2 : decide ((out.length + 1 + 1) * 32 ≤ 140737488355328) = true := decide_eq_true (by omega)
   rw [Mg hi, Fh, wI (show i < 4611686018427387904 by omega), Int.toNat_natCast]
   simp only [cond_true, List.length_singleton, List.length_append, e1, e2]
   unfold R7 gtS bl
   show (bif !d then (bif !(Op.bytesLess (List.getD a0.1 i zP).1.toList a1.1.toList || (List.getD a0.1 i zP).1.toList == a1.1.toList) then _ else _) else _) = _
   cases d with
   | true =>
    simp only [Bool.not_true, Bool.false_and, cond_false]
    show (bif !((List.getD a0.1 i zP).1.toList == a1.1.toList) then _ else _) = _
    cases ((List.getD a0.1 i zP).1.toList == a1.1.toList) <;> rfl
   | false =>
    simp only [Bool.not_false, Bool.true_and, cond_true]
    cases hq : !(Op.bytesLess (List.getD a0.1 i zP).1.toList a1.1.toList || (List.getD a0.1 i zP).1.toList == a1.1.toList) with
    | true =>
     simp only [cond_true]
     show (bif !((List.getD a0.1 i zP).1.toList == a1.1.toList) then _ else _) = _
     cases ((List.getD a0.1 i zP).1.toList == a1.1.toList) <;> rfl
    | false =>
     simp only [cond_false]
     show (bif !((List.getD a0.1 i zP).1.toList == a1.1.toList) then _ else _) = _
     cases ((List.getD a0.1 i zP).1.toList == a1.1.toList) <;> rfl) (fun i s hi hI => ⟨by omega, by have := Aml a1.1 a1.2.1 (a0.1.getD i zP) s; omega⟩) (fun m s hI => by
   show Cv (m + 1) s.1 (a0.1.length : Int) a0.1 a1.1 a1.2.1 a1.2.2.1 [] s.2 = _
   simp only [Cv, Hm]
   rw [Hx]
   rfl) (Hl a1.2.2.1 0 a0.1 a1.1 a1.2.1 a1.2.2.1 [] []) 0 (a1.2.2.1, []) (by omega) (by simp [Hl, nI]) ⟨by omega, Nat.le_refl _⟩
 have hE := Ay4 a1.1 a1.2.1 a0.1 0 (a1.2.2.1, [])
 have hB : (Fb (fun _ p s => R7 a1.1 a1.2.1 p s) 0 a0.1 (a1.2.2.1, [])).2.length ≤ 2 * a0.1.length := by
  have := l9 zP (fun i (s : Bool × List Pr2) => s.2.length ≤ 2 * i) (fun _ p s => R7 a1.1 a1.2.1 p s) (xs := a0.1) (fun i s hi hI => by have := Aml a1.1 a1.2.1 (a0.1.getD i zP) s; omega) a0.1.length 0 (a1.2.2.1, []) (by omega) (Nat.le_refl _)
  exact this
 rw [List.drop_zero] at hL
 refine Nl hL ?_
 dsimp only
 generalize Fb (fun _ p s => R7 a1.1 a1.2.1 p s) 0 a0.1 (a1.2.2.1, []) = q at hE hB
 obtain ⟨d, out⟩ := q
 simp only at hB
 simp only [List.nil_append] at hE
 show _ = some ((M6 a1.1 a1.2.1 a1.2.2.1 a0.1, ()), ())
 rw [← hE]
 unfold Avh
 have e1 : decide ((out.length + 1) * 32 ≤ 140737488355328) = true := decide_eq_true (by omega)
 cases d with
 | true => rfl
 | false =>
  simp only [Bool.not_false, cond_true, cond_false, List.length_singleton, e1]
noncomputable def Su {R : Type} (k : Kt R) := (Hw (pa_spec_l4Change 5) (.exit 0) 2 k)
noncomputable def X8 {R : Type} : Lt R pa_spec_l4Change := (D5 (pat := pa_spec_l4Change) 5 (fun d k => (Cv (Hl d.1 d.2.1 d.2.2.1 d.2.2.2.1 d.2.2.2.2.1 d.2.2.2.2.2.1 d.2.2.2.2.2.2.1 d.2.2.2.2.2.2.2.1) d.1 d.2.1 d.2.2.1 d.2.2.2.1 d.2.2.2.2.1 d.2.2.2.2.2.1 d.2.2.2.2.2.2.1 d.2.2.2.2.2.2.2.1).bind (Su k)) Ff)
theorem Vy : Au Tryz.prog ta_spec_l4Change := At trivial
theorem Abe {R : Type} : Aw Tryz.prog R 73 0 pa_spec_l4Change X8 co_spec_l4Change_5 :=
 B1 (cfg := ⟨ta_spec_l4Change, 0, 73, pa_spec_l4Change⟩) 5 [] (fun NX X (d : (Bool) × (Int) × (List Pr2) × (ByteArray) × (ByteArray) × (Bool) × (List Pr2) × (List Pr2) × Unit) => Hm  NX X d.1 d.2.1 d.2.2.1 d.2.2.2.1 d.2.2.2.2.1 d.2.2.2.2.2.1 d.2.2.2.2.2.2.1 d.2.2.2.2.2.2.2.1) (fun m d => Cv m d.1 d.2.1 d.2.2.1 d.2.2.2.1 d.2.2.2.2.1 d.2.2.2.2.2.1 d.2.2.2.2.2.2.1 d.2.2.2.2.2.2.2.1) (fun d => Hl d.1 d.2.1 d.2.2.1 d.2.2.2.1 d.2.2.2.2.1 d.2.2.2.2.2.1 d.2.2.2.2.2.2.1 d.2.2.2.2.2.2.2.1) Su Vy trivial (fun f NX (d : (Bool) × (Int) × (List Pr2) × (ByteArray) × (ByteArray) × (Bool) × (List Pr2) × (List Pr2) × Unit) => by unfold Hm; simp only [Aj, Ap, Ai, Option.bind_assoc, Option.bind_none, Option.bind_some]) (fun _ _ _ => by kernel_rfl)
theorem Af8 : Bf Tryz.prog 165 sd_spec_l4Change :=
 Ar (pat := pa_spec_l4Change) [co_spec_l4Change_5] X8 Vy ⟨Abe, trivial⟩ Tryz.func165 (de := fun x => Pd x.1 x.2.1) (fun x r h => A3 (Af7 x.1 x.2.1) h) fun _ => by kernel_rfl
def Ic (s : Stt) (b : List Chg) : Stt × Int := Nn s b
def Ao8 : Sig := ⟨[.rd Bd, .rd (.sl D8)], [some 1, none], [.own 167 Ak, .rd tI], [some 1, none]⟩
noncomputable def sd_spec_Apply : SD := ⟨Ao8, fun x => some (((Ic x.1 x.2.1).1.1, (Ic x.1 x.2.1).2, ()), (()))⟩
noncomputable def ta_spec_Apply : Tb := tb [(73, sd_spec_ValidState), (79, sd_spec_ValidBatch), (127, sd_spec_l4Copy), (165, sd_spec_l4Change)]
def pa_spec_Apply : Nat → Pat × (Nat → Pat) := Fj [(6, ⟨[.sl 1 0 D8, .boxRow 4 0 167 Ak, .boxRow 6 0 167 Ak], [(1, .lf (.d (.sl D8))), (4, .lf (.ptr 0 0)), (6, .lf (.ptr 1 0)), (7, .lf (.d tI))], [.box 31 [.row 2], .box 31 [.row 3], .row 167 Ak, .row 167 Ak]⟩, [(2, ⟨[.boxRow 4 0 167 Ak, .boxRow 6 0 167 Ak], [(4, .lf (.ptr 0 0)), (6, .lf (.ptr 1 0))], [.box 31 [.row 2], .box 31 [.row 3], .row 167 Ak, .row 167 Ak]⟩)])]
noncomputable def co_spec_Apply_6 : Code := (Ao (A4 Tryz.f80)).getD 0 .skip
def H2 (v1 : List Chg) (v7 : Int) (r2 : List Pr2) (r3 : List Pr2) : Nat := ((v1.length : Int) - v7).toNat + 1
noncomputable def Jy {R : Type}  (NX : ((List Chg) × (Int) × (List Pr2) × (List Pr2) × Unit) → Option R) (X2 : ((List Pr2) × (List Pr2) × Unit) → Option R) (v1 : List Chg) (v7 : Int) (r2 : List Pr2) (r3 : List Pr2) : Option R :=
 bif decide (v7 < nI v1.length) then bif decide (0 ≤ v7) then bif decide (v7 < nI v1.length) then ((Jx (r3, ()) (v1.getD v7.toNat (ByteArray.mk #[], ByteArray.mk #[], false, ()))).bind fun val => some (val, ())).bind fun val => NX (v1, IntKind.i64.wrap (v7 + 1), r2, val.1) else none else none else X2 (r2, r3, ())
noncomputable def Dc : Nat → (List Chg) → (Int) → (List Pr2) → (List Pr2) →  Option ((List Pr2) × (List Pr2) × Unit)
 | 0, _, _, _, _ => none
 | m + 1, v1, v7, r2, r3 => Jy  (fun d => Dc m d.1 d.2.1 d.2.2.1 d.2.2.2.1) (fun d => some (d)) v1 v7 r2 r3
noncomputable def Us (a0 : Stt) (a1 : List Chg) : Option ((((List Pr2) × (Int) × Unit) × (Unit))) :=
 bif !Du a0 then some (([], 1, ()), ()) else bif !Ia a1 then some (([], 1, ()), ()) else ((F1 a0).bind fun val => some (val, ())).bind fun val => ((fun d => Dc (H2 d.1 d.2.1 d.2.2.1 d.2.2.2.1) d.1 d.2.1 d.2.2.1 d.2.2.2.1) (a1, 0, [], val.1)).bind fun val => bif decide (nI val.2.1.length > 100) then some (([], 2, ()), ()) else some ((val.2.1, 0, ()), ())
theorem As4 (b : List Chg) (xs : List Pr2) (hb : b.length ≤ 20) (hx : xs.length ≤ 100) : Dc (H2 b 0 [] xs) b 0 [] xs = some ([], Nm xs b, ()) := by
 have hL := Fq (xs := b) zC (fun i (l : List Pr2) => i ≤ 20 ∧ l.length ≤ 100 + i) (fun _ c l => Ami c l) (g := fun m i l => Dc m b i [] l) (ok := fun l => ([], l, ())) (fun m i l hi hI => by
   show Dc (m + 1) b i [] l = _
   simp only [Dc, Jy]
   rw [Mg hi, Fh, wI (show i < 4611686018427387904 by omega), Int.toNat_natCast]
   simp only [cond_true]
   have e1 : Jx (l, ()) ((List.getD b i zC).1, (List.getD b i zC).2.1, (List.getD b i zC).2.2.1, ()) = some (Ami (List.getD b i zC) l, ()) := if_pos (by show l.length ≤ 1000000; omega)
   refine (congrArg (fun y => Option.bind (Option.bind y _) _) e1).trans ?_
   rfl) (fun i l hi hI => ⟨by omega, by have := A3g (b.getD i zC) l; omega⟩) (fun m l hI => by
   show Dc (m + 1) b (b.length : Int) [] l = _
   simp only [Dc, Jy]
   rw [Hx]
   rfl) (H2 b 0 [] xs) 0 xs (by omega) (by simp [H2, nI]) ⟨by omega, by omega⟩
 rw [List.drop_zero] at hL
 exact hL
theorem Ao9 (a0 : Stt) (a1 : List Chg) : Us a0 a1 = some (((Ic a0 a1).1.1, (Ic a0 a1).2, ()), (())) := by
 unfold Us Ic Nn
 show (bif !Aq a0 then _ else bif !Bg a1 then _ else _) = _
 cases hv : Aq a0 with
 | false => rfl
 | true =>
  cases hb : Bg a1 with
  | false => rfl
  | true =>
   simp only [Bool.not_true, cond_false]
   have hl := D2 hv
   have hb2 := G4 (Cj hb).1
   have e1 : F1 (a0.1, ()) = some (a0.1, ()) := if_pos (Nat.le_trans hl (by decide))
   rw [e1]
   simp only [Option.bind_some]
   refine Nl (As4 a1 a0.1 (by omega) hl) ?_
   dsimp only
   by_cases q : (Nm a0.1 a1).length > 100
   ·rw [decide_eq_true (show nI (Nm a0.1 a1).length > 100 by simp only [nI]; omega), decide_eq_true q]
    rfl
   ·rw [decide_eq_false (show ¬ nI (Nm a0.1 a1).length > 100 by simp only [nI]; omega), decide_eq_false q]
    rfl
noncomputable def X9 {R : Type} (k : Kt R) := (Hw (pa_spec_Apply 6) (.exit 0) 2 k)
noncomputable def Adn {R : Type} : Lt R pa_spec_Apply := (D5 (pat := pa_spec_Apply) 6 (fun d k => (Dc (H2 d.1 d.2.1 d.2.2.1 d.2.2.2.1) d.1 d.2.1 d.2.2.1 d.2.2.2.1).bind (X9 k)) Ff)
theorem w9 : Au Tryz.prog ta_spec_Apply := At ⟨Jj, Se, Ss, Af8, trivial⟩
theorem Aiy {R : Type} : Aw Tryz.prog R 37 0 pa_spec_Apply Adn co_spec_Apply_6 :=
 B1 (cfg := ⟨ta_spec_Apply, 0, 37, pa_spec_Apply⟩) 6 [] (fun NX X d => Jy  NX X d.1 d.2.1 d.2.2.1 d.2.2.2.1) (fun m d => Dc m d.1 d.2.1 d.2.2.1 d.2.2.2.1) (fun d => H2 d.1 d.2.1 d.2.2.1 d.2.2.2.1) X9 w9 trivial (fun f NX d => by unfold Jy; simp only [Aj, Ap, Ai, Option.bind_assoc, Option.bind_none, Option.bind_some]) (fun _ _ _ => by kernel_rfl)
theorem Apa : Bf Tryz.prog 80 sd_spec_Apply :=
 Ar (pat := pa_spec_Apply) [co_spec_Apply_6] Adn w9 ⟨Aiy, trivial⟩ Tryz.func80 (de := fun x => Us x.1 x.2.1) (fun x r h => (Ao9 x.1 x.2.1).trans h) fun _ => by kernel_rfl
def Hn (s : ByteArray) : ByteArray × ByteArray × Bool := ((A0 s).1, bif (A0 s).2.2 then (A0 s).2.1 else ⟨#[]⟩, (A0 s).2.2)
def Aiz : Sig := ⟨[.rd .str], [none], [.rd .str, .rd .str, .rd .bool], [none, none, none]⟩
noncomputable def sd_spec_l4Piece : SD := ⟨Aiz, fun x => some (((Hn x.1).1, (Hn x.1).2.1, (Hn x.1).2.2, ()), (()))⟩
noncomputable def Qq (a0 : ByteArray) : Option ((((ByteArray) × (ByteArray) × (Bool) × Unit) × (Unit))) :=
 bif decide (nI a0.size < 1) then some ((ByteArray.mk #[], ByteArray.mk #[], false, ()), ()) else bif decide (0 < nI a0.size) then bif decide (nI a0.size < IntKind.i64.wrap (1 + IntKind.i64.wrap (Ae a0 0))) then some ((ByteArray.mk #[], ByteArray.mk #[], false, ()), ()) else bif decide (0 < nI a0.size) then bif decide (1 ≤ IntKind.i64.wrap (1 + IntKind.i64.wrap (Ae a0 0))) then bif decide (IntKind.i64.wrap (1 + IntKind.i64.wrap (Ae a0 0)) ≤ nI a0.size) then bif decide (0 ≤ IntKind.i64.wrap (1 + IntKind.i64.wrap (Ae a0 0))) then bif decide (IntKind.i64.wrap (1 + IntKind.i64.wrap (Ae a0 0)) ≤ nI a0.size) then some ((Ah a0 1 (IntKind.i64.wrap (1 + IntKind.i64.wrap (Ae a0 0))), Ah a0 (IntKind.i64.wrap (1 + IntKind.i64.wrap (Ae a0 0))) (nI a0.size), true, ()), ()) else none else none else none else none else none else none
theorem Ai0 (a0 : ByteArray) : Qq a0 = some (((Hn a0).1, (Hn a0).2.1, (Hn a0).2.2, ()), (())) := by
 unfold Qq Hn A0
 obtain ⟨b0, b1⟩ := Gk a0 0
 have hw : IntKind.i64.wrap (1 + IntKind.i64.wrap (Ae a0 0)) = 1 + Ae a0 0 := by
  rw [Ag (n := Ae a0 0) (by omega) (by omega), Ag (by omega) (by omega)]
 rw [hw]
 by_cases h0 : (a0.size : Int) < 1
 ·rw [if_pos (Or.inl h0), decide_eq_true (show nI a0.size < 1 from h0)]
  rfl
 ·rw [decide_eq_false (show ¬ nI a0.size < 1 from h0), decide_eq_true (show 0 < nI a0.size by simp only [nI]; omega)]
  by_cases h1 : (a0.size : Int) < 1 + Ae a0 0
  ·rw [if_pos (Or.inr h1), decide_eq_true (show nI a0.size < 1 + Ae a0 0 from h1)]
   rfl
  ·rw [if_neg (by omega), decide_eq_false (show ¬ nI a0.size < 1 + Ae a0 0 from h1), decide_eq_true (show 1 ≤ 1 + Ae a0 0 by omega), decide_eq_true (show 0 ≤ 1 + Ae a0 0 by omega), decide_eq_true (show 1 + Ae a0 0 ≤ nI a0.size by simp only [nI]; omega)]
   rfl
theorem Ai1 : Bf Tryz.prog 215 sd_spec_l4Piece :=
 Ar (pat := Ci) [] Ff (At (l := []) trivial) trivial Tryz.func215 (de := fun x => Qq x.1) (fun x r h => (Ai0 x.1).trans h) fun _ => by kernel_rfl
def Dh (s : ByteArray) : List Chg × Bool := Al1 s
def Lh (v0 v5 : ByteArray) (r0 : List Chg) : Nat := 22
def Ado : Sig := ⟨[.rd .str], [none], [.own 131 D8, .rd .bool], [none, none]⟩
noncomputable def sd_spec_ReadBatch : SD := ⟨Ado, fun x => some (((Dh x.1).1, (Dh x.1).2, ()), (()))⟩
noncomputable def ta_spec_ReadBatch : Tb := tb [(82, sd_spec_FormBatch), (215, sd_spec_l4Piece)]
def pa_spec_ReadBatch : Nat → Pat × (Nat → Pat) := Fj [(4, ⟨[.row 4 0 131 D8], [(0, .lf (.d .str)), (4, .lf (.row 0)), (5, .lf (.d .str))], [.row 131 D8]⟩, [(2, ⟨[.row 4 0 131 D8], [(0, .lf (.d .str)), (4, .lf (.row 0))], [.row 131 D8]⟩), (1, ⟨[.row 2 0 131 D8], [(2, .lf (.row 0)), (3, .lf (.d .bool))], [.row 131 D8]⟩)])]
noncomputable def co_spec_ReadBatch_4 : Code := (Ao (A4 Tryz.f183)).getD 0 .skip
noncomputable def It {R : Type}  (NX : ((ByteArray) × (ByteArray) × (List Chg) × Unit) → Option R) (X2 : ((ByteArray) × (List Chg) × Unit) → Option R) (X1 : ((Bool) × (List Chg) × Unit) → Option R) (v0 : ByteArray) (v5 : ByteArray) (r0 : List Chg) : Option R :=
 bif decide (nI v5.size > 0) then bif decide (nI r0.length ≤ 20) then bif decide (0 < nI v5.size) then bif decide (1 ≤ nI v5.size) then bif !(A0 (Ah v5 1 (nI v5.size))).2.2 then X1 (false, [], ()) else bif !Ae v5 0 == 1 then bif !(A0 (bif (A0 (Ah v5 1 (nI v5.size))).2.2 then (A0 (Ah v5 1 (nI v5.size))).2.1 else ByteArray.mk #[])).2.2 then X1 (false, [], ()) else bif decide ((r0.length + [((A0 (Ah v5 1 (nI v5.size))).1, (A0 (bif (A0 (Ah v5 1 (nI v5.size))).2.2 then (A0 (Ah v5 1 (nI v5.size))).2.1 else ByteArray.mk #[])).1, Ae v5 0 == 1, ())].length) * 40 ≤ 140737488355328) then NX (v0, bif (A0 (bif (A0 (Ah v5 1 (nI v5.size))).2.2 then (A0 (Ah v5 1 (nI v5.size))).2.1 else ByteArray.mk #[])).2.2 then (A0 (bif (A0 (Ah v5 1 (nI v5.size))).2.2 then (A0 (Ah v5 1 (nI v5.size))).2.1 else ByteArray.mk #[])).2.1 else ByteArray.mk #[], r0 ++ [((A0 (Ah v5 1 (nI v5.size))).1, (A0 (bif (A0 (Ah v5 1 (nI v5.size))).2.2 then (A0 (Ah v5 1 (nI v5.size))).2.1 else ByteArray.mk #[])).1, Ae v5 0 == 1, ())], ()) else none else bif decide ((r0.length + [((A0 (Ah v5 1 (nI v5.size))).1, ByteArray.mk #[], Ae v5 0 == 1, ())].length) * 40 ≤ 140737488355328) then NX (v0, bif (A0 (Ah v5 1 (nI v5.size))).2.2 then (A0 (Ah v5 1 (nI v5.size))).2.1 else ByteArray.mk #[], r0 ++ [((A0 (Ah v5 1 (nI v5.size))).1, ByteArray.mk #[], Ae v5 0 == 1, ())], ()) else none else none else none else X2 (v0, r0, ()) else X2 (v0, r0, ())
noncomputable def E8 : Nat → (ByteArray) → (ByteArray) → (List Chg) →  Option (((ByteArray) × (List Chg) × Unit) ⊕ ((Bool) × (List Chg) × Unit))
 | 0, _, _, _ => none
 | m + 1, v0, v5, r0 => It  (fun d => E8 m d.1 d.2.1 d.2.2.1) (fun d => some (.inl (d))) (fun d => some (.inr (d))) v0 v5 r0
noncomputable def N1 (a0 : ByteArray) : Option ((((List Chg) × (Bool) × Unit) × (Unit))) :=
 ((fun d => E8 (Lh d.1 d.2.1 d.2.2.1) d.1 d.2.1 d.2.2.1) (a0, a0, [], ())).bind fun val => Be (fun val => bif nI (ByteArray.size val.1) == 0 then some (([], false, ()), ()) else bif !(Et val.2.1).toList == ByteArray.toList val.1 then some (([], false, ()), ()) else some ((val.2.1, true, ()), ())) (fun val => some ((val.2.1, val.1, ()), ())) val
def A5w (s0 : ByteArray) (o : Option (List Chg × ByteArray)) : (ByteArray × List Chg × Unit) ⊕ (Bool × List Chg × Unit) := match o with
 | some (b, t) => .inl (s0, b, ())
 | none => .inr (false, [], ())
theorem Ang (s0 : ByteArray) : ∀ (f m : Nat) (r : List Chg) (s : ByteArray), r.length + f = 22 → f ≤ m → 1 ≤ f → E8 m s0 s r = some (A5w s0 (Mf false f r s))
 | 0, _, _, _, _, _, h => by omega
 | f + 1, 0, _, _, _, h, _ => by omega
 | f + 1, m + 1, r, s, hf, hm, _ => by
  simp only [E8, It, Mf]
  by_cases hs : s.size > 0
  ·rw [decide_eq_true (show nI s.size > 0 by simp only [nI]; omega), decide_eq_true hs]
   by_cases hr : r.length ≤ 20
   ·rw [decide_eq_true (show nI r.length ≤ 20 by simp only [nI]; omega), decide_eq_true hr, decide_eq_true (show 1 ≤ nI s.size by simp only [nI]; omega)]
    unfold Ahh
    generalize A0 (Ah s 1 (nI s.size)) = p
    simp only [List.length_singleton, Bool.false_and, cond_true, Bool.and_self, cond_false]
    rw [decide_eq_true (show (r.length + 1) * 40 ≤ 140737488355328 by omega)]
    obtain ⟨k, t, o⟩ := p
    cases o
    ·rfl
    ·by_cases h2 : Ae s 0 = 1
     ·rw [h2]
      exact Ang s0 f m (r ++ [(k, ByteArray.mk #[], true, ())]) t (by rw [List.length_append, List.length_singleton]; omega) (by omega) (by omega)
     ·have h3 : (Ae s 0 == 1) = false := beq_eq_false_iff_ne.2 h2
      rw [h3]
      simp only [Bool.not_true, Bool.not_false, cond_false, cond_true]
      generalize A0 t = q
      obtain ⟨v, u, o⟩ := q
      cases o
      ·rfl
      ·exact Ang s0 f m (r ++ [(k, v, false, ())]) u (by rw [List.length_append, List.length_singleton]; omega) (by omega) (by omega)
   ·rw [decide_eq_false (show ¬ nI r.length ≤ 20 by simp only [nI]; omega), decide_eq_false hr]
    rfl
  ·rw [decide_eq_false (show ¬ nI s.size > 0 by simp only [nI]; omega), decide_eq_false hs]
   rfl
theorem Adp (a0 : ByteArray) : N1 a0 = some (((Dh a0).1, (Dh a0).2, ()), (())) := by
 unfold N1 Dh Al1
 have hL := Ang a0 22 22 [] a0 rfl (Nat.le_refl _) (by omega)
 refine Xr hL ?_
 cases Mf false 22 [] a0 with
 | none => rfl
 | some bt =>
  obtain ⟨b, t⟩ := bt
  show (bif nI a0.size == 0 then _ else (bif !(ByteArray.toList (F4 b) == ByteArray.toList a0) then _ else _)) = _
  have e : (nI a0.size == 0) = (a0.size == 0) := by
   by_cases q : a0.size = 0
   ·rw [q]; rfl
   ·rw [beq_eq_false_iff_ne.2 q, beq_eq_false_iff_ne.2 (show nI a0.size ≠ 0 by simp only [nI]; omega)]
  rw [e]
  simp only
  cases (a0.size == 0) <;> cases (ByteArray.toList (F4 b) == ByteArray.toList a0) <;> rfl
noncomputable def Q4 {R : Type} (k : Kt R) := (Be (Hw (pa_spec_ReadBatch 4) (.exit 0) 2 k) (Hw (pa_spec_ReadBatch 4) .ret 1 k))
noncomputable def Vz {R : Type} : Lt R pa_spec_ReadBatch := (D5 (pat := pa_spec_ReadBatch) 4 (fun d k => (E8 (Lh d.1 d.2.1 d.2.2.1) d.1 d.2.1 d.2.2.1).bind (Q4 k)) Ff)
theorem T3 : Au Tryz.prog ta_spec_ReadBatch := At ⟨Nu, Ai1, trivial⟩
theorem n7 {R : Type} : Aw Tryz.prog R 70 0 pa_spec_ReadBatch Vz co_spec_ReadBatch_4 :=
 B1 (cfg := ⟨ta_spec_ReadBatch, 0, 70, pa_spec_ReadBatch⟩) 4 [] (fun NX X d => It  NX (fun e => X (.inl (e))) (fun e => X (.inr (e))) d.1 d.2.1 d.2.2.1) (fun m d => E8 m d.1 d.2.1 d.2.2.1) (fun d => Lh d.1 d.2.1 d.2.2.1) Q4 T3 trivial (fun f NX d => by unfold It; simp only [Aj, Ap, Ai, Option.bind_assoc, Option.bind_none, Option.bind_some]) (fun _ _ _ => by kernel_rfl)
theorem Adq : Bf Tryz.prog 183 sd_spec_ReadBatch :=
 Ar (pat := pa_spec_ReadBatch) [co_spec_ReadBatch_4] Vz T3 ⟨n7, trivial⟩ Tryz.func183 (de := fun x => N1 x.1) (fun x r h => (Adp x.1).trans h) fun _ => by kernel_rfl
def Lr (es : List ByteArray) : Option (Stt × Bool) := if es.length ≤ 1073741824 then some (Aza es) else none
def Anh : Sig := ⟨[.rd (.sl .str)], [none], [.own 167 Ak, .rd .bool], [some 1, none]⟩
noncomputable def sd_spec_l6Fold : SD := ⟨Anh, fun x => (Lr x.1).bind fun r => some ((r.1.1, r.2, ()), (()))⟩
noncomputable def ta_spec_l6Fold : Tb := tb [(80, sd_spec_Apply), (183, sd_spec_ReadBatch)]
def pa_spec_l6Fold : Nat → Pat × (Nat → Pat) := Fj [(4, ⟨[.sl 0 0 .str, .boxRow 2 0 167 Ak, .boxRow 4 0 167 Ak], [(0, .lf (.d (.sl .str))), (2, .lf (.ptr 0 0)), (4, .lf (.ptr 1 0)), (5, .lf (.d tI))], [.box 31 [.row 2], .box 31 [.row 3], .row 167 Ak, .row 167 Ak]⟩, [(2, ⟨[.boxRow 2 0 167 Ak, .boxRow 4 0 167 Ak], [(2, .lf (.ptr 0 0)), (4, .lf (.ptr 1 0))], [.box 31 [.row 2], .box 31 [.row 3], .row 167 Ak, .row 167 Ak]⟩), (1, ⟨[.boxRow 2 0 167 Ak], [(2, .lf (.ptr 0 0)), (3, .lf (.d .bool))], [.box 31 [.row 1], .row 167 Ak]⟩)])]
noncomputable def co_spec_l6Fold_4 : Code := (Ao (A4 Tryz.f107)).getD 0 .skip
def I5 (v0 : List ByteArray) (v5 : Int) (r2 : List Pr2) (r3 : List Pr2) : Nat := ((v0.length : Int) - v5).toNat + 1
noncomputable def I6 {R : Type}  (NX : ((List ByteArray) × (Int) × (List Pr2) × (List Pr2) × Unit) → Option R) (X2 : ((List Pr2) × (List Pr2) × Unit) → Option R) (X1 : ((Bool) × (List Pr2) × Unit) → Option R) (v0 : List ByteArray) (v5 : Int) (r2 : List Pr2) (r3 : List Pr2) : Option R :=
 bif decide (v5 < nI v0.length) then bif decide (0 ≤ v5) then bif decide (v5 < nI v0.length) then bif !(Dh (v0.getD v5.toNat (ByteArray.mk #[]))).2 then X1 (false, [], ()) else bif (Ic (r3, ()) (Dh (v0.getD v5.toNat (ByteArray.mk #[]))).1).2 != 0 then X1 (false, [], ()) else NX (v0, IntKind.i64.wrap (v5 + 1), r2, (Ic (r3, ()) (Dh (v0.getD v5.toNat (ByteArray.mk #[]))).1).1) else none else none else X2 (r2, r3, ())
noncomputable def Di : Nat → (List ByteArray) → (Int) → (List Pr2) → (List Pr2) →  Option (((List Pr2) × (List Pr2) × Unit) ⊕ ((Bool) × (List Pr2) × Unit))
 | 0, _, _, _, _ => none
 | m + 1, v0, v5, r2, r3 => I6  (fun d => Di m d.1 d.2.1 d.2.2.1 d.2.2.2.1) (fun d => some (.inl (d))) (fun d => some (.inr (d))) v0 v5 r2 r3
noncomputable def Sv (a0 : List ByteArray) : Option ((((List Pr2) × (Bool) × Unit) × (Unit))) :=
 ((fun d => Di (I5 d.1 d.2.1 d.2.2.1 d.2.2.2.1) d.1 d.2.1 d.2.2.1 d.2.2.2.1) (a0, 0, [], [], ())).bind fun val => Be (fun val => some ((val.2.1, true, ()), ())) (fun val => some ((val.2.1, val.1, ()), ())) val
theorem Ani (a0 : List ByteArray) r (h : Lr a0 = some r) : Sv a0 = some ((r.1.1, r.2, ()), (())) := by
 unfold Lr at h
 split at h
 rotate_left
 ·cases h
 rename_i hlen
 cases h
 unfold Sv Aza
 have hL := Afk (xs := a0) (g := fun m i r => Di m a0 i [] r) (ok := fun r => .inl ([], r, ())) (bad := .inr (false, [], ())) (fun m i r hi => by
   show Di (m + 1) a0 i [] r = _
   simp only [Di, I6]
   rw [Mg hi, Fh, wI (show i < 4611686018427387904 by omega), Int.toNat_natCast]
   simp only [cond_true, Dh, Ic, Az5]
   rfl) (fun m r => by
   show Di (m + 1) a0 (a0.length : Int) [] r = _
   simp only [Di, I6]
   rw [Hx]
   rfl) (I5 a0 0 [] []) 0 [] (by omega) (by simp [I5, nI])
 rw [List.drop_zero] at hL
 refine Nl hL ?_
 show Be _ _ (match O3 a0 Ys with | some st => _ | none => _) = _
 cases O3 a0 Ys <;> rfl
noncomputable def V0 {R : Type} (k : Kt R) := (Be (Hw (pa_spec_l6Fold 4) (.exit 0) 2 k) (Hw (pa_spec_l6Fold 4) .ret 1 k))
noncomputable def x5 {R : Type} : Lt R pa_spec_l6Fold := (D5 (pat := pa_spec_l6Fold) 4 (fun d k => (Di (I5 d.1 d.2.1 d.2.2.1 d.2.2.2.1) d.1 d.2.1 d.2.2.1 d.2.2.2.1).bind (V0 k)) Ff)
theorem a7 : Au Tryz.prog ta_spec_l6Fold := At ⟨Apa, Adq, trivial⟩
theorem Af9 {R : Type} : Aw Tryz.prog R 39 0 pa_spec_l6Fold x5 co_spec_l6Fold_4 :=
 B1 (cfg := ⟨ta_spec_l6Fold, 0, 39, pa_spec_l6Fold⟩) 4 [] (fun NX X d => I6  NX (fun e => X (.inl (e))) (fun e => X (.inr (e))) d.1 d.2.1 d.2.2.1 d.2.2.2.1) (fun m d => Di m d.1 d.2.1 d.2.2.1 d.2.2.2.1) (fun d => I5 d.1 d.2.1 d.2.2.1 d.2.2.2.1) V0 a7 trivial (fun f NX d => by unfold I6; simp only [Aj, Ap, Ai, Option.bind_assoc, Option.bind_none, Option.bind_some]) (fun _ _ _ => by kernel_rfl)
theorem Anj : Bf Tryz.prog 107 sd_spec_l6Fold :=
 Ar (pat := pa_spec_l6Fold) [co_spec_l6Fold_4] x5 a7 ⟨Af9, trivial⟩ Tryz.func107 (de := fun x => Sv x.1) (fun x r h => A3 (Ani x.1) h) fun _ => by kernel_rfl
def Sw (e : ByteArray) (life first w : Int) : Option (List ByteArray) := if e.size ≤ 1048576 then some (Al2 e life first w) else none
def J7 (v1 v2 v3 : Int) (v10 : List ByteArray) (v11 : Int) (r0 : List ByteArray) : Nat := (nI v10.length - v11).toNat + 1
def Avu : Sig := ⟨[.rd .str, .rd tI, .rd tI, .rd tI], [none, none, none, none], [.own 9 .str], [none]⟩
noncomputable def sd_spec_Cut : SD := ⟨Avu, fun x => (Sw x.1 x.2.1 x.2.2.1 x.2.2.2.1).bind fun r => some ((r, ()), (()))⟩
noncomputable def ta_spec_Cut : Tb := tb [(69, sd_spec_l1Width), (76, sd_spec_FormPage), (166, sd_spec_l3Parts)]
def pa_spec_Cut : Nat → Pat × (Nat → Pat) := Fj [(9, ⟨[.row 9 0 9 .str, .sl 10 0 .str], [(1, .lf (.d tI)), (2, .lf (.d tI)), (3, .lf (.d tI)), (9, .lf (.row 0)), (10, .lf (.d (.sl .str))), (11, .lf (.d tI))], [.row 9 .str]⟩, [(2, ⟨[.row 9 0 9 .str], [(9, .lf (.row 0))], [.row 9 .str]⟩)])]
noncomputable def co_spec_Cut_9 : Code := (Ao (A4 Tryz.f81)).getD 0 .skip
noncomputable def Ls {R : Type}  (NX : ((Int) × (Int) × (Int) × (List ByteArray) × (Int) × (List ByteArray) × Unit) → Option R) (X2 : ((List ByteArray) × Unit) → Option R) (v1 : Int) (v2 : Int) (v3 : Int) (v10 : List ByteArray) (v11 : Int) (r0 : List ByteArray) : Option R :=
 bif decide (v11 < nI v10.length) then bif v11 == IntKind.i64.wrap (nI v10.length - 1) then bif decide (0 ≤ v11) then bif decide (v11 < nI v10.length) then bif decide ((r0.length + [Cn (2, v1, IntKind.i64.wrap (v2 + v11), v10.getD v11.toNat (ByteArray.mk #[]), ()) v3].length) * 16 ≤ 140737488355328) then NX (v1, v2, v3, v10, IntKind.i64.wrap (v11 + 1), r0 ++ [Cn (2, v1, IntKind.i64.wrap (v2 + v11), v10.getD v11.toNat (ByteArray.mk #[]), ()) v3], ()) else none else none else none else bif decide (0 ≤ v11) then bif decide (v11 < nI v10.length) then bif decide ((r0.length + [Cn (1, v1, IntKind.i64.wrap (v2 + v11), v10.getD v11.toNat (ByteArray.mk #[]), ()) v3].length) * 16 ≤ 140737488355328) then NX (v1, v2, v3, v10, IntKind.i64.wrap (v11 + 1), r0 ++ [Cn (1, v1, IntKind.i64.wrap (v2 + v11), v10.getD v11.toNat (ByteArray.mk #[]), ()) v3], ()) else none else none else none else X2 (r0, ())
noncomputable def Ez : Nat → (Int) → (Int) → (Int) → (List ByteArray) → (Int) → (List ByteArray) →  Option ((List ByteArray) × Unit)
 | 0, _, _, _, _, _, _ => none
 | m + 1, v1, v2, v3, v10, v11, r0 => Ls  (fun d => Ez m d.1 d.2.1 d.2.2.1 d.2.2.2.1 d.2.2.2.2.1 d.2.2.2.2.2.1) (fun d => some (d)) v1 v2 v3 v10 v11 r0
noncomputable def a8 (a0 : ByteArray) (a1 : Int) (a2 : Int) (a3 : Int) : Option ((((List ByteArray) × Unit) × (Unit))) :=
 Option.bind (bif decide (a3 ≥ 1) then some ((decide (a3 ≤ 8), ()), ()) else some ((false, ()), ())) fun val => bif !val.1.1 then some (([], ()), ()) else bif decide (a1 < 1) then some (([], ()), ()) else bif decide (a1 > 60000) then some (([], ()), ()) else bif decide (a2 < 1) then some (([], ()), ()) else bif decide (a2 > 1000000000) then some (([], ()), ()) else ((Hd a0 a3).bind fun val => some ((val, ()), ())).bind fun val => bif decide (nI (List.length val.1.1) > IntKind.i64.wrap (IntKind.i64.wrap (1000000000 - a2) + 1)) then some (([], ()), ()) else ((fun d => Ez (J7 d.1 d.2.1 d.2.2.1 d.2.2.2.1 d.2.2.2.2.1 d.2.2.2.2.2.1) d.1 d.2.1 d.2.2.1 d.2.2.2.1 d.2.2.2.2.1 d.2.2.2.2.2.1) (a1, a2, a3, val.1.1, 0, [], ())).bind fun val => some (val, ())
theorem Avv (a0 : ByteArray) (a1 : Int) (a2 : Int) (a3 : Int) r (h : Sw a0 a1 a2 a3 = some r) : a8 a0 a1 a2 a3 = some ((r, ()), (())) := by
 unfold Sw at h
 split at h
 rotate_left
 ·cases h
 rename_i hc
 cases h
 unfold a8 Al2
 refine Xr (wid a3) ?_
 rw [Al6 a1]
 show (bif !Eo a3 1 8 then _ else (bif Eo a1 1 60000 then _ else _)) = _
 cases hw : Eo a3 1 8 with
 | false => rfl
 | true =>
  obtain ⟨k1, k2⟩ := G4 hw
  have hp := Aav (s := a0) hw
  have hP : Fg a0.size a3 = ((Cs a0 a3).length : Int) := by unfold Fg; rw [hw]; exact hp.symm
  have hlen : (Cs a0 a3).length ≤ a0.size + 1 := Zn _ _ _
  have h1 : 1 ≤ (Cs a0 a3).length := by
   have : (1 : Int) ≤ ((Cs a0 a3).length : Int) := by rw [hp]; split <;> omega
   omega
  have n1 : Hd a0 a3 = some (Cs a0 a3) := if_pos ⟨by omega, k1, k2⟩
  rw [hP]
  cases hl : Eo a1 1 60000 with
  | false => rfl
  | true =>
   by_cases q1 : a2 < 1
   ·rw [decide_eq_true q1, decide_eq_false (show ¬ 1 ≤ a2 by omega)]; rfl
   ·rw [decide_eq_false q1, decide_eq_true (show 1 ≤ a2 by omega)]
    by_cases q0 : a2 > 1000000000
    ·rw [decide_eq_true q0, decide_eq_false (show ¬ a2 ≤ 1000000000 - ((Cs a0 a3).length : Int) + 1 by omega)]; rfl
    ·rw [decide_eq_false q0]
     refine Xr (Xr n1 rfl) ?_
     show (bif decide (nI (Cs a0 a3).length > IntKind.i64.wrap (IntKind.i64.wrap (1000000000 - a2) + 1)) then _ else (Option.bind (Ez (J7 a1 a2 a3 (Cs a0 a3) 0 []) a1 a2 a3 (Cs a0 a3) 0 []) _)) = _
     rw [Ag (n := 1000000000 - a2) (by omega) (by omega), Ag (n := 1000000000 - a2 + 1) (by omega) (by omega)]
     simp only [nI]
     by_cases q2 : a2 > 1000000000 - ((Cs a0 a3).length : Int) + 1
     ·rw [decide_eq_true (show ((Cs a0 a3).length : Int) > 1000000000 - a2 + 1 by omega), decide_eq_false (show ¬ a2 ≤ 1000000000 - ((Cs a0 a3).length : Int) + 1 by omega)]; rfl
     ·rw [decide_eq_false (show ¬ ((Cs a0 a3).length : Int) > 1000000000 - a2 + 1 by omega), decide_eq_true (show a2 ≤ 1000000000 - ((Cs a0 a3).length : Int) + 1 by omega)]
      generalize Cs a0 a3 = P at *
      have hL := l7 P.length (fun i r => r.length = i) (fun i r => r ++ [D1 ((if i + 1 = P.length then 2 else 1), a1, a2 + (i : Int), P.getD i z0, ()) a3]) (g := fun m i r => Ez m a1 a2 a3 P i r) (ok := fun r => (r, ())) (fun m i r hi hr => by
       show Ez (m + 1) a1 a2 a3 P i r = _
       simp only [Ez, Ls]
       rw [Mg hi, Fh, wI (show i < 4611686018427387904 by omega), Int.toNat_natCast, Ag (n := a2 + (i : Int)) (by omega) (by omega), Ag (n := nI P.length - 1) (by simp only [nI]; omega) (by simp only [nI]; omega), List.length_singleton, List.length_singleton, decide_eq_true (show (r.length + 1) * 16 ≤ 140737488355328 by omega)]
       by_cases e : i + 1 = P.length
       ·rw [show ((i : Int) == nI P.length - 1) = true from beq_iff_eq.2 (by simp only [nI]; omega), if_pos e]; rfl
       ·rw [show ((i : Int) == nI P.length - 1) = false from beq_eq_false_iff_ne.2 (by simp only [nI]; omega), if_neg e]; rfl) (fun m r _ => by
       show Ez (m + 1) a1 a2 a3 P (P.length : Int) r = _
       simp only [Ez, Ls]
       rw [Hx]
       rfl) (fun i r hi hr => by rw [List.length_append, List.length_singleton, hr]) P.length (J7 a1 a2 a3 P 0 []) 0 [] (by omega) (by simp only [J7, nI]; omega) rfl
      rw [Aq4 (fun i => D1 ((if i + 1 = P.length then 2 else 1), a1, a2 + (i : Int), P.getD i z0, ()) a3), List.nil_append, ← Zm] at hL
      exact Xr hL rfl
noncomputable def x6 {R : Type} (k : Kt R) := (Hw (pa_spec_Cut 9) (.exit 0) 2 k)
noncomputable def Ank {R : Type} : Lt R pa_spec_Cut := (D5 (pat := pa_spec_Cut) 9 (fun d k => (Ez (J7 d.1 d.2.1 d.2.2.1 d.2.2.2.1 d.2.2.2.2.1 d.2.2.2.2.2.1) d.1 d.2.1 d.2.2.1 d.2.2.2.1 d.2.2.2.2.1 d.2.2.2.2.2.1).bind (x6 k)) Ff)
theorem Ahw : Au Tryz.prog ta_spec_Cut := At ⟨Db, I1, X3, trivial⟩
theorem Apb {R : Type} : Aw Tryz.prog R 71 0 pa_spec_Cut Ank co_spec_Cut_9 :=
 B1 (cfg := ⟨ta_spec_Cut, 0, 71, pa_spec_Cut⟩) 9 [] (fun NX X d => Ls  NX X d.1 d.2.1 d.2.2.1 d.2.2.2.1 d.2.2.2.2.1 d.2.2.2.2.2.1) (fun m d => Ez m d.1 d.2.1 d.2.2.1 d.2.2.2.1 d.2.2.2.2.1 d.2.2.2.2.2.1) (fun d => J7 d.1 d.2.1 d.2.2.1 d.2.2.2.1 d.2.2.2.2.1 d.2.2.2.2.2.1) x6 Ahw trivial (fun f NX d => by unfold Ls; simp only [Aj, Ap, Ai, Option.bind_assoc, Option.bind_none, Option.bind_some]) (fun _ _ _ => by kernel_rfl)
theorem Avw : Bf Tryz.prog 81 sd_spec_Cut :=
 Ar (pat := pa_spec_Cut) [co_spec_Cut_9] Ank Ahw ⟨Apb, trivial⟩ Tryz.func81 (de := fun x => a8 x.1 x.2.1 x.2.2.1 x.2.2.2.1) (fun x r h => A3 (Avv x.1 x.2.1 x.2.2.1 x.2.2.2.1) h) fun _ => by kernel_rfl
def Lu (s : Sto) : Option Don := if Ask s then some (Ahn s) else none
def Anl : Sig := ⟨[.rd Il], [some 10], [.rd tI, .rd tI, .rd tI, .rd tI, .rd tI, .rd tI, .rd tI, .rd tI, .rd tI, .rd tI, .own 167 Ak, .own 126 Mb], [some 12]⟩
noncomputable def sd_spec_l6Move : SD := ⟨Anl, fun x => (Lu x.1).bind fun r => some ((r.1, r.2.1.1, r.2.1.2.1, r.2.1.2.2.1, r.2.1.2.2.2.1.1, r.2.1.2.2.2.1.2.1, r.2.1.2.2.2.1.2.2.1, r.2.1.2.2.2.1.2.2.2.1, r.2.1.2.2.2.2.1, r.2.1.2.2.2.2.2.1, r.2.1.2.2.2.2.2.2.1.1, r.2.2.1, ()), (()))⟩
noncomputable def ta_spec_l6Move : Tb := tb [(55, sd_spec_Halves), (76, sd_spec_FormPage), (81, sd_spec_Cut), (82, sd_spec_FormBatch), (83, sd_spec_l6Put), (84, sd_spec_l6Base), (127, sd_spec_l4Copy), (140, sd_spec_Snapshot), (184, sd_spec_RootPage)]
def pa_spec_l6Move : Nat → Pat × (Nat → Pat) := Fj [(11, ⟨[.row 6 0 126 Mb, .sl 7 0 (.sl D8), .boxSl 1 9 Ak, .boxRow 2 10 167 Ak, .boxRow 2 11 126 Mb], [(1, .lf (.ptr 0 0)), (2, .lf (.ptr 1 0)), (4, .lf (.ptr 2 0)), (5, .lf (.d tI)), (6, .lf (.row 3)), (7, .lf (.d (.sl (.sl D8)))), (8, .lf (.d tI)), (9, .lf (.d tI))], [.box 33 [.d tI, .d tI, .d tI, .d tI, .d tI, .d tI, .d tI, .d tI, .d tI, .d (.sl Ak)], .box 56 [.d tI, .d tI, .d tI, .d tI, .d tI, .d tI, .d tI, .d tI, .d tI, .d tI, .row 4, .row 5], .box 28 [.d tI, .d tI, .d tI, .d tI], .row 126 Mb, .row 167 Ak, .row 126 Mb]⟩, [(2, ⟨[.row 6 0 126 Mb, .boxSl 1 9 Ak, .boxRow 2 10 167 Ak, .boxRow 2 11 126 Mb], [(1, .lf (.ptr 0 0)), (2, .lf (.ptr 1 0)), (4, .lf (.ptr 2 0)), (6, .lf (.row 3)), (8, .lf (.d tI))], [.box 33 [.d tI, .d tI, .d tI, .d tI, .d tI, .d tI, .d tI, .d tI, .d tI, .d (.sl Ak)], .box 56 [.d tI, .d tI, .d tI, .d tI, .d tI, .d tI, .d tI, .d tI, .d tI, .d tI, .row 4, .row 5], .box 28 [.d tI, .d tI, .d tI, .d tI], .row 126 Mb, .row 167 Ak, .row 126 Mb]⟩)]), (15, ⟨[.row 6 0 126 Mb, .sl 7 0 (.sl D8), .sl 10 0 .str, .boxSl 1 9 Ak, .boxRow 2 10 167 Ak, .boxRow 2 11 126 Mb], [(1, .lf (.ptr 0 0)), (2, .lf (.ptr 1 0)), (4, .lf (.ptr 2 0)), (5, .lf (.d tI)), (6, .lf (.row 3)), (7, .lf (.d (.sl (.sl D8)))), (8, .lf (.d tI)), (9, .lf (.d tI)), (10, .lf (.d (.sl .str))), (11, .lf (.d tI))], [.box 33 [.d tI, .d tI, .d tI, .d tI, .d tI, .d tI, .d tI, .d tI, .d tI, .d (.sl Ak)], .box 56 [.d tI, .d tI, .d tI, .d tI, .d tI, .d tI, .d tI, .d tI, .d tI, .d tI, .row 4, .row 5], .box 28 [.d tI, .d tI, .d tI, .d tI], .row 126 Mb, .row 167 Ak, .row 126 Mb]⟩, [(4, ⟨[.row 6 0 126 Mb, .sl 7 0 (.sl D8), .boxSl 1 9 Ak, .boxRow 2 10 167 Ak, .boxRow 2 11 126 Mb], [(1, .lf (.ptr 0 0)), (2, .lf (.ptr 1 0)), (4, .lf (.ptr 2 0)), (5, .lf (.d tI)), (6, .lf (.row 3)), (7, .lf (.d (.sl (.sl D8)))), (8, .lf (.d tI)), (9, .lf (.d tI))], [.box 33 [.d tI, .d tI, .d tI, .d tI, .d tI, .d tI, .d tI, .d tI, .d tI, .d (.sl Ak)], .box 56 [.d tI, .d tI, .d tI, .d tI, .d tI, .d tI, .d tI, .d tI, .d tI, .d tI, .row 4, .row 5], .box 28 [.d tI, .d tI, .d tI, .d tI], .row 126 Mb, .row 167 Ak, .row 126 Mb]⟩)])]
noncomputable def co_spec_l6Move_11 : Code := (Ao (A4 Tryz.f108)).getD 0 .skip
noncomputable def co_spec_l6Move_15 : Code := (Ao co_spec_l6Move_11).getD 0 .skip
def Id (v5 : Int) (v7 : List (List Chg)) (v8 : Int) (v9 : Int) (v10 : List ByteArray) (v11 : Int) (b0_0 : Int) (b0_1 : Int) (b0_2 : Int) (b0_3 : Int) (b0_4 : Int) (b0_5 : Int) (b0_6 : Int) (b0_7 : Int) (b0_8 : Int) (b0_9 : List Pr2) (b1_0 : Int) (b1_1 : Int) (b1_2 : Int) (b1_3 : Int) (b1_4 : Int) (b1_5 : Int) (b1_6 : Int) (b1_7 : Int) (b1_8 : Int) (b1_9 : Int) (b2_0 : Int) (b2_1 : Int) (b2_2 : Int) (b2_3 : Int) (r3 : List Opn) (r4 : List Pr2) (r5 : List Opn) : Nat := ((v10.length : Int) - v11).toNat + 1
noncomputable def Ie {R : Type}  (NX : ((Int) × (List (List Chg)) × (Int) × (Int) × (List ByteArray) × (Int) × (Int) × (Int) × (Int) × (Int) × (Int) × (Int) × (Int) × (Int) × (Int) × (List Pr2) × (Int) × (Int) × (Int) × (Int) × (Int) × (Int) × (Int) × (Int) × (Int) × (Int) × (Int) × (Int) × (Int) × (Int) × (List Opn) × (List Pr2) × (List Opn) × Unit) → Option R) (X4 : ((Int) × (List (List Chg)) × (Int) × (Int) × (Int) × (Int) × (Int) × (Int) × (Int) × (Int) × (Int) × (Int) × (Int) × (List Pr2) × (Int) × (Int) × (Int) × (Int) × (Int) × (Int) × (Int) × (Int) × (Int) × (Int) × (Int) × (Int) × (Int) × (Int) × (List Opn) × (List Pr2) × (List Opn) × Unit) → Option R) (v5 : Int) (v7 : List (List Chg)) (v8 : Int) (v9 : Int) (v10 : List ByteArray) (v11 : Int) (b0_0 : Int) (b0_1 : Int) (b0_2 : Int) (b0_3 : Int) (b0_4 : Int) (b0_5 : Int) (b0_6 : Int) (b0_7 : Int) (b0_8 : Int) (b0_9 : List Pr2) (b1_0 : Int) (b1_1 : Int) (b1_2 : Int) (b1_3 : Int) (b1_4 : Int) (b1_5 : Int) (b1_6 : Int) (b1_7 : Int) (b1_8 : Int) (b1_9 : Int) (b2_0 : Int) (b2_1 : Int) (b2_2 : Int) (b2_3 : Int) (r3 : List Opn) (r4 : List Pr2) (r5 : List Opn) : Option R :=
 bif decide (v11 < nI v10.length) then bif decide (0 ≤ v11) then bif decide (v11 < nI v10.length) then bif decide ((r3.length + [(false, IntKind.i64.wrap (v5 + v8), v10.getD v11.toNat (ByteArray.mk #[]), ())].length) * 32 ≤ 140737488355328) then NX (v5, v7, IntKind.i64.wrap (v8 + 1), v9, v10, IntKind.i64.wrap (v11 + 1), b0_0, b0_1, b0_2, b0_3, b0_4, b0_5, b0_6, b0_7, b0_8, b0_9, b1_0, b1_1, b1_2, b1_3, b1_4, b1_5, b1_6, b1_7, b1_8, b1_9, b2_0, b2_1, b2_2, b2_3, r3 ++ [(false, IntKind.i64.wrap (v5 + v8), v10.getD v11.toNat (ByteArray.mk #[]), ())], r4, r5, ()) else none else none else none else X4 (v5, v7, v8, v9, b0_0, b0_1, b0_2, b0_3, b0_4, b0_5, b0_6, b0_7, b0_8, b0_9, b1_0, b1_1, b1_2, b1_3, b1_4, b1_5, b1_6, b1_7, b1_8, b1_9, b2_0, b2_1, b2_2, b2_3, r3, r4, r5, ())
noncomputable def C2 : Nat → (Int) → (List (List Chg)) → (Int) → (Int) → (List ByteArray) → (Int) → (Int) → (Int) → (Int) → (Int) → (Int) → (Int) → (Int) → (Int) → (Int) → (List Pr2) → (Int) → (Int) → (Int) → (Int) → (Int) → (Int) → (Int) → (Int) → (Int) → (Int) → (Int) → (Int) → (Int) → (Int) → (List Opn) → (List Pr2) → (List Opn) →  Option ((Int) × (List (List Chg)) × (Int) × (Int) × (Int) × (Int) × (Int) × (Int) × (Int) × (Int) × (Int) × (Int) × (Int) × (List Pr2) × (Int) × (Int) × (Int) × (Int) × (Int) × (Int) × (Int) × (Int) × (Int) × (Int) × (Int) × (Int) × (Int) × (Int) × (List Opn) × (List Pr2) × (List Opn) × Unit)
 | 0, _, _, _, _, _, _, _, _, _, _, _, _, _, _, _, _, _, _, _, _, _, _, _, _, _, _, _, _, _, _, _, _, _ => none
 | m + 1, v5, v7, v8, v9, v10, v11, b0_0, b0_1, b0_2, b0_3, b0_4, b0_5, b0_6, b0_7, b0_8, b0_9, b1_0, b1_1, b1_2, b1_3, b1_4, b1_5, b1_6, b1_7, b1_8, b1_9, b2_0, b2_1, b2_2, b2_3, r3, r4, r5 => Ie  (fun d => C2 m d.1 d.2.1 d.2.2.1 d.2.2.2.1 d.2.2.2.2.1 d.2.2.2.2.2.1 d.2.2.2.2.2.2.1 d.2.2.2.2.2.2.2.1 d.2.2.2.2.2.2.2.2.1 d.2.2.2.2.2.2.2.2.2.1 d.2.2.2.2.2.2.2.2.2.2.1 d.2.2.2.2.2.2.2.2.2.2.2.1 d.2.2.2.2.2.2.2.2.2.2.2.2.1 d.2.2.2.2.2.2.2.2.2.2.2.2.2.1 d.2.2.2.2.2.2.2.2.2.2.2.2.2.2.1 d.2.2.2.2.2.2.2.2.2.2.2.2.2.2.2.1 d.2.2.2.2.2.2.2.2.2.2.2.2.2.2.2.2.1 d.2.2.2.2.2.2.2.2.2.2.2.2.2.2.2.2.2.1 d.2.2.2.2.2.2.2.2.2.2.2.2.2.2.2.2.2.2.1 d.2.2.2.2.2.2.2.2.2.2.2.2.2.2.2.2.2.2.2.1 d.2.2.2.2.2.2.2.2.2.2.2.2.2.2.2.2.2.2.2.2.1 d.2.2.2.2.2.2.2.2.2.2.2.2.2.2.2.2.2.2.2.2.2.1 d.2.2.2.2.2.2.2.2.2.2.2.2.2.2.2.2.2.2.2.2.2.2.1 d.2.2.2.2.2.2.2.2.2.2.2.2.2.2.2.2.2.2.2.2.2.2.2.1 d.2.2.2.2.2.2.2.2.2.2.2.2.2.2.2.2.2.2.2.2.2.2.2.2.1 d.2.2.2.2.2.2.2.2.2.2.2.2.2.2.2.2.2.2.2.2.2.2.2.2.2.1 d.2.2.2.2.2.2.2.2.2.2.2.2.2.2.2.2.2.2.2.2.2.2.2.2.2.2.1 d.2.2.2.2.2.2.2.2.2.2.2.2.2.2.2.2.2.2.2.2.2.2.2.2.2.2.2.1 d.2.2.2.2.2.2.2.2.2.2.2.2.2.2.2.2.2.2.2.2.2.2.2.2.2.2.2.2.1 d.2.2.2.2.2.2.2.2.2.2.2.2.2.2.2.2.2.2.2.2.2.2.2.2.2.2.2.2.2.1 d.2.2.2.2.2.2.2.2.2.2.2.2.2.2.2.2.2.2.2.2.2.2.2.2.2.2.2.2.2.2.1 d.2.2.2.2.2.2.2.2.2.2.2.2.2.2.2.2.2.2.2.2.2.2.2.2.2.2.2.2.2.2.2.1 d.2.2.2.2.2.2.2.2.2.2.2.2.2.2.2.2.2.2.2.2.2.2.2.2.2.2.2.2.2.2.2.2.1) (fun d => some (d)) v5 v7 v8 v9 v10 v11 b0_0 b0_1 b0_2 b0_3 b0_4 b0_5 b0_6 b0_7 b0_8 b0_9 b1_0 b1_1 b1_2 b1_3 b1_4 b1_5 b1_6 b1_7 b1_8 b1_9 b2_0 b2_1 b2_2 b2_3 r3 r4 r5
noncomputable def If (d : (Int) × (List (List Chg)) × (Int) × (Int) × (List ByteArray) × (Int) × (Int) × (Int) × (Int) × (Int) × (Int) × (Int) × (Int) × (Int) × (Int) × (List Pr2) × (Int) × (Int) × (Int) × (Int) × (Int) × (Int) × (Int) × (Int) × (Int) × (Int) × (Int) × (Int) × (Int) × (Int) × (List Opn) × (List Pr2) × (List Opn) × Unit) : Option ((Int) × (List (List Chg)) × (Int) × (Int) × (Int) × (Int) × (Int) × (Int) × (Int) × (Int) × (Int) × (Int) × (Int) × (List Pr2) × (Int) × (Int) × (Int) × (Int) × (Int) × (Int) × (Int) × (Int) × (Int) × (Int) × (Int) × (Int) × (Int) × (Int) × (List Opn) × (List Pr2) × (List Opn) × Unit) := C2 (Id d.1 d.2.1 d.2.2.1 d.2.2.2.1 d.2.2.2.2.1 d.2.2.2.2.2.1 d.2.2.2.2.2.2.1 d.2.2.2.2.2.2.2.1 d.2.2.2.2.2.2.2.2.1 d.2.2.2.2.2.2.2.2.2.1 d.2.2.2.2.2.2.2.2.2.2.1 d.2.2.2.2.2.2.2.2.2.2.2.1 d.2.2.2.2.2.2.2.2.2.2.2.2.1 d.2.2.2.2.2.2.2.2.2.2.2.2.2.1 d.2.2.2.2.2.2.2.2.2.2.2.2.2.2.1 d.2.2.2.2.2.2.2.2.2.2.2.2.2.2.2.1 d.2.2.2.2.2.2.2.2.2.2.2.2.2.2.2.2.1 d.2.2.2.2.2.2.2.2.2.2.2.2.2.2.2.2.2.1 d.2.2.2.2.2.2.2.2.2.2.2.2.2.2.2.2.2.2.1 d.2.2.2.2.2.2.2.2.2.2.2.2.2.2.2.2.2.2.2.1 d.2.2.2.2.2.2.2.2.2.2.2.2.2.2.2.2.2.2.2.2.1 d.2.2.2.2.2.2.2.2.2.2.2.2.2.2.2.2.2.2.2.2.2.1 d.2.2.2.2.2.2.2.2.2.2.2.2.2.2.2.2.2.2.2.2.2.2.1 d.2.2.2.2.2.2.2.2.2.2.2.2.2.2.2.2.2.2.2.2.2.2.2.1 d.2.2.2.2.2.2.2.2.2.2.2.2.2.2.2.2.2.2.2.2.2.2.2.2.1 d.2.2.2.2.2.2.2.2.2.2.2.2.2.2.2.2.2.2.2.2.2.2.2.2.2.1 d.2.2.2.2.2.2.2.2.2.2.2.2.2.2.2.2.2.2.2.2.2.2.2.2.2.2.1 d.2.2.2.2.2.2.2.2.2.2.2.2.2.2.2.2.2.2.2.2.2.2.2.2.2.2.2.1 d.2.2.2.2.2.2.2.2.2.2.2.2.2.2.2.2.2.2.2.2.2.2.2.2.2.2.2.2.1 d.2.2.2.2.2.2.2.2.2.2.2.2.2.2.2.2.2.2.2.2.2.2.2.2.2.2.2.2.2.1 d.2.2.2.2.2.2.2.2.2.2.2.2.2.2.2.2.2.2.2.2.2.2.2.2.2.2.2.2.2.2.1 d.2.2.2.2.2.2.2.2.2.2.2.2.2.2.2.2.2.2.2.2.2.2.2.2.2.2.2.2.2.2.2.1 d.2.2.2.2.2.2.2.2.2.2.2.2.2.2.2.2.2.2.2.2.2.2.2.2.2.2.2.2.2.2.2.2.1) d.1 d.2.1 d.2.2.1 d.2.2.2.1 d.2.2.2.2.1 d.2.2.2.2.2.1 d.2.2.2.2.2.2.1 d.2.2.2.2.2.2.2.1 d.2.2.2.2.2.2.2.2.1 d.2.2.2.2.2.2.2.2.2.1 d.2.2.2.2.2.2.2.2.2.2.1 d.2.2.2.2.2.2.2.2.2.2.2.1 d.2.2.2.2.2.2.2.2.2.2.2.2.1 d.2.2.2.2.2.2.2.2.2.2.2.2.2.1 d.2.2.2.2.2.2.2.2.2.2.2.2.2.2.1 d.2.2.2.2.2.2.2.2.2.2.2.2.2.2.2.1 d.2.2.2.2.2.2.2.2.2.2.2.2.2.2.2.2.1 d.2.2.2.2.2.2.2.2.2.2.2.2.2.2.2.2.2.1 d.2.2.2.2.2.2.2.2.2.2.2.2.2.2.2.2.2.2.1 d.2.2.2.2.2.2.2.2.2.2.2.2.2.2.2.2.2.2.2.1 d.2.2.2.2.2.2.2.2.2.2.2.2.2.2.2.2.2.2.2.2.1 d.2.2.2.2.2.2.2.2.2.2.2.2.2.2.2.2.2.2.2.2.2.1 d.2.2.2.2.2.2.2.2.2.2.2.2.2.2.2.2.2.2.2.2.2.2.1 d.2.2.2.2.2.2.2.2.2.2.2.2.2.2.2.2.2.2.2.2.2.2.2.1 d.2.2.2.2.2.2.2.2.2.2.2.2.2.2.2.2.2.2.2.2.2.2.2.2.1 d.2.2.2.2.2.2.2.2.2.2.2.2.2.2.2.2.2.2.2.2.2.2.2.2.2.1 d.2.2.2.2.2.2.2.2.2.2.2.2.2.2.2.2.2.2.2.2.2.2.2.2.2.2.1 d.2.2.2.2.2.2.2.2.2.2.2.2.2.2.2.2.2.2.2.2.2.2.2.2.2.2.2.1 d.2.2.2.2.2.2.2.2.2.2.2.2.2.2.2.2.2.2.2.2.2.2.2.2.2.2.2.2.1 d.2.2.2.2.2.2.2.2.2.2.2.2.2.2.2.2.2.2.2.2.2.2.2.2.2.2.2.2.2.1 d.2.2.2.2.2.2.2.2.2.2.2.2.2.2.2.2.2.2.2.2.2.2.2.2.2.2.2.2.2.2.1 d.2.2.2.2.2.2.2.2.2.2.2.2.2.2.2.2.2.2.2.2.2.2.2.2.2.2.2.2.2.2.2.1 d.2.2.2.2.2.2.2.2.2.2.2.2.2.2.2.2.2.2.2.2.2.2.2.2.2.2.2.2.2.2.2.2.1
def Gm (v5 : Int) (v7 : List (List Chg)) (v8 : Int) (v9 : Int) (b0_0 : Int) (b0_1 : Int) (b0_2 : Int) (b0_3 : Int) (b0_4 : Int) (b0_5 : Int) (b0_6 : Int) (b0_7 : Int) (b0_8 : Int) (b0_9 : List Pr2) (b1_0 : Int) (b1_1 : Int) (b1_2 : Int) (b1_3 : Int) (b1_4 : Int) (b1_5 : Int) (b1_6 : Int) (b1_7 : Int) (b1_8 : Int) (b1_9 : Int) (b2_0 : Int) (b2_1 : Int) (b2_2 : Int) (b2_3 : Int) (r3 : List Opn) (r4 : List Pr2) (r5 : List Opn) : Nat := ((v7.length : Int) - v9).toNat + 1
noncomputable def Ig {R : Type} (LO15 : ((Int) × (List (List Chg)) × (Int) × (Int) × (List ByteArray) × (Int) × (Int) × (Int) × (Int) × (Int) × (Int) × (Int) × (Int) × (Int) × (Int) × (List Pr2) × (Int) × (Int) × (Int) × (Int) × (Int) × (Int) × (Int) × (Int) × (Int) × (Int) × (Int) × (Int) × (Int) × (Int) × (List Opn) × (List Pr2) × (List Opn) × Unit) → Option ((Int) × (List (List Chg)) × (Int) × (Int) × (Int) × (Int) × (Int) × (Int) × (Int) × (Int) × (Int) × (Int) × (Int) × (List Pr2) × (Int) × (Int) × (Int) × (Int) × (Int) × (Int) × (Int) × (Int) × (Int) × (Int) × (Int) × (Int) × (Int) × (Int) × (List Opn) × (List Pr2) × (List Opn) × Unit)) (NX : ((Int) × (List (List Chg)) × (Int) × (Int) × (Int) × (Int) × (Int) × (Int) × (Int) × (Int) × (Int) × (Int) × (Int) × (List Pr2) × (Int) × (Int) × (Int) × (Int) × (Int) × (Int) × (Int) × (Int) × (Int) × (Int) × (Int) × (Int) × (Int) × (Int) × (List Opn) × (List Pr2) × (List Opn) × Unit) → Option R) (X2 : ((Int) × (Int) × (Int) × (Int) × (Int) × (Int) × (Int) × (Int) × (Int) × (Int) × (List Pr2) × (Int) × (Int) × (Int) × (Int) × (Int) × (Int) × (Int) × (Int) × (Int) × (Int) × (Int) × (Int) × (Int) × (Int) × (List Opn) × (List Pr2) × (List Opn) × Unit) → Option R) (v5 : Int) (v7 : List (List Chg)) (v8 : Int) (v9 : Int) (b0_0 : Int) (b0_1 : Int) (b0_2 : Int) (b0_3 : Int) (b0_4 : Int) (b0_5 : Int) (b0_6 : Int) (b0_7 : Int) (b0_8 : Int) (b0_9 : List Pr2) (b1_0 : Int) (b1_1 : Int) (b1_2 : Int) (b1_3 : Int) (b1_4 : Int) (b1_5 : Int) (b1_6 : Int) (b1_7 : Int) (b1_8 : Int) (b1_9 : Int) (b2_0 : Int) (b2_1 : Int) (b2_2 : Int) (b2_3 : Int) (r3 : List Opn) (r4 : List Pr2) (r5 : List Opn) : Option R :=
 bif decide (v9 < nI v7.length) then bif decide (0 ≤ v9) then bif decide (v9 < nI v7.length) then ((Sw (Et (v7.getD v9.toNat [])) b0_2 (IntKind.i64.wrap (b2_2 + v8)) b0_0).bind fun val => some ((val, ()), ())).bind fun val => (LO15 (v5, v7, v8, v9, val.1.1, 0, b0_0, b0_1, b0_2, b0_3, b0_4, b0_5, b0_6, b0_7, b0_8, b0_9, b1_0, b1_1, b1_2, b1_3, b1_4, b1_5, b1_6, b1_7, b1_8, b1_9, b2_0, b2_1, b2_2, b2_3, r3, r4, r5, ())).bind fun val => NX (val.1, val.2.1, val.2.2.1, IntKind.i64.wrap (val.2.2.2.1 + 1), val.2.2.2.2.1, val.2.2.2.2.2.1, val.2.2.2.2.2.2.1, val.2.2.2.2.2.2.2.1, val.2.2.2.2.2.2.2.2.1, val.2.2.2.2.2.2.2.2.2.1, val.2.2.2.2.2.2.2.2.2.2.1, val.2.2.2.2.2.2.2.2.2.2.2.1, val.2.2.2.2.2.2.2.2.2.2.2.2.1, val.2.2.2.2.2.2.2.2.2.2.2.2.2.1, val.2.2.2.2.2.2.2.2.2.2.2.2.2.2.1, val.2.2.2.2.2.2.2.2.2.2.2.2.2.2.2.1, val.2.2.2.2.2.2.2.2.2.2.2.2.2.2.2.2.1, val.2.2.2.2.2.2.2.2.2.2.2.2.2.2.2.2.2.1, val.2.2.2.2.2.2.2.2.2.2.2.2.2.2.2.2.2.2.1, val.2.2.2.2.2.2.2.2.2.2.2.2.2.2.2.2.2.2.2.1, val.2.2.2.2.2.2.2.2.2.2.2.2.2.2.2.2.2.2.2.2.1, val.2.2.2.2.2.2.2.2.2.2.2.2.2.2.2.2.2.2.2.2.2.1, val.2.2.2.2.2.2.2.2.2.2.2.2.2.2.2.2.2.2.2.2.2.2.1, val.2.2.2.2.2.2.2.2.2.2.2.2.2.2.2.2.2.2.2.2.2.2.2.1, val.2.2.2.2.2.2.2.2.2.2.2.2.2.2.2.2.2.2.2.2.2.2.2.2.1, val.2.2.2.2.2.2.2.2.2.2.2.2.2.2.2.2.2.2.2.2.2.2.2.2.2.1, val.2.2.2.2.2.2.2.2.2.2.2.2.2.2.2.2.2.2.2.2.2.2.2.2.2.2.1, (Kk (4, Pv.lf (Pe.ptr 2 0)).2 (Kk (2, Pv.lf (Pe.ptr 1 0)).2 (Kk (1, Pv.lf (Pe.ptr 0 0)).2 val).2).2).2.2.2.2.2.2.2.2.2.2.2.2.2.2.2.2.2.2.2.2.2.2.2.2.2.2.2.2.1, (Kk (7, Pv.lf (Pe.d (Ty.str.pair (Ty.str.pair (Ty.bool.pair Ty.unit))).sl.sl)).2 (Kk (6, Pv.lf (Pe.row 3)).2 (Kk (5, Pv.lf (Pe.d (Ty.int IntKind.i64))).2 (Kk (4, Pv.lf (Pe.ptr 2 0)).2 (Kk (2, Pv.lf (Pe.ptr 1 0)).2 (Kk (1, Pv.lf (Pe.ptr 0 0)).2 val).2).2).2).2).2).2.2.2.2.2.2.2.2.2.2.2.2.2.2.2.2.2.2.2.2.2.2.2.2.2.2.2.1, (Rz ((pa_spec_l6Move 15).2 4).cs val).2.2.2.2.2.2.2.2.2.2.2.2.2.2.2.2.2.2.2.2.2.2.2.2.2.2) else none else none else X2 (v8, b0_0, b0_1, b0_2, b0_3, b0_4, b0_5, b0_6, b0_7, b0_8, b0_9, b1_0, b1_1, b1_2, b1_3, b1_4, b1_5, b1_6, b1_7, b1_8, b1_9, b2_0, b2_1, b2_2, b2_3, r3, r4, r5, ())
noncomputable def Cr : Nat → (Int) → (List (List Chg)) → (Int) → (Int) → (Int) → (Int) → (Int) → (Int) → (Int) → (Int) → (Int) → (Int) → (Int) → (List Pr2) → (Int) → (Int) → (Int) → (Int) → (Int) → (Int) → (Int) → (Int) → (Int) → (Int) → (Int) → (Int) → (Int) → (Int) → (List Opn) → (List Pr2) → (List Opn) →  Option ((Int) × (Int) × (Int) × (Int) × (Int) × (Int) × (Int) × (Int) × (Int) × (Int) × (List Pr2) × (Int) × (Int) × (Int) × (Int) × (Int) × (Int) × (Int) × (Int) × (Int) × (Int) × (Int) × (Int) × (Int) × (Int) × (List Opn) × (List Pr2) × (List Opn) × Unit)
 | 0, _, _, _, _, _, _, _, _, _, _, _, _, _, _, _, _, _, _, _, _, _, _, _, _, _, _, _, _, _, _, _ => none
 | m + 1, v5, v7, v8, v9, b0_0, b0_1, b0_2, b0_3, b0_4, b0_5, b0_6, b0_7, b0_8, b0_9, b1_0, b1_1, b1_2, b1_3, b1_4, b1_5, b1_6, b1_7, b1_8, b1_9, b2_0, b2_1, b2_2, b2_3, r3, r4, r5 => Ig If (fun d => Cr m d.1 d.2.1 d.2.2.1 d.2.2.2.1 d.2.2.2.2.1 d.2.2.2.2.2.1 d.2.2.2.2.2.2.1 d.2.2.2.2.2.2.2.1 d.2.2.2.2.2.2.2.2.1 d.2.2.2.2.2.2.2.2.2.1 d.2.2.2.2.2.2.2.2.2.2.1 d.2.2.2.2.2.2.2.2.2.2.2.1 d.2.2.2.2.2.2.2.2.2.2.2.2.1 d.2.2.2.2.2.2.2.2.2.2.2.2.2.1 d.2.2.2.2.2.2.2.2.2.2.2.2.2.2.1 d.2.2.2.2.2.2.2.2.2.2.2.2.2.2.2.1 d.2.2.2.2.2.2.2.2.2.2.2.2.2.2.2.2.1 d.2.2.2.2.2.2.2.2.2.2.2.2.2.2.2.2.2.1 d.2.2.2.2.2.2.2.2.2.2.2.2.2.2.2.2.2.2.1 d.2.2.2.2.2.2.2.2.2.2.2.2.2.2.2.2.2.2.2.1 d.2.2.2.2.2.2.2.2.2.2.2.2.2.2.2.2.2.2.2.2.1 d.2.2.2.2.2.2.2.2.2.2.2.2.2.2.2.2.2.2.2.2.2.1 d.2.2.2.2.2.2.2.2.2.2.2.2.2.2.2.2.2.2.2.2.2.2.1 d.2.2.2.2.2.2.2.2.2.2.2.2.2.2.2.2.2.2.2.2.2.2.2.1 d.2.2.2.2.2.2.2.2.2.2.2.2.2.2.2.2.2.2.2.2.2.2.2.2.1 d.2.2.2.2.2.2.2.2.2.2.2.2.2.2.2.2.2.2.2.2.2.2.2.2.2.1 d.2.2.2.2.2.2.2.2.2.2.2.2.2.2.2.2.2.2.2.2.2.2.2.2.2.2.1 d.2.2.2.2.2.2.2.2.2.2.2.2.2.2.2.2.2.2.2.2.2.2.2.2.2.2.2.1 d.2.2.2.2.2.2.2.2.2.2.2.2.2.2.2.2.2.2.2.2.2.2.2.2.2.2.2.2.1 d.2.2.2.2.2.2.2.2.2.2.2.2.2.2.2.2.2.2.2.2.2.2.2.2.2.2.2.2.2.1 d.2.2.2.2.2.2.2.2.2.2.2.2.2.2.2.2.2.2.2.2.2.2.2.2.2.2.2.2.2.2.1) (fun d => some (d)) v5 v7 v8 v9 b0_0 b0_1 b0_2 b0_3 b0_4 b0_5 b0_6 b0_7 b0_8 b0_9 b1_0 b1_1 b1_2 b1_3 b1_4 b1_5 b1_6 b1_7 b1_8 b1_9 b2_0 b2_1 b2_2 b2_3 r3 r4 r5
noncomputable def Sx (a0 : Sto) : Option ((((Int) × (Int) × (Int) × (Int) × (Int) × (Int) × (Int) × (Int) × (Int) × (Int) × (List Pr2) × (List Opn) × Unit) × (Unit))) :=
 bif decide (IntKind.i64.wrap (a0.2.2.2.1.1 + 1) > 1000000000) then some ((4, 0, 0, 0, 0, 0, 0, 0, 0, 0, [], [], ()), ()) else bif decide (IntKind.i64.wrap (a0.2.2.2.1.2.2.1 + Av a0.2.1) > 999999000) then some ((4, 0, 0, 0, 0, 0, 0, 0, 0, 0, [], [], ()), ()) else ((fun d => Cr (Gm d.1 d.2.1 d.2.2.1 d.2.2.2.1 d.2.2.2.2.1 d.2.2.2.2.2.1 d.2.2.2.2.2.2.1 d.2.2.2.2.2.2.2.1 d.2.2.2.2.2.2.2.2.1 d.2.2.2.2.2.2.2.2.2.1 d.2.2.2.2.2.2.2.2.2.2.1 d.2.2.2.2.2.2.2.2.2.2.2.1 d.2.2.2.2.2.2.2.2.2.2.2.2.1 d.2.2.2.2.2.2.2.2.2.2.2.2.2.1 d.2.2.2.2.2.2.2.2.2.2.2.2.2.2.1 d.2.2.2.2.2.2.2.2.2.2.2.2.2.2.2.1 d.2.2.2.2.2.2.2.2.2.2.2.2.2.2.2.2.1 d.2.2.2.2.2.2.2.2.2.2.2.2.2.2.2.2.2.1 d.2.2.2.2.2.2.2.2.2.2.2.2.2.2.2.2.2.2.1 d.2.2.2.2.2.2.2.2.2.2.2.2.2.2.2.2.2.2.2.1 d.2.2.2.2.2.2.2.2.2.2.2.2.2.2.2.2.2.2.2.2.1 d.2.2.2.2.2.2.2.2.2.2.2.2.2.2.2.2.2.2.2.2.2.1 d.2.2.2.2.2.2.2.2.2.2.2.2.2.2.2.2.2.2.2.2.2.2.1 d.2.2.2.2.2.2.2.2.2.2.2.2.2.2.2.2.2.2.2.2.2.2.2.1 d.2.2.2.2.2.2.2.2.2.2.2.2.2.2.2.2.2.2.2.2.2.2.2.2.1 d.2.2.2.2.2.2.2.2.2.2.2.2.2.2.2.2.2.2.2.2.2.2.2.2.2.1 d.2.2.2.2.2.2.2.2.2.2.2.2.2.2.2.2.2.2.2.2.2.2.2.2.2.2.1 d.2.2.2.2.2.2.2.2.2.2.2.2.2.2.2.2.2.2.2.2.2.2.2.2.2.2.2.1 d.2.2.2.2.2.2.2.2.2.2.2.2.2.2.2.2.2.2.2.2.2.2.2.2.2.2.2.2.1 d.2.2.2.2.2.2.2.2.2.2.2.2.2.2.2.2.2.2.2.2.2.2.2.2.2.2.2.2.2.1 d.2.2.2.2.2.2.2.2.2.2.2.2.2.2.2.2.2.2.2.2.2.2.2.2.2.2.2.2.2.2.1) d.1 d.2.1 d.2.2.1 d.2.2.2.1 d.2.2.2.2.1 d.2.2.2.2.2.1 d.2.2.2.2.2.2.1 d.2.2.2.2.2.2.2.1 d.2.2.2.2.2.2.2.2.1 d.2.2.2.2.2.2.2.2.2.1 d.2.2.2.2.2.2.2.2.2.2.1 d.2.2.2.2.2.2.2.2.2.2.2.1 d.2.2.2.2.2.2.2.2.2.2.2.2.1 d.2.2.2.2.2.2.2.2.2.2.2.2.2.1 d.2.2.2.2.2.2.2.2.2.2.2.2.2.2.1 d.2.2.2.2.2.2.2.2.2.2.2.2.2.2.2.1 d.2.2.2.2.2.2.2.2.2.2.2.2.2.2.2.2.1 d.2.2.2.2.2.2.2.2.2.2.2.2.2.2.2.2.2.1 d.2.2.2.2.2.2.2.2.2.2.2.2.2.2.2.2.2.2.1 d.2.2.2.2.2.2.2.2.2.2.2.2.2.2.2.2.2.2.2.1 d.2.2.2.2.2.2.2.2.2.2.2.2.2.2.2.2.2.2.2.2.1 d.2.2.2.2.2.2.2.2.2.2.2.2.2.2.2.2.2.2.2.2.2.1 d.2.2.2.2.2.2.2.2.2.2.2.2.2.2.2.2.2.2.2.2.2.2.1 d.2.2.2.2.2.2.2.2.2.2.2.2.2.2.2.2.2.2.2.2.2.2.2.1 d.2.2.2.2.2.2.2.2.2.2.2.2.2.2.2.2.2.2.2.2.2.2.2.2.1 d.2.2.2.2.2.2.2.2.2.2.2.2.2.2.2.2.2.2.2.2.2.2.2.2.2.1 d.2.2.2.2.2.2.2.2.2.2.2.2.2.2.2.2.2.2.2.2.2.2.2.2.2.2.1 d.2.2.2.2.2.2.2.2.2.2.2.2.2.2.2.2.2.2.2.2.2.2.2.2.2.2.2.1 d.2.2.2.2.2.2.2.2.2.2.2.2.2.2.2.2.2.2.2.2.2.2.2.2.2.2.2.2.1 d.2.2.2.2.2.2.2.2.2.2.2.2.2.2.2.2.2.2.2.2.2.2.2.2.2.2.2.2.2.1 d.2.2.2.2.2.2.2.2.2.2.2.2.2.2.2.2.2.2.2.2.2.2.2.2.2.2.2.2.2.2.1) (Bo a0.2.1 (IntKind.i64.wrap (1 - a0.2.2.2.1.2.1)), H1 a0.2.2.2.2.2.2.1, 1, 0, a0.1, a0.2.1, a0.2.2.1, a0.2.2.2.1.1, a0.2.2.2.1.2.1, a0.2.2.2.1.2.2.1, a0.2.2.2.1.2.2.2.1, a0.2.2.2.2.1, a0.2.2.2.2.2.1, a0.2.2.2.2.2.2.1.1, 0, 0, 0, 0, 0, 0, 0, 0, 0, 0, IntKind.i64.wrap (a0.2.2.2.1.1 + 1), IntKind.i64.wrap (1 - a0.2.2.2.1.2.1), IntKind.i64.wrap (a0.2.2.2.1.2.2.1 + Av a0.2.1), a0.2.2.1, [(false, Bo a0.2.1 (IntKind.i64.wrap (1 - a0.2.2.2.1.2.1)), Cn (3, a0.2.2.1, IntKind.i64.wrap (a0.2.2.2.1.2.2.1 + Av a0.2.1), ByteArray.mk #[], ()) a0.1, ())], [], [], ())).bind fun val => bif decide ((val.2.2.2.2.2.2.2.2.2.2.2.2.2.2.2.2.2.2.2.2.2.2.2.2.2.1.length + [(true, 0, ByteArray.mk #[], ()), (false, Int.tmod val.2.2.2.2.2.2.2.2.2.2.2.2.2.2.2.2.2.2.2.2.2.1 2, Gq (val.2.2.2.2.2.2.2.2.2.2.2.2.2.2.2.2.2.2.2.2.2.1, val.2.2.2.2.2.2.2.2.2.2.2.2.2.2.2.2.2.2.2.2.2.2.1, val.2.2.2.2.2.2.2.2.2.2.2.2.2.2.2.2.2.2.2.2.2.2.2.1, val.2.2.2.2.2.2.2.2.2.2.2.2.2.2.2.2.2.2.2.2.2.2.2.2.1, ()) val.2.1, ()), (true, 0, ByteArray.mk #[], ())].length) * 32 ≤ 140737488355328) then ((F1 (val.2.2.2.2.2.2.2.2.2.2.1, ())).bind fun val => some (val, ())).bind fun val_1 => some ((0, val.2.1, val.2.2.1, val.2.2.2.1, val.2.2.2.2.2.2.2.2.2.2.2.2.2.2.2.2.2.2.2.2.2.1, val.2.2.2.2.2.2.2.2.2.2.2.2.2.2.2.2.2.2.2.2.2.2.1, val.2.2.2.2.2.2.2.2.2.2.2.2.2.2.2.2.2.2.2.2.2.2.2.1, val.2.2.2.2.2.2.2.2.2.2.2.2.2.2.2.2.2.2.2.2.2.2.2.2.1, val.1, 0, val_1.1.1, val.2.2.2.2.2.2.2.2.2.2.2.2.2.2.2.2.2.2.2.2.2.2.2.2.2.1 ++ [(true, 0, ByteArray.mk #[], ()), (false, Int.tmod val.2.2.2.2.2.2.2.2.2.2.2.2.2.2.2.2.2.2.2.2.2.1 2, Gq (val.2.2.2.2.2.2.2.2.2.2.2.2.2.2.2.2.2.2.2.2.2.1, val.2.2.2.2.2.2.2.2.2.2.2.2.2.2.2.2.2.2.2.2.2.2.1, val.2.2.2.2.2.2.2.2.2.2.2.2.2.2.2.2.2.2.2.2.2.2.2.1, val.2.2.2.2.2.2.2.2.2.2.2.2.2.2.2.2.2.2.2.2.2.2.2.2.1, ()) val.2.1, ()), (true, 0, ByteArray.mk #[], ())], ()), ()) else none
theorem Avx (b0 b1 b2 b3 b4 b5 b6 b7 b8 T H F l : Int) (b9 : List Pr2) (S : List (List Chg)) (v9 : Int) (L0 P : List ByteArray) (hH : 0 ≤ H ∧ H ≤ 1) (hL0 : L0.length ≤ 500000) (hP : P.length ≤ 4001) :
  C2 (Id (Bz H b1) S (nI L0.length) v9 P 0 b0 b1 b2 b3 b4 b5 b6 b7 b8 b9 0 0 0 0 0 0 0 0 0 0 T H F l (Is (Bz H b1) L0) [] []) (Bz H b1) S (nI L0.length) v9 P 0 b0 b1 b2 b3 b4 b5 b6 b7 b8 b9 0 0 0 0 0 0 0 0 0 0 T H F l (Is (Bz H b1) L0) [] [] = some (Bz H b1, S, nI (L0 ++ P).length, v9, b0, b1, b2, b3, b4, b5, b6, b7, b8, b9, 0, 0, 0, 0, 0, 0, 0, 0, 0, 0, T, H, F, l, Is (Bz H b1) (L0 ++ P), [], [], ()) := by
 have hm := Akp (n := b1) hH
 have hB : 0 ≤ Bz H b1 ∧ Bz H b1 ≤ 101 := by unfold Bz; omega
 have hL := Fq (xs := P) z0 (fun i (L : List ByteArray) => i ≤ 4001 ∧ L.length = L0.length + i) (fun (_ : Nat) x L => L ++ [x]) (g := fun m i L => C2 m (Bz H b1) S (nI L.length) v9 P i b0 b1 b2 b3 b4 b5 b6 b7 b8 b9 0 0 0 0 0 0 0 0 0 0 T H F l (Is (Bz H b1) L) [] []) (ok := fun L => (Bz H b1, S, nI L.length, v9, b0, b1, b2, b3, b4, b5, b6, b7, b8, b9, 0, 0, 0, 0, 0, 0, 0, 0, 0, 0, T, H, F, l, Is (Bz H b1) L, [], [], ())) (fun m i L hi hI => by
   show C2 (m + 1) (Bz H b1) S (nI L.length) v9 P i b0 b1 b2 b3 b4 b5 b6 b7 b8 b9 0 0 0 0 0 0 0 0 0 0 T H F l (Is (Bz H b1) L) [] [] = _
   simp only [C2, Ie]
   obtain ⟨h1, h2⟩ := hI
   have e1 : IntKind.i64.wrap (nI L.length + 1) = nI (L.length + 1) := wI (show L.length < 4611686018427387904 by omega)
   have e2 : IntKind.i64.wrap (Bz H b1 + nI L.length) = Bz H b1 + (L.length : Int) := by simp only [nI]; exact Ag (by omega) (by omega)
   rw [Mg hi, Fh, wI (show i < 4611686018427387904 by omega), Int.toNat_natCast, e1, e2, List.length_singleton, m5, decide_eq_true (show (L.length + 1) * 32 ≤ 140737488355328 by omega), Aq6, List.length_append, List.length_singleton]
   rfl) (fun i L hi hI => ⟨by omega, by rw [List.length_append, List.length_singleton, hI.2]; omega⟩) (fun m L hI => by
   show C2 (m + 1) (Bz H b1) S (nI L.length) v9 P (P.length : Int) b0 b1 b2 b3 b4 b5 b6 b7 b8 b9 0 0 0 0 0 0 0 0 0 0 T H F l (Is (Bz H b1) L) [] [] = _
   simp only [C2, Ie]
   rw [Hx]
   rfl) (Id (Bz H b1) S (nI L0.length) v9 P 0 b0 b1 b2 b3 b4 b5 b6 b7 b8 b9 0 0 0 0 0 0 0 0 0 0 T H F l (Is (Bz H b1) L0) [] []) 0 L0 (by omega) (by simp [Id, nI]) ⟨by omega, rfl⟩
 rw [Amd, List.drop_zero] at hL
 exact hL
theorem Avy (b0 b1 b2 b3 b4 b5 b6 b7 b8 T H F l : Int) (b9 : List Pr2) (S : List (List Chg)) (L : List ByteArray) (hS : S.length ≤ 101) (hH : 0 ≤ H ∧ H ≤ 1) (hF : 0 ≤ F ∧ F ≤ 1000000099) (hL : L.length ≤ 1) :
  Cr (Gm (Bz H b1) S (nI L.length) 0 b0 b1 b2 b3 b4 b5 b6 b7 b8 b9 0 0 0 0 0 0 0 0 0 0 T H F l (Is (Bz H b1) L) [] []) (Bz H b1) S (nI L.length) 0 b0 b1 b2 b3 b4 b5 b6 b7 b8 b9 0 0 0 0 0 0 0 0 0 0 T H F l (Is (Bz H b1) L) [] [] = some (nI (Fb (fun _ b L => W9 b0 b2 F b L) 0 S L).length, b0, b1, b2, b3, b4, b5, b6, b7, b8, b9, 0, 0, 0, 0, 0, 0, 0, 0, 0, 0, T, H, F, l, Is (Bz H b1) (Fb (fun _ b L => W9 b0 b2 F b L) 0 S L), [], [], ()) := by
 have hL := Fq (xs := S) [] MvI (fun _ b L => W9 b0 b2 F b L) (g := fun m i L => Cr m (Bz H b1) S (nI L.length) i b0 b1 b2 b3 b4 b5 b6 b7 b8 b9 0 0 0 0 0 0 0 0 0 0 T H F l (Is (Bz H b1) L) [] []) (ok := fun L => (nI L.length, b0, b1, b2, b3, b4, b5, b6, b7, b8, b9, 0, 0, 0, 0, 0, 0, 0, 0, 0, 0, T, H, F, l, Is (Bz H b1) L, [], [], ())) (fun m i L hi hI => by
   show Cr (m + 1) (Bz H b1) S (nI L.length) i b0 b1 b2 b3 b4 b5 b6 b7 b8 b9 0 0 0 0 0 0 0 0 0 0 T H F l (Is (Bz H b1) L) [] [] = _
   simp only [Cr, Ig, If]
   obtain ⟨h1, h2⟩ := hI
   rw [Mg hi, Fh, Int.toNat_natCast]
   have e0 : IntKind.i64.wrap (F + nI L.length) = F + (L.length : Int) := by simp only [nI]; exact Ag (by omega) (by omega)
   have e1 : Sw (Et (List.getD S i [])) b2 (F + (L.length : Int)) b0 = some (Al2 (F4 (List.getD S i [])) b2 (F + (L.length : Int)) b0) := if_pos (Nat.le_trans (Mj _) (by decide))
   rw [e0, e1]
   simp only [cond_true, Option.bind_some]
   refine Nl (Avx b0 b1 b2 b3 b4 b5 b6 b7 b8 T H F l b9 S (i : Int) L (Al2 (F4 (List.getD S i [])) b2 (F + (L.length : Int)) b0) hH (by omega) (Asl _ _ _ _)) ?_
   dsimp only
   rw [wI (show i < 4611686018427387904 by omega)]
   rfl) (fun i L hi hI => hI.step (by omega) _ _ _ _) (fun m L hI => by
   show Cr (m + 1) (Bz H b1) S (nI L.length) (S.length : Int) b0 b1 b2 b3 b4 b5 b6 b7 b8 b9 0 0 0 0 0 0 0 0 0 0 T H F l (Is (Bz H b1) L) [] [] = _
   simp only [Cr, Ig, If]
   rw [Hx]
   rfl) (Gm (Bz H b1) S (nI L.length) 0 b0 b1 b2 b3 b4 b5 b6 b7 b8 b9 0 0 0 0 0 0 0 0 0 0 T H F l (Is (Bz H b1) L) [] []) 0 L (by omega) (by simp [Gm, nI]) ⟨by omega, by omega⟩
 exact hL
theorem Anm (a0 : Sto) r (h : Lu a0 = some r) : Sx a0 = some ((r.1, r.2.1.1, r.2.1.2.1, r.2.1.2.2.1, r.2.1.2.2.2.1.1, r.2.1.2.2.2.1.2.1, r.2.1.2.2.2.1.2.2.1, r.2.1.2.2.2.1.2.2.2.1, r.2.1.2.2.2.2.1, r.2.1.2.2.2.2.2.1, r.2.1.2.2.2.2.2.2.1.1, r.2.2.1, ()), (())) := by
 unfold Lu at h
 split at h
 rotate_left
 ·cases h
 rename_i hk
 cases h
 obtain ⟨⟨t0, t1⟩, ⟨h0, h1⟩, ⟨f0, f1⟩, hp⟩ := hk
 have hh := M5 a0.2.1
 unfold Sx Ahn Ac2
 simp only [Av, H1, Cn, Gq]
 show (bif decide (IntKind.i64.wrap (a0.2.2.2.1.1 + 1) > 1000000000) then _ else bif decide (IntKind.i64.wrap (a0.2.2.2.1.2.2.1 + An a0.2.1) > 999999000) then _ else _) = _
 rw [Ag (n := a0.2.2.2.1.1 + 1) (by omega) (by omega), Ag (n := a0.2.2.2.1.2.2.1 + An a0.2.1) (by omega) (by omega), Ag (n := 1 - a0.2.2.2.1.2.1) (by omega) (by omega)]
 cases hc1 : decide (a0.2.2.2.1.1 + 1 > 1000000000) with
 | true => rfl
 | false =>
  cases hc2 : decide (a0.2.2.2.1.2.2.1 + An a0.2.1 > 999999000) with
  | true => rfl
  | false =>
   simp only [cond_false]
   have hm := Akp (n := a0.2.1) (show 0 ≤ 1 - a0.2.2.2.1.2.1 ∧ 1 - a0.2.2.2.1.2.1 ≤ 1 by omega)
   have e0 : Bo a0.2.1 (1 - a0.2.2.2.1.2.1) = Bz (1 - a0.2.2.2.1.2.1) a0.2.1 := by
    show IntKind.i64.wrap (2 + IntKind.i64.wrap ((1 - a0.2.2.2.1.2.1) * An a0.2.1)) = 2 + (1 - a0.2.2.2.1.2.1) * An a0.2.1
    rw [Ag (n := (1 - a0.2.2.2.1.2.1) * An a0.2.1) (by omega) (by omega), Ag (by omega) (by omega)]
   rw [e0]
   have hL1 := Avy a0.1 a0.2.1 a0.2.2.1 a0.2.2.2.1.1 a0.2.2.2.1.2.1 a0.2.2.2.1.2.2.1 a0.2.2.2.1.2.2.2.1 a0.2.2.2.2.1 a0.2.2.2.2.2.1 (a0.2.2.2.1.1 + 1) (1 - a0.2.2.2.1.2.1) (a0.2.2.2.1.2.2.1 + An a0.2.1) a0.2.2.1 a0.2.2.2.2.2.2.1.1 (Dg a0.2.2.2.2.2.2.1) [D1 (3, a0.2.2.1, a0.2.2.2.1.2.2.1 + An a0.2.1, z0, ()) a0.1] (Rn _) ⟨by omega, by omega⟩ ⟨by omega, by omega⟩ (Nat.le_refl 1)
   have hl := Asm a0 a0.2.2.1
   have e1 : F1 (a0.2.2.2.2.2.2.1.1, ()) = some (a0.2.2.2.2.2.2.1.1, ()) := if_pos hp
   have e2 : decide (((Is (Bz (1 - a0.2.2.2.1.2.1) a0.2.1) (mvL a0 a0.2.2.1)).length + 3) * 32 ≤ 140737488355328) = true := decide_eq_true (by rw [m5]; omega)
   refine Nl hL1 ?_
   dsimp only
   simp only [List.length_cons, List.length_nil, Nat.zero_add, Nat.reduceAdd]
   refine (congrArg (fun c => bif c then _ else none) e2).trans ?_
   simp only [cond_true]
   rw [e1]
   rfl
noncomputable def T4 {R : Type} (k : Kt R) := (Hw (pa_spec_l6Move 11) (.exit 0) 2 k)
noncomputable def T5 {R : Type} (k : Kt R) := (Hw (pa_spec_l6Move 15) (.exit 2) 4 k)
noncomputable def Ut {R : Type} : Lt R pa_spec_l6Move := (D5 (pat := pa_spec_l6Move) 11 (fun d k => (Cr (Gm d.1 d.2.1 d.2.2.1 d.2.2.2.1 d.2.2.2.2.1 d.2.2.2.2.2.1 d.2.2.2.2.2.2.1 d.2.2.2.2.2.2.2.1 d.2.2.2.2.2.2.2.2.1 d.2.2.2.2.2.2.2.2.2.1 d.2.2.2.2.2.2.2.2.2.2.1 d.2.2.2.2.2.2.2.2.2.2.2.1 d.2.2.2.2.2.2.2.2.2.2.2.2.1 d.2.2.2.2.2.2.2.2.2.2.2.2.2.1 d.2.2.2.2.2.2.2.2.2.2.2.2.2.2.1 d.2.2.2.2.2.2.2.2.2.2.2.2.2.2.2.1 d.2.2.2.2.2.2.2.2.2.2.2.2.2.2.2.2.1 d.2.2.2.2.2.2.2.2.2.2.2.2.2.2.2.2.2.1 d.2.2.2.2.2.2.2.2.2.2.2.2.2.2.2.2.2.2.1 d.2.2.2.2.2.2.2.2.2.2.2.2.2.2.2.2.2.2.2.1 d.2.2.2.2.2.2.2.2.2.2.2.2.2.2.2.2.2.2.2.2.1 d.2.2.2.2.2.2.2.2.2.2.2.2.2.2.2.2.2.2.2.2.2.1 d.2.2.2.2.2.2.2.2.2.2.2.2.2.2.2.2.2.2.2.2.2.2.1 d.2.2.2.2.2.2.2.2.2.2.2.2.2.2.2.2.2.2.2.2.2.2.2.1 d.2.2.2.2.2.2.2.2.2.2.2.2.2.2.2.2.2.2.2.2.2.2.2.2.1 d.2.2.2.2.2.2.2.2.2.2.2.2.2.2.2.2.2.2.2.2.2.2.2.2.2.1 d.2.2.2.2.2.2.2.2.2.2.2.2.2.2.2.2.2.2.2.2.2.2.2.2.2.2.1 d.2.2.2.2.2.2.2.2.2.2.2.2.2.2.2.2.2.2.2.2.2.2.2.2.2.2.2.1 d.2.2.2.2.2.2.2.2.2.2.2.2.2.2.2.2.2.2.2.2.2.2.2.2.2.2.2.2.1 d.2.2.2.2.2.2.2.2.2.2.2.2.2.2.2.2.2.2.2.2.2.2.2.2.2.2.2.2.2.1 d.2.2.2.2.2.2.2.2.2.2.2.2.2.2.2.2.2.2.2.2.2.2.2.2.2.2.2.2.2.2.1) d.1 d.2.1 d.2.2.1 d.2.2.2.1 d.2.2.2.2.1 d.2.2.2.2.2.1 d.2.2.2.2.2.2.1 d.2.2.2.2.2.2.2.1 d.2.2.2.2.2.2.2.2.1 d.2.2.2.2.2.2.2.2.2.1 d.2.2.2.2.2.2.2.2.2.2.1 d.2.2.2.2.2.2.2.2.2.2.2.1 d.2.2.2.2.2.2.2.2.2.2.2.2.1 d.2.2.2.2.2.2.2.2.2.2.2.2.2.1 d.2.2.2.2.2.2.2.2.2.2.2.2.2.2.1 d.2.2.2.2.2.2.2.2.2.2.2.2.2.2.2.1 d.2.2.2.2.2.2.2.2.2.2.2.2.2.2.2.2.1 d.2.2.2.2.2.2.2.2.2.2.2.2.2.2.2.2.2.1 d.2.2.2.2.2.2.2.2.2.2.2.2.2.2.2.2.2.2.1 d.2.2.2.2.2.2.2.2.2.2.2.2.2.2.2.2.2.2.2.1 d.2.2.2.2.2.2.2.2.2.2.2.2.2.2.2.2.2.2.2.2.1 d.2.2.2.2.2.2.2.2.2.2.2.2.2.2.2.2.2.2.2.2.2.1 d.2.2.2.2.2.2.2.2.2.2.2.2.2.2.2.2.2.2.2.2.2.2.1 d.2.2.2.2.2.2.2.2.2.2.2.2.2.2.2.2.2.2.2.2.2.2.2.1 d.2.2.2.2.2.2.2.2.2.2.2.2.2.2.2.2.2.2.2.2.2.2.2.2.1 d.2.2.2.2.2.2.2.2.2.2.2.2.2.2.2.2.2.2.2.2.2.2.2.2.2.1 d.2.2.2.2.2.2.2.2.2.2.2.2.2.2.2.2.2.2.2.2.2.2.2.2.2.2.1 d.2.2.2.2.2.2.2.2.2.2.2.2.2.2.2.2.2.2.2.2.2.2.2.2.2.2.2.1 d.2.2.2.2.2.2.2.2.2.2.2.2.2.2.2.2.2.2.2.2.2.2.2.2.2.2.2.2.1 d.2.2.2.2.2.2.2.2.2.2.2.2.2.2.2.2.2.2.2.2.2.2.2.2.2.2.2.2.2.1 d.2.2.2.2.2.2.2.2.2.2.2.2.2.2.2.2.2.2.2.2.2.2.2.2.2.2.2.2.2.2.1).bind (T4 k)) (D5 (pat := pa_spec_l6Move) 15 (fun d k => (If d).bind (T5 k)) Ff))
theorem Sy : Au Tryz.prog ta_spec_l6Move := At ⟨Ns, I1, Avw, Nu, w6, Z3, Ss, Vo, Vw, trivial⟩
theorem Adr {R : Type} : Aw Tryz.prog R 125 0 pa_spec_l6Move Ut co_spec_l6Move_15 :=
 B1 (cfg := ⟨ta_spec_l6Move, 0, 125, pa_spec_l6Move⟩) 15 [] (fun NX X d => Ie  NX X d.1 d.2.1 d.2.2.1 d.2.2.2.1 d.2.2.2.2.1 d.2.2.2.2.2.1 d.2.2.2.2.2.2.1 d.2.2.2.2.2.2.2.1 d.2.2.2.2.2.2.2.2.1 d.2.2.2.2.2.2.2.2.2.1 d.2.2.2.2.2.2.2.2.2.2.1 d.2.2.2.2.2.2.2.2.2.2.2.1 d.2.2.2.2.2.2.2.2.2.2.2.2.1 d.2.2.2.2.2.2.2.2.2.2.2.2.2.1 d.2.2.2.2.2.2.2.2.2.2.2.2.2.2.1 d.2.2.2.2.2.2.2.2.2.2.2.2.2.2.2.1 d.2.2.2.2.2.2.2.2.2.2.2.2.2.2.2.2.1 d.2.2.2.2.2.2.2.2.2.2.2.2.2.2.2.2.2.1 d.2.2.2.2.2.2.2.2.2.2.2.2.2.2.2.2.2.2.1 d.2.2.2.2.2.2.2.2.2.2.2.2.2.2.2.2.2.2.2.1 d.2.2.2.2.2.2.2.2.2.2.2.2.2.2.2.2.2.2.2.2.1 d.2.2.2.2.2.2.2.2.2.2.2.2.2.2.2.2.2.2.2.2.2.1 d.2.2.2.2.2.2.2.2.2.2.2.2.2.2.2.2.2.2.2.2.2.2.1 d.2.2.2.2.2.2.2.2.2.2.2.2.2.2.2.2.2.2.2.2.2.2.2.1 d.2.2.2.2.2.2.2.2.2.2.2.2.2.2.2.2.2.2.2.2.2.2.2.2.1 d.2.2.2.2.2.2.2.2.2.2.2.2.2.2.2.2.2.2.2.2.2.2.2.2.2.1 d.2.2.2.2.2.2.2.2.2.2.2.2.2.2.2.2.2.2.2.2.2.2.2.2.2.2.1 d.2.2.2.2.2.2.2.2.2.2.2.2.2.2.2.2.2.2.2.2.2.2.2.2.2.2.2.1 d.2.2.2.2.2.2.2.2.2.2.2.2.2.2.2.2.2.2.2.2.2.2.2.2.2.2.2.2.1 d.2.2.2.2.2.2.2.2.2.2.2.2.2.2.2.2.2.2.2.2.2.2.2.2.2.2.2.2.2.1 d.2.2.2.2.2.2.2.2.2.2.2.2.2.2.2.2.2.2.2.2.2.2.2.2.2.2.2.2.2.2.1 d.2.2.2.2.2.2.2.2.2.2.2.2.2.2.2.2.2.2.2.2.2.2.2.2.2.2.2.2.2.2.2.1 d.2.2.2.2.2.2.2.2.2.2.2.2.2.2.2.2.2.2.2.2.2.2.2.2.2.2.2.2.2.2.2.2.1) (fun m d => C2 m d.1 d.2.1 d.2.2.1 d.2.2.2.1 d.2.2.2.2.1 d.2.2.2.2.2.1 d.2.2.2.2.2.2.1 d.2.2.2.2.2.2.2.1 d.2.2.2.2.2.2.2.2.1 d.2.2.2.2.2.2.2.2.2.1 d.2.2.2.2.2.2.2.2.2.2.1 d.2.2.2.2.2.2.2.2.2.2.2.1 d.2.2.2.2.2.2.2.2.2.2.2.2.1 d.2.2.2.2.2.2.2.2.2.2.2.2.2.1 d.2.2.2.2.2.2.2.2.2.2.2.2.2.2.1 d.2.2.2.2.2.2.2.2.2.2.2.2.2.2.2.1 d.2.2.2.2.2.2.2.2.2.2.2.2.2.2.2.2.1 d.2.2.2.2.2.2.2.2.2.2.2.2.2.2.2.2.2.1 d.2.2.2.2.2.2.2.2.2.2.2.2.2.2.2.2.2.2.1 d.2.2.2.2.2.2.2.2.2.2.2.2.2.2.2.2.2.2.2.1 d.2.2.2.2.2.2.2.2.2.2.2.2.2.2.2.2.2.2.2.2.1 d.2.2.2.2.2.2.2.2.2.2.2.2.2.2.2.2.2.2.2.2.2.1 d.2.2.2.2.2.2.2.2.2.2.2.2.2.2.2.2.2.2.2.2.2.2.1 d.2.2.2.2.2.2.2.2.2.2.2.2.2.2.2.2.2.2.2.2.2.2.2.1 d.2.2.2.2.2.2.2.2.2.2.2.2.2.2.2.2.2.2.2.2.2.2.2.2.1 d.2.2.2.2.2.2.2.2.2.2.2.2.2.2.2.2.2.2.2.2.2.2.2.2.2.1 d.2.2.2.2.2.2.2.2.2.2.2.2.2.2.2.2.2.2.2.2.2.2.2.2.2.2.1 d.2.2.2.2.2.2.2.2.2.2.2.2.2.2.2.2.2.2.2.2.2.2.2.2.2.2.2.1 d.2.2.2.2.2.2.2.2.2.2.2.2.2.2.2.2.2.2.2.2.2.2.2.2.2.2.2.2.1 d.2.2.2.2.2.2.2.2.2.2.2.2.2.2.2.2.2.2.2.2.2.2.2.2.2.2.2.2.2.1 d.2.2.2.2.2.2.2.2.2.2.2.2.2.2.2.2.2.2.2.2.2.2.2.2.2.2.2.2.2.2.1 d.2.2.2.2.2.2.2.2.2.2.2.2.2.2.2.2.2.2.2.2.2.2.2.2.2.2.2.2.2.2.2.1 d.2.2.2.2.2.2.2.2.2.2.2.2.2.2.2.2.2.2.2.2.2.2.2.2.2.2.2.2.2.2.2.2.1) (fun d => Id d.1 d.2.1 d.2.2.1 d.2.2.2.1 d.2.2.2.2.1 d.2.2.2.2.2.1 d.2.2.2.2.2.2.1 d.2.2.2.2.2.2.2.1 d.2.2.2.2.2.2.2.2.1 d.2.2.2.2.2.2.2.2.2.1 d.2.2.2.2.2.2.2.2.2.2.1 d.2.2.2.2.2.2.2.2.2.2.2.1 d.2.2.2.2.2.2.2.2.2.2.2.2.1 d.2.2.2.2.2.2.2.2.2.2.2.2.2.1 d.2.2.2.2.2.2.2.2.2.2.2.2.2.2.1 d.2.2.2.2.2.2.2.2.2.2.2.2.2.2.2.1 d.2.2.2.2.2.2.2.2.2.2.2.2.2.2.2.2.1 d.2.2.2.2.2.2.2.2.2.2.2.2.2.2.2.2.2.1 d.2.2.2.2.2.2.2.2.2.2.2.2.2.2.2.2.2.2.1 d.2.2.2.2.2.2.2.2.2.2.2.2.2.2.2.2.2.2.2.1 d.2.2.2.2.2.2.2.2.2.2.2.2.2.2.2.2.2.2.2.2.1 d.2.2.2.2.2.2.2.2.2.2.2.2.2.2.2.2.2.2.2.2.2.1 d.2.2.2.2.2.2.2.2.2.2.2.2.2.2.2.2.2.2.2.2.2.2.1 d.2.2.2.2.2.2.2.2.2.2.2.2.2.2.2.2.2.2.2.2.2.2.2.1 d.2.2.2.2.2.2.2.2.2.2.2.2.2.2.2.2.2.2.2.2.2.2.2.2.1 d.2.2.2.2.2.2.2.2.2.2.2.2.2.2.2.2.2.2.2.2.2.2.2.2.2.1 d.2.2.2.2.2.2.2.2.2.2.2.2.2.2.2.2.2.2.2.2.2.2.2.2.2.2.1 d.2.2.2.2.2.2.2.2.2.2.2.2.2.2.2.2.2.2.2.2.2.2.2.2.2.2.2.1 d.2.2.2.2.2.2.2.2.2.2.2.2.2.2.2.2.2.2.2.2.2.2.2.2.2.2.2.2.1 d.2.2.2.2.2.2.2.2.2.2.2.2.2.2.2.2.2.2.2.2.2.2.2.2.2.2.2.2.2.1 d.2.2.2.2.2.2.2.2.2.2.2.2.2.2.2.2.2.2.2.2.2.2.2.2.2.2.2.2.2.2.1 d.2.2.2.2.2.2.2.2.2.2.2.2.2.2.2.2.2.2.2.2.2.2.2.2.2.2.2.2.2.2.2.1 d.2.2.2.2.2.2.2.2.2.2.2.2.2.2.2.2.2.2.2.2.2.2.2.2.2.2.2.2.2.2.2.2.1) T5 Sy trivial (fun f NX d => by unfold Ie; simp only [Aj, Ap, Ai, Option.bind_assoc, Option.bind_none, Option.bind_some]) (fun _ _ _ => by kernel_rfl)
theorem Ads {R : Type} : Aw Tryz.prog R 125 0 pa_spec_l6Move Ut co_spec_l6Move_11 :=
 B1 (cfg := ⟨ta_spec_l6Move, 0, 125, pa_spec_l6Move⟩) 11 [co_spec_l6Move_15] (fun NX X d => Ig If NX X d.1 d.2.1 d.2.2.1 d.2.2.2.1 d.2.2.2.2.1 d.2.2.2.2.2.1 d.2.2.2.2.2.2.1 d.2.2.2.2.2.2.2.1 d.2.2.2.2.2.2.2.2.1 d.2.2.2.2.2.2.2.2.2.1 d.2.2.2.2.2.2.2.2.2.2.1 d.2.2.2.2.2.2.2.2.2.2.2.1 d.2.2.2.2.2.2.2.2.2.2.2.2.1 d.2.2.2.2.2.2.2.2.2.2.2.2.2.1 d.2.2.2.2.2.2.2.2.2.2.2.2.2.2.1 d.2.2.2.2.2.2.2.2.2.2.2.2.2.2.2.1 d.2.2.2.2.2.2.2.2.2.2.2.2.2.2.2.2.1 d.2.2.2.2.2.2.2.2.2.2.2.2.2.2.2.2.2.1 d.2.2.2.2.2.2.2.2.2.2.2.2.2.2.2.2.2.2.1 d.2.2.2.2.2.2.2.2.2.2.2.2.2.2.2.2.2.2.2.1 d.2.2.2.2.2.2.2.2.2.2.2.2.2.2.2.2.2.2.2.2.1 d.2.2.2.2.2.2.2.2.2.2.2.2.2.2.2.2.2.2.2.2.2.1 d.2.2.2.2.2.2.2.2.2.2.2.2.2.2.2.2.2.2.2.2.2.2.1 d.2.2.2.2.2.2.2.2.2.2.2.2.2.2.2.2.2.2.2.2.2.2.2.1 d.2.2.2.2.2.2.2.2.2.2.2.2.2.2.2.2.2.2.2.2.2.2.2.2.1 d.2.2.2.2.2.2.2.2.2.2.2.2.2.2.2.2.2.2.2.2.2.2.2.2.2.1 d.2.2.2.2.2.2.2.2.2.2.2.2.2.2.2.2.2.2.2.2.2.2.2.2.2.2.1 d.2.2.2.2.2.2.2.2.2.2.2.2.2.2.2.2.2.2.2.2.2.2.2.2.2.2.2.1 d.2.2.2.2.2.2.2.2.2.2.2.2.2.2.2.2.2.2.2.2.2.2.2.2.2.2.2.2.1 d.2.2.2.2.2.2.2.2.2.2.2.2.2.2.2.2.2.2.2.2.2.2.2.2.2.2.2.2.2.1 d.2.2.2.2.2.2.2.2.2.2.2.2.2.2.2.2.2.2.2.2.2.2.2.2.2.2.2.2.2.2.1) (fun m d => Cr m d.1 d.2.1 d.2.2.1 d.2.2.2.1 d.2.2.2.2.1 d.2.2.2.2.2.1 d.2.2.2.2.2.2.1 d.2.2.2.2.2.2.2.1 d.2.2.2.2.2.2.2.2.1 d.2.2.2.2.2.2.2.2.2.1 d.2.2.2.2.2.2.2.2.2.2.1 d.2.2.2.2.2.2.2.2.2.2.2.1 d.2.2.2.2.2.2.2.2.2.2.2.2.1 d.2.2.2.2.2.2.2.2.2.2.2.2.2.1 d.2.2.2.2.2.2.2.2.2.2.2.2.2.2.1 d.2.2.2.2.2.2.2.2.2.2.2.2.2.2.2.1 d.2.2.2.2.2.2.2.2.2.2.2.2.2.2.2.2.1 d.2.2.2.2.2.2.2.2.2.2.2.2.2.2.2.2.2.1 d.2.2.2.2.2.2.2.2.2.2.2.2.2.2.2.2.2.2.1 d.2.2.2.2.2.2.2.2.2.2.2.2.2.2.2.2.2.2.2.1 d.2.2.2.2.2.2.2.2.2.2.2.2.2.2.2.2.2.2.2.2.1 d.2.2.2.2.2.2.2.2.2.2.2.2.2.2.2.2.2.2.2.2.2.1 d.2.2.2.2.2.2.2.2.2.2.2.2.2.2.2.2.2.2.2.2.2.2.1 d.2.2.2.2.2.2.2.2.2.2.2.2.2.2.2.2.2.2.2.2.2.2.2.1 d.2.2.2.2.2.2.2.2.2.2.2.2.2.2.2.2.2.2.2.2.2.2.2.2.1 d.2.2.2.2.2.2.2.2.2.2.2.2.2.2.2.2.2.2.2.2.2.2.2.2.2.1 d.2.2.2.2.2.2.2.2.2.2.2.2.2.2.2.2.2.2.2.2.2.2.2.2.2.2.1 d.2.2.2.2.2.2.2.2.2.2.2.2.2.2.2.2.2.2.2.2.2.2.2.2.2.2.2.1 d.2.2.2.2.2.2.2.2.2.2.2.2.2.2.2.2.2.2.2.2.2.2.2.2.2.2.2.2.1 d.2.2.2.2.2.2.2.2.2.2.2.2.2.2.2.2.2.2.2.2.2.2.2.2.2.2.2.2.2.1 d.2.2.2.2.2.2.2.2.2.2.2.2.2.2.2.2.2.2.2.2.2.2.2.2.2.2.2.2.2.2.1) (fun d => Gm d.1 d.2.1 d.2.2.1 d.2.2.2.1 d.2.2.2.2.1 d.2.2.2.2.2.1 d.2.2.2.2.2.2.1 d.2.2.2.2.2.2.2.1 d.2.2.2.2.2.2.2.2.1 d.2.2.2.2.2.2.2.2.2.1 d.2.2.2.2.2.2.2.2.2.2.1 d.2.2.2.2.2.2.2.2.2.2.2.1 d.2.2.2.2.2.2.2.2.2.2.2.2.1 d.2.2.2.2.2.2.2.2.2.2.2.2.2.1 d.2.2.2.2.2.2.2.2.2.2.2.2.2.2.1 d.2.2.2.2.2.2.2.2.2.2.2.2.2.2.2.1 d.2.2.2.2.2.2.2.2.2.2.2.2.2.2.2.2.1 d.2.2.2.2.2.2.2.2.2.2.2.2.2.2.2.2.2.1 d.2.2.2.2.2.2.2.2.2.2.2.2.2.2.2.2.2.2.1 d.2.2.2.2.2.2.2.2.2.2.2.2.2.2.2.2.2.2.2.1 d.2.2.2.2.2.2.2.2.2.2.2.2.2.2.2.2.2.2.2.2.1 d.2.2.2.2.2.2.2.2.2.2.2.2.2.2.2.2.2.2.2.2.2.1 d.2.2.2.2.2.2.2.2.2.2.2.2.2.2.2.2.2.2.2.2.2.2.1 d.2.2.2.2.2.2.2.2.2.2.2.2.2.2.2.2.2.2.2.2.2.2.2.1 d.2.2.2.2.2.2.2.2.2.2.2.2.2.2.2.2.2.2.2.2.2.2.2.2.1 d.2.2.2.2.2.2.2.2.2.2.2.2.2.2.2.2.2.2.2.2.2.2.2.2.2.1 d.2.2.2.2.2.2.2.2.2.2.2.2.2.2.2.2.2.2.2.2.2.2.2.2.2.2.1 d.2.2.2.2.2.2.2.2.2.2.2.2.2.2.2.2.2.2.2.2.2.2.2.2.2.2.2.1 d.2.2.2.2.2.2.2.2.2.2.2.2.2.2.2.2.2.2.2.2.2.2.2.2.2.2.2.2.1 d.2.2.2.2.2.2.2.2.2.2.2.2.2.2.2.2.2.2.2.2.2.2.2.2.2.2.2.2.2.1 d.2.2.2.2.2.2.2.2.2.2.2.2.2.2.2.2.2.2.2.2.2.2.2.2.2.2.2.2.2.2.1) T4 Sy ⟨Adr, trivial⟩ (fun f NX d => by unfold Ig; simp only [Aj, Ap, Ai, Option.bind_assoc, Option.bind_none, Option.bind_some]) (fun _ _ _ => by kernel_rfl)
theorem Ann : Bf Tryz.prog 108 sd_spec_l6Move :=
 Ar (pat := pa_spec_l6Move) [co_spec_l6Move_11] Ut Sy ⟨Ads, trivial⟩ Tryz.func108 (de := fun x => Sx x.1) (fun x r h => A3 (Anm x.1) h) fun _ => by kernel_rfl
def A6 (d : Dk) (w : Int) : Don := Ac3 d w
def As5 : Sig := ⟨[.rd P3, .rd tI], [some 2, none], [.rd tI, .rd tI, .rd tI, .rd tI, .rd tI, .rd tI, .rd tI, .rd tI, .rd tI, .rd tI, .own 167 Ak, .own 126 Mb], [some 12]⟩
noncomputable def sd_spec_Open : SD := ⟨As5, fun x => some (((A6 x.1 x.2.1).1, (A6 x.1 x.2.1).2.1.1, (A6 x.1 x.2.1).2.1.2.1, (A6 x.1 x.2.1).2.1.2.2.1, (A6 x.1 x.2.1).2.1.2.2.2.1.1, (A6 x.1 x.2.1).2.1.2.2.2.1.2.1, (A6 x.1 x.2.1).2.1.2.2.2.1.2.2.1, (A6 x.1 x.2.1).2.1.2.2.2.1.2.2.2.1, (A6 x.1 x.2.1).2.1.2.2.2.2.1, (A6 x.1 x.2.1).2.1.2.2.2.2.2.1, (A6 x.1 x.2.1).2.1.2.2.2.2.2.2.1.1, (A6 x.1 x.2.1).2.2.1, ()), (()))⟩
noncomputable def Xg (a0 : Dk) (a1 : Int) : Option ((((Int) × (Int) × (Int) × (Int) × (Int) × (Int) × (Int) × (Int) × (Int) × (Int) × (List Pr2) × (List Opn) × Unit) × (Unit))) :=
 bif !Fr a0 then some ((1, 0, 0, 0, 0, 0, 0, 0, 0, 0, [], [], ()), ()) else Option.bind (bif decide (a1 ≥ 1) then some ((decide (a1 ≤ 8), ()), ()) else some ((false, ()), ())) fun val => bif !val.1.1 then some ((1, 0, 0, 0, 0, 0, 0, 0, 0, 0, [], [], ()), ()) else ((Lr (Ck a0 (Bo (nI (List.length a0.1)) (Ad a0 a1).2.1) (Av (nI (List.length a0.1))) (Ad a0 a1).2.2.1 (Ad a0 a1).2.2.2.1 a1).1).bind fun val => some ((val.1.1, val.2, ()), ())).bind fun val => bif !val.1.2.1 then some ((2, 0, 0, 0, 0, 0, 0, 0, 0, 0, [], [], ()), ()) else bif decide (IntKind.i64.wrap ((Ck a0 (Bo (nI (List.length a0.1)) (Ad a0 a1).2.1) (Av (nI (List.length a0.1))) (Ad a0 a1).2.2.1 (Ad a0 a1).2.2.2.1 a1).2.2.1 + 1) > 60000) then some ((3, 0, 0, 0, 0, 0, 0, 0, 0, 0, [], [], ()), ()) else bif decide (M7 (val.1.1, ()) a1 > IntKind.i64.wrap (Av (nI (List.length a0.1)) - 1)) then some ((4, 0, 0, 0, 0, 0, 0, 0, 0, 0, [], [], ()), ()) else bif decide ((Ck a0 (Bo (nI (List.length a0.1)) (Ad a0 a1).2.1) (Av (nI (List.length a0.1))) (Ad a0 a1).2.2.1 (Ad a0 a1).2.2.2.1 a1).2.1 ≥ Av (nI (List.length a0.1))) then ((Lu (a1, nI (List.length a0.1), IntKind.i64.wrap ((Ck a0 (Bo (nI (List.length a0.1)) (Ad a0 a1).2.1) (Av (nI (List.length a0.1))) (Ad a0 a1).2.2.1 (Ad a0 a1).2.2.2.1 a1).2.2.1 + 1), Ad a0 a1, (Ck a0 (Bo (nI (List.length a0.1)) (Ad a0 a1).2.1) (Av (nI (List.length a0.1))) (Ad a0 a1).2.2.1 (Ad a0 a1).2.2.2.1 a1).2.1, 0, (val.1.1, ()), ())).bind fun val => some ((val.1, val.2.1.1, val.2.1.2.1, val.2.1.2.2.1, val.2.1.2.2.2.1.1, val.2.1.2.2.2.1.2.1, val.2.1.2.2.2.1.2.2.1, val.2.1.2.2.2.1.2.2.2.1, val.2.1.2.2.2.2.1, val.2.1.2.2.2.2.2.1, val.2.1.2.2.2.2.2.2.1.1, val.2.2), ())).bind fun val => some val else some ((0, a1, nI (List.length a0.1), IntKind.i64.wrap ((Ck a0 (Bo (nI (List.length a0.1)) (Ad a0 a1).2.1) (Av (nI (List.length a0.1))) (Ad a0 a1).2.2.1 (Ad a0 a1).2.2.2.1 a1).2.2.1 + 1), (Ad a0 a1).1, (Ad a0 a1).2.1, (Ad a0 a1).2.2.1, (Ad a0 a1).2.2.2.1, IntKind.i64.wrap ((Ck a0 (Bo (nI (List.length a0.1)) (Ad a0 a1).2.1) (Av (nI (List.length a0.1))) (Ad a0 a1).2.2.1 (Ad a0 a1).2.2.2.1 a1).2.1 + 1), 0, val.1.1, [(false, IntKind.i64.wrap (Bo (nI (List.length a0.1)) (Ad a0 a1).2.1 + (Ck a0 (Bo (nI (List.length a0.1)) (Ad a0 a1).2.1) (Av (nI (List.length a0.1))) (Ad a0 a1).2.2.1 (Ad a0 a1).2.2.2.1 a1).2.1), Cn (3, IntKind.i64.wrap ((Ck a0 (Bo (nI (List.length a0.1)) (Ad a0 a1).2.1) (Av (nI (List.length a0.1))) (Ad a0 a1).2.2.1 (Ad a0 a1).2.2.2.1 a1).2.2.1 + 1), IntKind.i64.wrap ((Ad a0 a1).2.2.1 + (Ck a0 (Bo (nI (List.length a0.1)) (Ad a0 a1).2.1) (Av (nI (List.length a0.1))) (Ad a0 a1).2.2.1 (Ad a0 a1).2.2.2.1 a1).2.1), ByteArray.mk #[], ()) a1, ()), (true, 0, ByteArray.mk #[], ())], ()), ())
theorem As6 (a0 : Dk) (a1 : Int) : Xg a0 a1 = some (((A6 a0 a1).1, (A6 a0 a1).2.1.1, (A6 a0 a1).2.1.2.1, (A6 a0 a1).2.1.2.2.1, (A6 a0 a1).2.1.2.2.2.1.1, (A6 a0 a1).2.1.2.2.2.1.2.1, (A6 a0 a1).2.1.2.2.2.1.2.2.1, (A6 a0 a1).2.1.2.2.2.1.2.2.2.1, (A6 a0 a1).2.1.2.2.2.2.1, (A6 a0 a1).2.1.2.2.2.2.2.1, (A6 a0 a1).2.1.2.2.2.2.2.2.1.1, (A6 a0 a1).2.2.1, ()), (())) := by
 unfold Xg A6 Ac3
 have ew : (bif decide (a1 ≥ 1) then (some ((decide (a1 ≤ 8), ()), ()) : Option ((Bool × Unit) × Unit)) else some ((false, ()), ())) = some ((Eo a1 1 8, ()), ()) := by
  unfold Eo
  show (bif decide (1 ≤ a1) then _ else _) = _
  cases decide (1 ≤ a1) <;> rfl
 rw [ew]
 show (bif !Bp a0 then _ else bif !Eo a1 1 8 then _ else _) = _
 cases hv : Bp a0 with
 | false => rfl
 | true =>
  cases hw : Eo a1 1 8 with
  | false => rfl
  | true =>
   simp only [Bool.not_true, cond_false]
   have hr := Ahr hv hw
   have hm := Akp (n := nI a0.1.length) hr.2.1
   have hh := M5 (nI a0.1.length)
   have eb : Bo (nI a0.1.length) (A7 a0 a1).2.1 = Bz (A7 a0 a1).2.1 (nI a0.1.length) := by
    show IntKind.i64.wrap (2 + IntKind.i64.wrap ((A7 a0 a1).2.1 * An (nI a0.1.length))) = 2 + (A7 a0 a1).2.1 * An (nI a0.1.length)
    rw [Ag (n := (A7 a0 a1).2.1 * An (nI a0.1.length)) (by omega) (by omega), Ag (by omega) (by omega)]
   have ex : Ck a0 (Bo (nI a0.1.length) (Ad a0 a1).2.1) (Av (nI a0.1.length)) (Ad a0 a1).2.2.1 (Ad a0 a1).2.2.2.1 a1 = Hz a0 a1 := by
    show Tp a0 (Bo (nI a0.1.length) (A7 a0 a1).2.1) (An (nI a0.1.length)) (A7 a0 a1).2.2.1 (A7 a0 a1).2.2.2.1 a1 = _
    rw [eb]
    rfl
   simp only [ex]
   have hx : (Hz a0 a1).1.length ≤ 1073741824 := of_decide_eq_true (Cj (Cj (Amc a0 (Bz (A7 a0 a1).2.1 (nI a0.1.length)) (An (nI a0.1.length)) (A7 a0 a1).2.2.1 (A7 a0 a1).2.2.2.1 a1)).1).1
   have hs := Avm a0 (Bz (A7 a0 a1).2.1 (nI a0.1.length)) (An (nI a0.1.length)) (A7 a0 a1).2.2.1 (A7 a0 a1).2.2.2.1 a1 hh.1 hr.2.2.2
   have hf : Lr (Hz a0 a1).1 = some (Aza (Hz a0 a1).1) := if_pos hx
   rw [hf]
   unfold Aza
   cases ho : O3 (Hz a0 a1).1 Ys with
   | none => rfl
   | some st =>
    have hst := Rh rfl ho
    replace hs : (0 ≤ (Hz a0 a1).2.1 ∧ (Hz a0 a1).2.1 ≤ An (nI a0.1.length)) ∧ (0 ≤ (Hz a0 a1).2.2.1 ∧ (Hz a0 a1).2.2.1 ≤ 60000) := hs
    clear ho hx ex hf
    have eR : Ad a0 a1 = A7 a0 a1 := rfl
    have eH : Av (nI a0.1.length) = An (nI a0.1.length) := rfl
    rw [eR, eH]
    generalize Hz a0 a1 = x at *
    generalize A7 a0 a1 = r at *
    show (bif decide (IntKind.i64.wrap (x.2.2.1 + 1) > 60000) then _ else bif decide (R5 st a1 > IntKind.i64.wrap (An (nI a0.1.length) - 1)) then _ else bif decide (x.2.1 ≥ An (nI a0.1.length)) then _ else _) = _
    dsimp only
    rw [Ag (n := x.2.2.1 + 1) (by omega) (by omega), To]
    by_cases h1 : x.2.2.1 + 1 > 60000
    ·rw [decide_eq_true h1, Ay6 h1]; rfl
    by_cases h2 : R5 st a1 > An (nI a0.1.length) - 1
    ·rw [decide_eq_false h1, decide_eq_true h2, Ay7 h1 h2]; rfl
    by_cases h3 : x.2.1 < An (nI a0.1.length)
    ·rw [decide_eq_false h1, decide_eq_false h2, decide_eq_false (show ¬ x.2.1 ≥ An (nI a0.1.length) by omega), Ay8 h1 h2 h3]
     simp only [cond_true, cond_false]
     obtain ⟨_, hr1, hr2, hr3⟩ := hr
     have hB : 0 ≤ Bz r.2.1 (nI a0.1.length) ∧ Bz r.2.1 (nI a0.1.length) ≤ 101 := by unfold Bz; omega
     rw [eb, Ag (n := x.2.1 + 1) (by omega) (by omega), Ag (n := Bz r.2.1 (nI a0.1.length) + x.2.1) (by omega) (by omega), Ag (n := r.2.2.1 + x.2.1) (by omega) (by omega)]
     rfl
    ·rw [decide_eq_false h1, decide_eq_false h2, decide_eq_true (show x.2.1 ≥ An (nI a0.1.length) by omega), Ay9 h1 h2 h3]
     simp only [cond_true, cond_false]
     have e1 : Lu (a1, nI a0.1.length, x.2.2.1 + 1, r, x.2.1, 0, st, ()) = some (Ahn (a1, nI a0.1.length, x.2.2.1 + 1, r, x.2.1, 0, st, ())) := if_pos ⟨hr.1, hr.2.1, ⟨Int.le_trans (by decide) hr.2.2.1.1, Int.le_trans hr.2.2.1.2 (by decide)⟩, Nat.le_trans (D2 hst) (by decide)⟩
     refine (congrArg (fun q => Option.bind (Option.bind q _) _) e1).trans ?_
     rfl
theorem As7 : Bf Tryz.prog 29 sd_spec_Open :=
 Ar (pat := Ci) [] Ff (At (l := [(55, sd_spec_Halves), (56, sd_spec_Room), (69, sd_spec_l1Width), (70, sd_spec_ValidDisk), (76, sd_spec_FormPage), (83, sd_spec_l6Put), (84, sd_spec_l6Base), (105, sd_spec_FindRoot), (106, sd_spec_Scan), (107, sd_spec_l6Fold), (108, sd_spec_l6Move)]) ⟨Ns, Adb, Db, Kd, I1, w6, Z3, Af5, As3, Anj, Ann, trivial⟩) trivial Tryz.func29 (de := fun x => Xg x.1 x.2.1) (fun x r h => (As6 x.1 x.2.1).trans h) fun _ => by kernel_rfl
def Jl (w : Wld) : Stt × Int := Ew w
def Apc : Sig := ⟨[.rd Un], [some 16], [.own 167 Ak, .rd tI], [some 1, none]⟩
noncomputable def sd_spec_Found : SD := ⟨Apc, fun x => some (((Jl x.1).1.1, (Jl x.1).2, ()), (()))⟩
noncomputable def Uu (a0 : Wld) : Option ((((List Pr2) × (Int) × Unit) × (Unit))) :=
 bif !Ke a0 then some (([], 1, ()), ()) else ((F1 (A6 (a0.2.1.1, [], ()) a0.1).2.1.2.2.2.2.2.2.1).bind fun val => some (val, ())).bind fun val => some ((val.1.1, (A6 (a0.2.1.1, [], ()) a0.1).1, ()), ())
theorem Apd (a0 : Wld) : Uu a0 = some (((Jl a0).1.1, (Jl a0).2, ()), (())) := by
 unfold Uu Jl Ew
 show (bif !D9 a0 then _ else _) = _
 cases hv : D9 a0 with
 | false => rfl
 | true =>
  simp only [Bool.not_true, cond_false]
  have hs := D2 (Axo (a0.2.1.1, [], ()) a0.1)
  have e1 : F1 (A6 (a0.2.1.1, [], ()) a0.1).2.1.2.2.2.2.2.2.1 = some (Ac3 (a0.2.1.1, [], ()) a0.1).2.1.2.2.2.2.2.2.1 := if_pos (Nat.le_trans hs (by decide))
  rw [e1]
  rfl
theorem Ape : Bf Tryz.prog 39 sd_spec_Found :=
 Ar (pat := Ci) [] Ff (At (l := [(13, sd_spec_ValidWorld), (29, sd_spec_Open), (127, sd_spec_l4Copy)]) ⟨Aa9, As7, Ss, trivial⟩) trivial Tryz.func39 (de := fun x => Uu x.1) (fun x r h => (Apd x.1).trans h) fun _ => by kernel_rfl
def Lv (a b : Stt) : Option Bool := if a.1.length ≤ 1000000 then some (P5 a b) else none
def Ano : Sig := ⟨[.rd Bd, .rd Bd], [some 1, some 1], [.rd .bool], [none]⟩
noncomputable def sd_spec_l7Same : SD := ⟨Ano, fun x => (Lv x.1 x.2.1).bind fun r => some ((r, ()), (()))⟩
noncomputable def ta_spec_l7Same : Tb := tb []
def pa_spec_l7Same : Nat → Pat × (Nat → Pat) := Fj [(5, ⟨[.boxSl 2 0 Ak, .boxSl 3 0 Ak], [(2, .lf (.ptr 0 0)), (3, .lf (.ptr 1 0)), (5, .lf (.d tI))], [.box 31 [.d (.sl Ak)], .box 31 [.d (.sl Ak)]]⟩, [(2, p0), (1, ⟨[], [(4, .lf (.d .bool))], []⟩)])]
noncomputable def co_spec_l7Same_5 : Code := (Ao (A4 Tryz.f123)).getD 0 .skip
def I7 (v5 : Int) (b0_0 : List Pr2) (b1_0 : List Pr2) : Nat := ((b0_0.length : Int) - v5).toNat + 1
noncomputable def I8 {R : Type}  (NX : ((Int) × (List Pr2) × (List Pr2) × Unit) → Option R) (X2 : (Unit) → Option R) (X1 : ((Bool) × Unit) → Option R) (v5 : Int) (b0_0 : List Pr2) (b1_0 : List Pr2) : Option R :=
 bif decide (v5 < nI b0_0.length) then bif decide (0 ≤ v5) then bif decide (v5 < nI b0_0.length) then bif decide (0 ≤ v5) then bif decide (v5 < nI b1_0.length) then bif !(ByteArray.toList (b0_0.getD v5.toNat (ByteArray.mk #[], ByteArray.mk #[], ())).1 == ByteArray.toList (b1_0.getD v5.toNat (ByteArray.mk #[], ByteArray.mk #[], ())).1 && (ByteArray.toList (b0_0.getD v5.toNat (ByteArray.mk #[], ByteArray.mk #[], ())).2.1 == ByteArray.toList (b1_0.getD v5.toNat (ByteArray.mk #[], ByteArray.mk #[], ())).2.1 && true)) then X1 (false, ()) else NX (IntKind.i64.wrap (v5 + 1), b0_0, b1_0, ()) else none else none else none else none else X2 PUnit.unit
noncomputable def Dj : Nat → (Int) → (List Pr2) → (List Pr2) →  Option ((Unit) ⊕ ((Bool) × Unit))
 | 0, _, _, _ => none
 | m + 1, v5, b0_0, b1_0 => I8  (fun d => Dj m d.1 d.2.1 d.2.2.1) (fun d => some (.inl (d))) (fun d => some (.inr (d))) v5 b0_0 b1_0
noncomputable def Sz (a0 : Stt) (a1 : Stt) : Option ((((Bool) × Unit) × (Unit))) :=
 bif nI (List.length a0.1) != nI (List.length a1.1) then some ((false, ()), ()) else ((fun d => Dj (I7 d.1 d.2.1 d.2.2.1) d.1 d.2.1 d.2.2.1) (0, a0.1, a1)).bind fun val => Be (fun val => some ((true, ()), ())) (fun val => some (val, ())) val
theorem Anp (a0 : Stt) (a1 : Stt) r (h : Lv a0 a1 = some r) : Sz a0 a1 = some ((r, ()), (())) := by
 unfold Lv at h
 split at h
 rotate_left
 ·cases h
 rename_i hlen
 cases h
 unfold Sz
 by_cases hl : a1.1.length = a0.1.length
 ·have c1 : (nI a0.1.length != nI a1.1.length) = false := by simp [nI, hl]
  rw [c1]
  have hL := W7 (xs := a0.1) (ys := a1.1) zP (fun x y : Pr2 => Mc Ak x y) (g := fun m i => Dj m i a0.1 a1.1) (ok := .inl ()) (bad := .inr (false, ())) hl (fun m i hi => by
   show Dj (m + 1) i a0.1 a1.1 = _
   simp only [Dj, I8]
   rw [Mg hi, Fh, Mg (show i < a1.1.length by omega), wI (by omega)]
   simp only [cond_true, Int.toNat_natCast]
   show (bif !(Mc Ak (a0.1.getD i zP) (a1.1.getD i zP)) then _ else _) = bif Mc Ak (a0.1.getD i zP) (a1.1.getD i zP) then _ else _
   cases Mc Ak (a0.1.getD i zP) (a1.1.getD i zP) <;> rfl) (fun m => by
   show Dj (m + 1) (a0.1.length : Int) a0.1 a1.1 = _
   simp only [Dj, I8]
   rw [Hx]
   rfl) (I7 0 a0.1 a1.1) 0 (by omega) (by simp [I7, nI])
  refine Nl hL ?_
  rw [List.drop_zero, List.drop_zero]
  show Be _ _ (bif P5 a0 a1 then _ else _) = _
  cases P5 a0 a1 <;> rfl
 ·have c1 : (nI a0.1.length != nI a1.1.length) = true := by simp [nI]; omega
  rw [c1, show P5 a0 a1 = false from W6 fun q => hl q.symm]
  rfl
noncomputable def V1 {R : Type} (k : Kt R) := (Be (Hw (pa_spec_l7Same 5) (.exit 0) 2 k) (Hw (pa_spec_l7Same 5) .ret 1 k))
noncomputable def x7 {R : Type} : Lt R pa_spec_l7Same := (D5 (pat := pa_spec_l7Same) 5 (fun d k => (Dj (I7 d.1 d.2.1 d.2.2.1) d.1 d.2.1 d.2.2.1).bind (V1 k)) Ff)
theorem c7 : Au Tryz.prog ta_spec_l7Same := At trivial
theorem Aga {R : Type} : Aw Tryz.prog R 31 0 pa_spec_l7Same x7 co_spec_l7Same_5 :=
 B1 (cfg := ⟨ta_spec_l7Same, 0, 31, pa_spec_l7Same⟩) 5 [] (fun NX X d => I8  NX (fun e => X (.inl (e))) (fun e => X (.inr (e))) d.1 d.2.1 d.2.2.1) (fun m d => Dj m d.1 d.2.1 d.2.2.1) (fun d => I7 d.1 d.2.1 d.2.2.1) V1 c7 trivial (fun f NX d => by unfold I8; simp only [Aj, Ap, Ai, Option.bind_assoc, Option.bind_none, Option.bind_some]) (fun _ _ _ => by kernel_rfl)
theorem Anq : Bf Tryz.prog 123 sd_spec_l7Same :=
 Ar (pat := pa_spec_l7Same) [co_spec_l7Same_5] x7 c7 ⟨Aga, trivial⟩ Tryz.func123 (de := fun x => Sz x.1 x.2.1) (fun x r h => A3 (Anp x.1 x.2.1) h) fun _ => by kernel_rfl
def N2 (w : Wld) : Bool := Asq w
def Apf : Sig := ⟨[.rd Un], [some 16], [.rd .bool], [none]⟩
noncomputable def sd_spec_Right : SD := ⟨Apf, fun x => some (((N2 x.1), ()), (()))⟩
noncomputable def ta_spec_Right : Tb := tb [(39, sd_spec_Found), (123, sd_spec_l7Same)]
def pa_spec_Right : Nat → Pat × (Nat → Pat) := Fj [(6, ⟨[.boxSl 1 1 .str, .boxSl 1 2 Ey, .boxSl 1 13 Ak, .boxSl 1 14 Bd, .boxSl 1 15 .str, .boxSl 3 0 Ak], [(1, .lf (.ptr 0 0)), (3, .lf (.ptr 1 0)), (5, .lf (.d tI))], [.box 36 [.d tI, .d (.sl .str), .d (.sl Ey), .d .bool, .d tI, .d tI, .d tI, .d tI, .d tI, .d tI, .d tI, .d tI, .d tI, .d (.sl Ak), .d (.sl Bd), .d (.sl .str)], .box 31 [.d (.sl Ak)]]⟩, [(2, p0), (1, ⟨[], [(2, .lf (.d .bool))], []⟩)])]
noncomputable def co_spec_Right_6 : Code := (Ao (A4 Tryz.f35)).getD 0 .skip
def Jz (v5 : Int) (b0_0 : Int) (b0_1 : List ByteArray) (b0_2 : List Wr) (b0_3 : Bool) (b0_4 : Int) (b0_5 : Int) (b0_6 : Int) (b0_7 : Int) (b0_8 : Int) (b0_9 : Int) (b0_10 : Int) (b0_11 : Int) (b0_12 : Int) (b0_13 : List Pr2) (b0_14 : List Stt) (b0_15 : List ByteArray) (b1_0 : List Pr2) : Nat := ((b0_14.length : Int) - v5).toNat + 1
noncomputable def J0 {R : Type}  (NX : ((Int) × (Int) × (List ByteArray) × (List Wr) × (Bool) × (Int) × (Int) × (Int) × (Int) × (Int) × (Int) × (Int) × (Int) × (Int) × (List Pr2) × (List Stt) × (List ByteArray) × (List Pr2) × Unit) → Option R) (X2 : (Unit) → Option R) (X1 : ((Bool) × Unit) → Option R) (v5 : Int) (b0_0 : Int) (b0_1 : List ByteArray) (b0_2 : List Wr) (b0_3 : Bool) (b0_4 : Int) (b0_5 : Int) (b0_6 : Int) (b0_7 : Int) (b0_8 : Int) (b0_9 : Int) (b0_10 : Int) (b0_11 : Int) (b0_12 : Int) (b0_13 : List Pr2) (b0_14 : List Stt) (b0_15 : List ByteArray) (b1_0 : List Pr2) : Option R :=
 bif decide (v5 < nI b0_14.length) then bif decide (0 ≤ v5) then bif decide (v5 < nI b0_14.length) then ((Lv (b0_14.getD v5.toNat ([], ())) (b1_0, ())).bind fun val => some ((val, ()), ())).bind fun val => bif val.1.1 then X1 (true, ()) else NX (IntKind.i64.wrap (v5 + 1), b0_0, b0_1, b0_2, b0_3, b0_4, b0_5, b0_6, b0_7, b0_8, b0_9, b0_10, b0_11, b0_12, b0_13, b0_14, b0_15, b1_0, ()) else none else none else X2 PUnit.unit
noncomputable def D6 : Nat → (Int) → (Int) → (List ByteArray) → (List Wr) → (Bool) → (Int) → (Int) → (Int) → (Int) → (Int) → (Int) → (Int) → (Int) → (Int) → (List Pr2) → (List Stt) → (List ByteArray) → (List Pr2) →  Option ((Unit) ⊕ ((Bool) × Unit))
 | 0, _, _, _, _, _, _, _, _, _, _, _, _, _, _, _, _, _, _ => none
 | m + 1, v5, b0_0, b0_1, b0_2, b0_3, b0_4, b0_5, b0_6, b0_7, b0_8, b0_9, b0_10, b0_11, b0_12, b0_13, b0_14, b0_15, b1_0 => J0  (fun d => D6 m d.1 d.2.1 d.2.2.1 d.2.2.2.1 d.2.2.2.2.1 d.2.2.2.2.2.1 d.2.2.2.2.2.2.1 d.2.2.2.2.2.2.2.1 d.2.2.2.2.2.2.2.2.1 d.2.2.2.2.2.2.2.2.2.1 d.2.2.2.2.2.2.2.2.2.2.1 d.2.2.2.2.2.2.2.2.2.2.2.1 d.2.2.2.2.2.2.2.2.2.2.2.2.1 d.2.2.2.2.2.2.2.2.2.2.2.2.2.1 d.2.2.2.2.2.2.2.2.2.2.2.2.2.2.1 d.2.2.2.2.2.2.2.2.2.2.2.2.2.2.2.1 d.2.2.2.2.2.2.2.2.2.2.2.2.2.2.2.2.1 d.2.2.2.2.2.2.2.2.2.2.2.2.2.2.2.2.2.1) (fun d => some (.inl (d))) (fun d => some (.inr (d))) v5 b0_0 b0_1 b0_2 b0_3 b0_4 b0_5 b0_6 b0_7 b0_8 b0_9 b0_10 b0_11 b0_12 b0_13 b0_14 b0_15 b1_0
noncomputable def Uv (a0 : Wld) : Option ((((Bool) × Unit) × (Unit))) :=
 bif (Jl a0).2 != 0 then some ((false, ()), ()) else ((fun d => D6 (Jz d.1 d.2.1 d.2.2.1 d.2.2.2.1 d.2.2.2.2.1 d.2.2.2.2.2.1 d.2.2.2.2.2.2.1 d.2.2.2.2.2.2.2.1 d.2.2.2.2.2.2.2.2.1 d.2.2.2.2.2.2.2.2.2.1 d.2.2.2.2.2.2.2.2.2.2.1 d.2.2.2.2.2.2.2.2.2.2.2.1 d.2.2.2.2.2.2.2.2.2.2.2.2.1 d.2.2.2.2.2.2.2.2.2.2.2.2.2.1 d.2.2.2.2.2.2.2.2.2.2.2.2.2.2.1 d.2.2.2.2.2.2.2.2.2.2.2.2.2.2.2.1 d.2.2.2.2.2.2.2.2.2.2.2.2.2.2.2.2.1 d.2.2.2.2.2.2.2.2.2.2.2.2.2.2.2.2.2.1) d.1 d.2.1 d.2.2.1 d.2.2.2.1 d.2.2.2.2.1 d.2.2.2.2.2.1 d.2.2.2.2.2.2.1 d.2.2.2.2.2.2.2.1 d.2.2.2.2.2.2.2.2.1 d.2.2.2.2.2.2.2.2.2.1 d.2.2.2.2.2.2.2.2.2.2.1 d.2.2.2.2.2.2.2.2.2.2.2.1 d.2.2.2.2.2.2.2.2.2.2.2.2.1 d.2.2.2.2.2.2.2.2.2.2.2.2.2.1 d.2.2.2.2.2.2.2.2.2.2.2.2.2.2.1 d.2.2.2.2.2.2.2.2.2.2.2.2.2.2.2.1 d.2.2.2.2.2.2.2.2.2.2.2.2.2.2.2.2.1 d.2.2.2.2.2.2.2.2.2.2.2.2.2.2.2.2.2.1) (0, a0.1, a0.2.1.1, a0.2.1.2.1, a0.2.2.1, a0.2.2.2.1.1, a0.2.2.2.1.2.1, a0.2.2.2.1.2.2.1, a0.2.2.2.1.2.2.2.1.1, a0.2.2.2.1.2.2.2.1.2.1, a0.2.2.2.1.2.2.2.1.2.2.1, a0.2.2.2.1.2.2.2.1.2.2.2.1, a0.2.2.2.1.2.2.2.2.1, a0.2.2.2.1.2.2.2.2.2.1, a0.2.2.2.1.2.2.2.2.2.2.1.1, a0.2.2.2.2.1, a0.2.2.2.2.2.1, (Jl a0).1)).bind fun val => Be (fun val => some ((false, ()), ())) (fun val => some (val, ())) val
theorem Apg (a0 : Wld) : Uv a0 = some (((N2 a0), ()), (())) := by
 unfold Uv N2 Asq
 show (bif (Ew a0).2 != 0 then _ else _) = _
 cases hc : (Ew a0).2 != 0 with
 | true => rfl
 | false =>
  simp only [cond_false]
  have hv := Ahs hc
  have hP := (Asn hv).2.2
  have hL := Amn (xs := a0.2.2.2.2.1) Ys (fun p => P5 p (Ew a0).1) (g := fun m i => D6 m i a0.1 a0.2.1.1 a0.2.1.2.1 a0.2.2.1 a0.2.2.2.1.1 a0.2.2.2.1.2.1 a0.2.2.2.1.2.2.1 a0.2.2.2.1.2.2.2.1.1 a0.2.2.2.1.2.2.2.1.2.1 a0.2.2.2.1.2.2.2.1.2.2.1 a0.2.2.2.1.2.2.2.1.2.2.2.1 a0.2.2.2.1.2.2.2.2.1 a0.2.2.2.1.2.2.2.2.2.1 a0.2.2.2.1.2.2.2.2.2.2.1.1 a0.2.2.2.2.1 a0.2.2.2.2.2.1 (Ew a0).1.1) (ok := .inl ()) (bad := .inr (true, ())) (fun m i hi => by
   show D6 (m + 1) i a0.1 a0.2.1.1 a0.2.1.2.1 a0.2.2.1 a0.2.2.2.1.1 a0.2.2.2.1.2.1 a0.2.2.2.1.2.2.1 a0.2.2.2.1.2.2.2.1.1 a0.2.2.2.1.2.2.2.1.2.1 a0.2.2.2.1.2.2.2.1.2.2.1 a0.2.2.2.1.2.2.2.1.2.2.2.1 a0.2.2.2.1.2.2.2.2.1 a0.2.2.2.1.2.2.2.2.2.1 a0.2.2.2.1.2.2.2.2.2.2.1.1 a0.2.2.2.2.1 a0.2.2.2.2.2.1 (Ew a0).1.1 = _
   simp only [D6, J0]
   have e1 : Lv (a0.2.2.2.2.1.getD i Ys) ((Ew a0).1.1, ()) = some (P5 (a0.2.2.2.2.1.getD i Ys) (Ew a0).1) := if_pos (Nat.le_trans (D2 (Amm hv hi)) (by decide))
   rw [Mg hi, Fh, wI (by omega)]
   simp only [cond_true, Int.toNat_natCast]
   refine (congrArg (fun q => Option.bind (Option.bind q _) _) e1).trans ?_
   cases P5 (a0.2.2.2.2.1.getD i Ys) (Ew a0).1 <;> rfl) (fun m => by
   show D6 (m + 1) (a0.2.2.2.2.1.length : Int) a0.1 a0.2.1.1 a0.2.1.2.1 a0.2.2.1 a0.2.2.2.1.1 a0.2.2.2.1.2.1 a0.2.2.2.1.2.2.1 a0.2.2.2.1.2.2.2.1.1 a0.2.2.2.1.2.2.2.1.2.1 a0.2.2.2.1.2.2.2.1.2.2.1 a0.2.2.2.1.2.2.2.1.2.2.2.1 a0.2.2.2.1.2.2.2.2.1 a0.2.2.2.1.2.2.2.2.2.1 a0.2.2.2.1.2.2.2.2.2.2.1.1 a0.2.2.2.2.1 a0.2.2.2.2.2.1 (Ew a0).1.1 = _
   simp only [D6, J0]
   rw [Hx]
   rfl) (Jz 0 a0.1 a0.2.1.1 a0.2.1.2.1 a0.2.2.1 a0.2.2.2.1.1 a0.2.2.2.1.2.1 a0.2.2.2.1.2.2.1 a0.2.2.2.1.2.2.2.1.1 a0.2.2.2.1.2.2.2.1.2.1 a0.2.2.2.1.2.2.2.1.2.2.1 a0.2.2.2.1.2.2.2.1.2.2.2.1 a0.2.2.2.1.2.2.2.2.1 a0.2.2.2.1.2.2.2.2.2.1 a0.2.2.2.1.2.2.2.2.2.2.1.1 a0.2.2.2.2.1 a0.2.2.2.2.2.1 (Ew a0).1.1) 0 (by omega) (by simp [Jz, nI])
  refine Nl hL ?_
  rw [List.drop_zero]
  cases a0.2.2.2.2.1.any (fun p => P5 p (Ew a0).1) <;> rfl
noncomputable def Ya {R : Type} (k : Kt R) := (Be (Hw (pa_spec_Right 6) (.exit 0) 2 k) (Hw (pa_spec_Right 6) .ret 1 k))
noncomputable def Adt {R : Type} : Lt R pa_spec_Right := (D5 (pat := pa_spec_Right) 6 (fun d k => (D6 (Jz d.1 d.2.1 d.2.2.1 d.2.2.2.1 d.2.2.2.2.1 d.2.2.2.2.2.1 d.2.2.2.2.2.2.1 d.2.2.2.2.2.2.2.1 d.2.2.2.2.2.2.2.2.1 d.2.2.2.2.2.2.2.2.2.1 d.2.2.2.2.2.2.2.2.2.2.1 d.2.2.2.2.2.2.2.2.2.2.2.1 d.2.2.2.2.2.2.2.2.2.2.2.2.1 d.2.2.2.2.2.2.2.2.2.2.2.2.2.1 d.2.2.2.2.2.2.2.2.2.2.2.2.2.2.1 d.2.2.2.2.2.2.2.2.2.2.2.2.2.2.2.1 d.2.2.2.2.2.2.2.2.2.2.2.2.2.2.2.2.1 d.2.2.2.2.2.2.2.2.2.2.2.2.2.2.2.2.2.1) d.1 d.2.1 d.2.2.1 d.2.2.2.1 d.2.2.2.2.1 d.2.2.2.2.2.1 d.2.2.2.2.2.2.1 d.2.2.2.2.2.2.2.1 d.2.2.2.2.2.2.2.2.1 d.2.2.2.2.2.2.2.2.2.1 d.2.2.2.2.2.2.2.2.2.2.1 d.2.2.2.2.2.2.2.2.2.2.2.1 d.2.2.2.2.2.2.2.2.2.2.2.2.1 d.2.2.2.2.2.2.2.2.2.2.2.2.2.1 d.2.2.2.2.2.2.2.2.2.2.2.2.2.2.1 d.2.2.2.2.2.2.2.2.2.2.2.2.2.2.2.1 d.2.2.2.2.2.2.2.2.2.2.2.2.2.2.2.2.1 d.2.2.2.2.2.2.2.2.2.2.2.2.2.2.2.2.2.1).bind (Ya k)) Ff)
theorem x8 : Au Tryz.prog ta_spec_Right := At ⟨Ape, Anq, trivial⟩
theorem Ai2 {R : Type} : Aw Tryz.prog R 27 0 pa_spec_Right Adt co_spec_Right_6 :=
 B1 (cfg := ⟨ta_spec_Right, 0, 27, pa_spec_Right⟩) 6 [] (fun NX X (d : (Int) × (Int) × (List ByteArray) × (List Wr) × (Bool) × (Int) × (Int) × (Int) × (Int) × (Int) × (Int) × (Int) × (Int) × (Int) × (List Pr2) × (List Stt) × (List ByteArray) × (List Pr2) × Unit) => J0  NX (fun e => X (.inl (e))) (fun e => X (.inr (e))) d.1 d.2.1 d.2.2.1 d.2.2.2.1 d.2.2.2.2.1 d.2.2.2.2.2.1 d.2.2.2.2.2.2.1 d.2.2.2.2.2.2.2.1 d.2.2.2.2.2.2.2.2.1 d.2.2.2.2.2.2.2.2.2.1 d.2.2.2.2.2.2.2.2.2.2.1 d.2.2.2.2.2.2.2.2.2.2.2.1 d.2.2.2.2.2.2.2.2.2.2.2.2.1 d.2.2.2.2.2.2.2.2.2.2.2.2.2.1 d.2.2.2.2.2.2.2.2.2.2.2.2.2.2.1 d.2.2.2.2.2.2.2.2.2.2.2.2.2.2.2.1 d.2.2.2.2.2.2.2.2.2.2.2.2.2.2.2.2.1 d.2.2.2.2.2.2.2.2.2.2.2.2.2.2.2.2.2.1) (fun m d => D6 m d.1 d.2.1 d.2.2.1 d.2.2.2.1 d.2.2.2.2.1 d.2.2.2.2.2.1 d.2.2.2.2.2.2.1 d.2.2.2.2.2.2.2.1 d.2.2.2.2.2.2.2.2.1 d.2.2.2.2.2.2.2.2.2.1 d.2.2.2.2.2.2.2.2.2.2.1 d.2.2.2.2.2.2.2.2.2.2.2.1 d.2.2.2.2.2.2.2.2.2.2.2.2.1 d.2.2.2.2.2.2.2.2.2.2.2.2.2.1 d.2.2.2.2.2.2.2.2.2.2.2.2.2.2.1 d.2.2.2.2.2.2.2.2.2.2.2.2.2.2.2.1 d.2.2.2.2.2.2.2.2.2.2.2.2.2.2.2.2.1 d.2.2.2.2.2.2.2.2.2.2.2.2.2.2.2.2.2.1) (fun d => Jz d.1 d.2.1 d.2.2.1 d.2.2.2.1 d.2.2.2.2.1 d.2.2.2.2.2.1 d.2.2.2.2.2.2.1 d.2.2.2.2.2.2.2.1 d.2.2.2.2.2.2.2.2.1 d.2.2.2.2.2.2.2.2.2.1 d.2.2.2.2.2.2.2.2.2.2.1 d.2.2.2.2.2.2.2.2.2.2.2.1 d.2.2.2.2.2.2.2.2.2.2.2.2.1 d.2.2.2.2.2.2.2.2.2.2.2.2.2.1 d.2.2.2.2.2.2.2.2.2.2.2.2.2.2.1 d.2.2.2.2.2.2.2.2.2.2.2.2.2.2.2.1 d.2.2.2.2.2.2.2.2.2.2.2.2.2.2.2.2.1 d.2.2.2.2.2.2.2.2.2.2.2.2.2.2.2.2.2.1) Ya x8 trivial (fun f NX (d : (Int) × (Int) × (List ByteArray) × (List Wr) × (Bool) × (Int) × (Int) × (Int) × (Int) × (Int) × (Int) × (Int) × (Int) × (Int) × (List Pr2) × (List Stt) × (List ByteArray) × (List Pr2) × Unit) => by unfold J0; simp only [Aj, Ap, Ai, Option.bind_assoc, Option.bind_none, Option.bind_some]) (fun _ _ _ => by kernel_rfl)
theorem Aph : Bf Tryz.prog 35 sd_spec_Right :=
 Ar (pat := pa_spec_Right) [co_spec_Right_6] Adt x8 ⟨Ai2, trivial⟩ Tryz.func35 (de := fun x => Uv x.1) (fun x r h => (Apg x.1).trans h) fun _ => by kernel_rfl
def x9 (a : Rt) : Option Rt := toM yRt a
def Anr : Sig := ⟨[.rd yRt], [some 4], [.rd yRt], [some 4]⟩
noncomputable def sd_laws_toRoot : SD := ⟨Anr, fun x => (x9 x.1).bind fun r => some ((r, ()), (()))⟩
noncomputable def c9 (a0 : Rt) : Option (((Rt × Unit) × (Unit))) :=
 some ((a0, ()), ())
theorem Ans (a0 : Rt) r (h : x9 a0 = some r) : c9 a0 = some ((r, ()), (())) := by
 obtain ⟨hc, rfl⟩ := Ko (t := yRt) h
 ·rfl
theorem Ant : Bf Tryz.prog 85 sd_laws_toRoot :=
 Ar (pat := Ci) [] Ff (At (l := []) trivial) trivial Tryz.func85 (de := fun x => c9 x.1) (fun x r h => A3 (Ans x.1) h) fun _ => by kernel_rfl
def y5 (a : Pr2) : Option Pr2 := toM Ak a
def Anu : Sig := ⟨[.rd Ak], [some 2], [.rd Ak], [some 2]⟩
noncomputable def sd_laws_toPair : SD := ⟨Anu, fun x => (y5 x.1).bind fun r => some ((r, ()), (()))⟩
noncomputable def d5 (a0 : Pr2) : Option (((Pr2 × Unit) × (Unit))) :=
 some ((a0, ()), ())
theorem Anv (a0 : Pr2) r (h : y5 a0 = some r) : d5 a0 = some ((r, ()), (())) := by
 obtain ⟨hc, rfl⟩ := Ko (t := Ak) h
 ·rfl
theorem Anw : Bf Tryz.prog 208 sd_laws_toPair :=
 Ar (pat := Ci) [] Ff (At (l := []) trivial) trivial Tryz.func208 (de := fun x => d5 x.1) (fun x r h => A3 (Anv x.1) h) fun _ => by kernel_rfl
end Go.Proofs.YteaoabdlcefkhaaGreat.V

