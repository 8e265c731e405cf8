/- What the functions that FnExactRight reaches come to: part 2. No condition. -/
import Derived.Test.YteaoabdlcefkhaaGreatVFnExactRighta
import Derived.KernelRfl
namespace Go.Proofs.YteaoabdlcefkhaaGreat.V
open Go Go.Proofs.YteaoabdlcefkhaaGreat.R Go.Proofs
set_option maxRecDepth 100000
set_option linter.unusedVariables false
set_option linter.unusedSimpArgs false
def N3 (a : List Pr2) : Option (List Pr2) := toM (.sl Ak) a
def Ai3 : Sig := ⟨[.rd (.sl Ak)], [none], [.own 167 Ak], [none]⟩
noncomputable def sd_laws_toPairS : SD := ⟨Ai3, fun x => (N3 x.1).bind fun r => some ((r, ()), (()))⟩
noncomputable def ta_laws_toPairS : Tb := tb [(208, sd_laws_toPair)]
def pa_laws_toPairS : Nat → Pat × (Nat → Pat) := Fj [(4, ⟨[.sl 0 0 Ak, .row 3 0 167 Ak], [(0, .lf (.d (.sl Ak))), (3, .lf (.row 0)), (4, .lf (.d tI))], [.row 167 Ak]⟩, [(2, ⟨[.row 3 0 167 Ak], [(3, .lf (.row 0))], [.row 167 Ak]⟩)])]
noncomputable def co_laws_toPairS_4 : Code := (Ao (A4 Tryz.f167)).getD 0 .skip
def E4 (v0 : List Pr2) (v4 : Int) (r0 : List Pr2) : Nat := ((v0.length : Int) - v4).toNat + 1
noncomputable def Ih {R : Type}  (NX : ((List Pr2) × (Int) × (List Pr2) × Unit) → Option R) (X2 : Stt → Option R) (v0 : List Pr2) (v4 : Int) (r0 : List Pr2) : Option R :=
 bif decide (v4 < nI v0.length) then bif decide (0 ≤ v4) then bif decide (v4 < nI v0.length) then bif decide (0 ≤ v4) then bif decide (v4 < nI r0.length) then bif decide (v4.toNat < r0.length) then NX (v0, IntKind.i64.wrap (v4 + 1), r0.set v4.toNat (v0.getD v4.toNat (ByteArray.mk #[], ByteArray.mk #[], ())), ()) else none else none else none else none else none else X2 (r0, ())
noncomputable def Ce : Nat → (List Pr2) → (Int) → (List Pr2) →  Option Stt
 | 0, _, _, _ => none
 | m + 1, v0, v4, r0 => Ih  (fun d => Ce m d.1 d.2.1 d.2.2.1) (fun d => some (d)) v0 v4 r0
noncomputable def Qr (a0 : List Pr2) : Option ((Stt × (Unit))) :=
 bif decide (nI a0.length = nI a0.length) then bif decide ((nI a0.length).toNat * 32 ≤ 140737488355328) then ((fun d => Ce (E4 d.1 d.2.1 d.2.2.1) d.1 d.2.1 d.2.2.1) (a0, 0, List.replicate (nI a0.length).toNat (ByteArray.mk #[], ByteArray.mk #[], ()), ())).bind fun val => some (val, ()) else none else none
theorem Ai4 (a0 : List Pr2) r (h : N3 a0 = some r) : Qr a0 = some ((r, ()), (())) := by
 obtain ⟨hc, rfl⟩ := Ko (t := .sl Ak) h
 obtain ⟨hl0, hall⟩ := l3 hc
 have hl : a0.length ≤ 1048576 := hl0
 clear hl0 hc h
 ·unfold Qr
  have e : Int.toNat (nI a0.length) = a0.length := by simp [nI]
  have hL := Acx (xs := a0) ((ByteArray.mk #[]), (ByteArray.mk #[]), ()) (g := fun m i r => Ce m a0 i r) (ok := fun r => (r, ())) (fun m i r hi hr => by
   show Ce (m + 1) a0 i r = _
   simp only [Ce, Ih]
   have hir : i < r.length := by omega
   rw [Mg hi, Fh, Mg hir, wI (by omega)]
   simp only [cond_true, Int.toNat_natCast]
   rw [A28 hir]
   rfl) (fun m r => by
   show Ce (m + 1) a0 a0.length r = _
   simp only [Ce, Ih]
   rw [Hx]
   rfl) (E4 a0 0 (List.replicate a0.length ((ByteArray.mk #[]), (ByteArray.mk #[]), ()))) 0 (List.replicate a0.length ((ByteArray.mk #[]), (ByteArray.mk #[]), ())) (by omega) (by simp [E4]) (by simp)
  have c1 : decide (Int.toNat (nI a0.length) * 32 ≤ 140737488355328) = true := by rw [e]; simp; omega
  rw [c1, decide_eq_true rfl, e]
  have hL' : Ce (E4 a0 0 (List.replicate a0.length ((ByteArray.mk #[]), (ByteArray.mk #[]), ()))) a0 0 (List.replicate a0.length ((ByteArray.mk #[]), (ByteArray.mk #[]), ())) = _ := hL
  show (Ce (E4 a0 0 (List.replicate a0.length ((ByteArray.mk #[]), (ByteArray.mk #[]), ()))) a0 0 (List.replicate a0.length ((ByteArray.mk #[]), (ByteArray.mk #[]), ()))).bind _ = _
  rw [hL']
  rfl
noncomputable def T6 {R : Type} (k : Kt R) := (Hw (pa_laws_toPairS 4) (.exit 0) 2 k)
noncomputable def d6 {R : Type} : Lt R pa_laws_toPairS := (D5 (pat := pa_laws_toPairS) 4 (fun d k => (Ce (E4 d.1 d.2.1 d.2.2.1) d.1 d.2.1 d.2.2.1).bind (T6 k)) Ff)
theorem Yb : Au Tryz.prog ta_laws_toPairS := At ⟨Anw, trivial⟩
theorem Adu {R : Type} : Aw Tryz.prog R 23 0 pa_laws_toPairS d6 co_laws_toPairS_4 :=
 B1 (cfg := ⟨ta_laws_toPairS, 0, 23, pa_laws_toPairS⟩) 4 [] (fun NX X d => Ih  NX X d.1 d.2.1 d.2.2.1) (fun m d => Ce m d.1 d.2.1 d.2.2.1) (fun d => E4 d.1 d.2.1 d.2.2.1) T6 Yb trivial (fun f NX d => by unfold Ih; simp only [Aj, Ap, Ai, Option.bind_assoc, Option.bind_none, Option.bind_some]) (fun _ _ _ => by kernel_rfl)
theorem Ai5 : Bf Tryz.prog 167 sd_laws_toPairS :=
 Ar (pat := pa_laws_toPairS) [co_laws_toPairS_4] d6 Yb ⟨Adu, trivial⟩ Tryz.func167 (de := fun x => Qr x.1) (fun x r h => A3 (Ai4 x.1) h) fun _ => by kernel_rfl
def Ho (a : Stt) : Option Stt := toM Bd a
def Ai6 : Sig := ⟨[.rd Bd], [some 1], [.own 167 Ak], [some 1]⟩
noncomputable def sd_laws_toState : SD := ⟨Ai6, fun x => (Ho x.1).bind fun r => some ((r.1, ()), (()))⟩
noncomputable def Qs (a0 : Stt) : Option ((Stt × (Unit))) :=
 ((N3 a0.1).bind fun val => some ((val, ()), ())).bind fun val => some val
theorem Ai7 (a0 : Stt) r (h : Ho a0 = some r) : Qs a0 = some ((r.1, ()), (())) := by
 obtain ⟨hc, rfl⟩ := Ko (t := Bd) h
 ·obtain ⟨s0, _⟩ : D0 (.sl Ak) a0.1 = true ∧ True := by
   have s := hc
   obtain ⟨h0, s⟩ := Cz s
   exact ⟨h0, trivial⟩
  unfold Qs
  have e0 : N3 a0.1 = some a0.1 := Up (t := (.sl Ak)) s0
  simp only [e0]
  rfl
theorem Yc : Bf Tryz.prog 86 sd_laws_toState :=
 Ar (pat := Ci) [] Ff (At (l := [(167, sd_laws_toPairS)]) ⟨Ai5, trivial⟩) trivial Tryz.func86 (de := fun x => Qs x.1) (fun x r h => A3 (Ai7 x.1) h) fun _ => by kernel_rfl
def N4 (a : Sto) : Option Sto := toM Il a
def Ai8 : Sig := ⟨[.rd Il], [some 10], [.rd tI, .rd tI, .rd tI, .rd tI, .rd tI, .rd tI, .rd tI, .rd tI, .rd tI, .own 167 Ak], [some 10]⟩
noncomputable def sd_laws_toStore : SD := ⟨Ai8, fun x => (N4 x.1).bind fun r => some ((r.1, r.2.1, r.2.2.1, r.2.2.2.1.1, r.2.2.2.1.2.1, r.2.2.2.1.2.2.1, r.2.2.2.1.2.2.2.1, r.2.2.2.2.1, r.2.2.2.2.2.1, r.2.2.2.2.2.2.1.1, ()), (()))⟩
noncomputable def Qt (a0 : Sto) : Option ((((Int) × (Int) × (Int) × (Int) × (Int) × (Int) × (Int) × (Int) × (Int) × (List Pr2) × Unit) × (Unit))) :=
 ((Ho a0.2.2.2.2.2.2.1).bind fun val => some (val, ())).bind fun val => some ((a0.1, a0.2.1, a0.2.2.1, a0.2.2.2.1.1, a0.2.2.2.1.2.1, a0.2.2.2.1.2.2.1, a0.2.2.2.1.2.2.2.1, a0.2.2.2.2.1, a0.2.2.2.2.2.1, val.1), ())
theorem Ai9 (a0 : Sto) r (h : N4 a0 = some r) : Qt a0 = some ((r.1, r.2.1, r.2.2.1, r.2.2.2.1.1, r.2.2.2.1.2.1, r.2.2.2.1.2.2.1, r.2.2.2.1.2.2.2.1, r.2.2.2.2.1, r.2.2.2.2.2.1, r.2.2.2.2.2.2.1.1, ()), (())) := by
 obtain ⟨hc, rfl⟩ := Ko (t := Il) h
 ·obtain ⟨s0, s1, s2, s3, s4, s5, s6, _⟩ : D0 tI a0.1 = true ∧ D0 tI a0.2.1 = true ∧ D0 tI a0.2.2.1 = true ∧ D0 yRt a0.2.2.2.1 = true ∧ D0 tI a0.2.2.2.2.1 = true ∧ D0 tI a0.2.2.2.2.2.1 = true ∧ D0 Bd a0.2.2.2.2.2.2.1 = true ∧ True := by
   have s := hc
   obtain ⟨h0, s⟩ := Cz s
   obtain ⟨h1, s⟩ := Cz s
   obtain ⟨h2, s⟩ := Cz s
   obtain ⟨h3, s⟩ := Cz s
   obtain ⟨h4, s⟩ := Cz s
   obtain ⟨h5, s⟩ := Cz s
   obtain ⟨h6, s⟩ := Cz s
   exact ⟨h0, h1, h2, h3, h4, h5, h6, trivial⟩
  unfold Qt
  have e6 : Ho a0.2.2.2.2.2.2.1 = some a0.2.2.2.2.2.2.1 := Up (t := Bd) s6
  simp only [e6]
  rfl
theorem Aja : Bf Tryz.prog 18 sd_laws_toStore :=
 Ar (pat := Ci) [] Ff (At (l := [(85, sd_laws_toRoot), (86, sd_laws_toState)]) ⟨Ant, Yc, trivial⟩) trivial Tryz.func18 (de := fun x => Qt x.1) (fun x r h => A3 (Ai9 x.1) h) fun _ => by kernel_rfl
def G5 (a : List ByteArray) : Option (List ByteArray) := toM (.sl .str) a
def Adv : Sig := ⟨[.rd (.sl .str)], [none], [.own 9 .str], [none]⟩
noncomputable def sd_laws_toStringS : SD := ⟨Adv, fun x => (G5 x.1).bind fun r => some ((r, ()), (()))⟩
noncomputable def ta_laws_toStringS : Tb := tb []
def pa_laws_toStringS : Nat → Pat × (Nat → Pat) := Fj [(4, ⟨[.sl 0 0 .str, .row 3 0 9 .str], [(0, .lf (.d (.sl .str))), (3, .lf (.row 0)), (4, .lf (.d tI))], [.row 9 .str]⟩, [(2, ⟨[.row 3 0 9 .str], [(3, .lf (.row 0))], [.row 9 .str]⟩)])]
noncomputable def co_laws_toStringS_4 : Code := (Ao (A4 Tryz.f109)).getD 0 .skip
def Dp (v0 : List ByteArray) (v4 : Int) (r0 : List ByteArray) : Nat := ((v0.length : Int) - v4).toNat + 1
noncomputable def Gv {R : Type}  (NX : ((List ByteArray) × (Int) × (List ByteArray) × Unit) → Option R) (X2 : ((List ByteArray) × Unit) → Option R) (v0 : List ByteArray) (v4 : Int) (r0 : List ByteArray) : Option R :=
 bif decide (v4 < nI v0.length) then bif decide (0 ≤ v4) then bif decide (v4 < nI v0.length) then bif decide (0 ≤ v4) then bif decide (v4 < nI r0.length) then bif decide (v4.toNat < r0.length) then NX (v0, IntKind.i64.wrap (v4 + 1), r0.set v4.toNat (v0.getD v4.toNat (ByteArray.mk #[])), ()) else none else none else none else none else none else X2 (r0, ())
noncomputable def Bw : Nat → (List ByteArray) → (Int) → (List ByteArray) →  Option ((List ByteArray) × Unit)
 | 0, _, _, _ => none
 | m + 1, v0, v4, r0 => Gv  (fun d => Bw m d.1 d.2.1 d.2.2.1) (fun d => some (d)) v0 v4 r0
noncomputable def N5 (a0 : List ByteArray) : Option ((((List ByteArray) × Unit) × (Unit))) :=
 bif decide (nI a0.length = nI a0.length) then bif decide ((nI a0.length).toNat * 16 ≤ 140737488355328) then ((fun d => Bw (Dp d.1 d.2.1 d.2.2.1) d.1 d.2.1 d.2.2.1) (a0, 0, List.replicate (nI a0.length).toNat (ByteArray.mk #[]), ())).bind fun val => some (val, ()) else none else none
theorem Adw (a0 : List ByteArray) r (h : G5 a0 = some r) : N5 a0 = some ((r, ()), (())) := by
 obtain ⟨hc, rfl⟩ := Ko (t := .sl .str) h
 obtain ⟨hl0, hall⟩ := l3 hc
 have hl : a0.length ≤ 1048576 := hl0
 clear hl0 hc h
 ·unfold N5
  have e : Int.toNat (nI a0.length) = a0.length := by simp [nI]
  have hL := Acx (xs := a0) (ByteArray.mk #[]) (g := fun m i r => Bw m a0 i r) (ok := fun r => (r, ())) (fun m i r hi hr => by
   show Bw (m + 1) a0 i r = _
   simp only [Bw, Gv]
   have hir : i < r.length := by omega
   rw [Mg hi, Fh, Mg hir, wI (by omega)]
   simp only [cond_true, Int.toNat_natCast]
   rw [A28 hir]
   rfl) (fun m r => by
   show Bw (m + 1) a0 a0.length r = _
   simp only [Bw, Gv]
   rw [Hx]
   rfl) (Dp a0 0 (List.replicate a0.length (ByteArray.mk #[]))) 0 (List.replicate a0.length (ByteArray.mk #[])) (by omega) (by simp [Dp]) (by simp)
  have c1 : decide (Int.toNat (nI a0.length) * 16 ≤ 140737488355328) = true := by rw [e]; simp; omega
  rw [c1, decide_eq_true rfl, e]
  have hL' : Bw (Dp a0 0 (List.replicate a0.length (ByteArray.mk #[]))) a0 0 (List.replicate a0.length (ByteArray.mk #[])) = _ := hL
  show (Bw (Dp a0 0 (List.replicate a0.length (ByteArray.mk #[]))) a0 0 (List.replicate a0.length (ByteArray.mk #[]))).bind _ = _
  rw [hL']
  rfl
noncomputable def Q5 {R : Type} (k : Kt R) := (Hw (pa_laws_toStringS 4) (.exit 0) 2 k)
noncomputable def V2 {R : Type} : Lt R pa_laws_toStringS := (D5 (pat := pa_laws_toStringS) 4 (fun d k => (Bw (Dp d.1 d.2.1 d.2.2.1) d.1 d.2.1 d.2.2.1).bind (Q5 k)) Ff)
theorem T7 : Au Tryz.prog ta_laws_toStringS := At trivial
theorem n9 {R : Type} : Aw Tryz.prog R 22 0 pa_laws_toStringS V2 co_laws_toStringS_4 :=
 B1 (cfg := ⟨ta_laws_toStringS, 0, 22, pa_laws_toStringS⟩) 4 [] (fun NX X d => Gv  NX X d.1 d.2.1 d.2.2.1) (fun m d => Bw m d.1 d.2.1 d.2.2.1) (fun d => Dp d.1 d.2.1 d.2.2.1) Q5 T7 trivial (fun f NX d => by unfold Gv; simp only [Aj, Ap, Ai, Option.bind_assoc, Option.bind_none, Option.bind_some]) (fun _ _ _ => by kernel_rfl)
theorem T8 : Bf Tryz.prog 109 sd_laws_toStringS :=
 Ar (pat := pa_laws_toStringS) [co_laws_toStringS_4] V2 T7 ⟨n9, trivial⟩ Tryz.func109 (de := fun x => N5 x.1) (fun x r h => A3 (Adw x.1) h) fun _ => by kernel_rfl
def d7 (a : Wr) : Option Wr := toM Ey a
def Ajb : Sig := ⟨[.rd Ey], [some 2], [.rd Ey], [some 2]⟩
noncomputable def sd_laws_toWrite : SD := ⟨Ajb, fun x => (d7 x.1).bind fun r => some ((r, ()), (()))⟩
noncomputable def Yd (a0 : Wr) : Option (((Wr × Unit) × (Unit))) :=
 some ((a0, ()), ())
theorem Ajc (a0 : Wr) r (h : d7 a0 = some r) : Yd a0 = some ((r, ()), (())) := by
 obtain ⟨hc, rfl⟩ := Ko (t := Ey) h
 ·rfl
theorem Ajd : Bf Tryz.prog 185 sd_laws_toWrite :=
 Ar (pat := Ci) [] Ff (At (l := []) trivial) trivial Tryz.func185 (de := fun x => Yd x.1) (fun x r h => A3 (Ajc x.1) h) fun _ => by kernel_rfl
def L5 (a : List Wr) : Option (List Wr) := toM (.sl Ey) a
def Agb : Sig := ⟨[.rd (.sl Ey)], [none], [.own 182 Ey], [none]⟩
noncomputable def sd_laws_toWriteS : SD := ⟨Agb, fun x => (L5 x.1).bind fun r => some ((r, ()), (()))⟩
noncomputable def ta_laws_toWriteS : Tb := tb [(185, sd_laws_toWrite)]
def pa_laws_toWriteS : Nat → Pat × (Nat → Pat) := Fj [(4, ⟨[.sl 0 0 Ey, .row 3 0 182 Ey], [(0, .lf (.d (.sl Ey))), (3, .lf (.row 0)), (4, .lf (.d tI))], [.row 182 Ey]⟩, [(2, ⟨[.row 3 0 182 Ey], [(3, .lf (.row 0))], [.row 182 Ey]⟩)])]
noncomputable def co_laws_toWriteS_4 : Code := (Ao (A4 Tryz.f110)).getD 0 .skip
def Eg (v0 : List Wr) (v4 : Int) (r0 : List Wr) : Nat := ((v0.length : Int) - v4).toNat + 1
noncomputable def Hp {R : Type}  (NX : ((List Wr) × (Int) × (List Wr) × Unit) → Option R) (X2 : ((List Wr) × Unit) → Option R) (v0 : List Wr) (v4 : Int) (r0 : List Wr) : Option R :=
 bif decide (v4 < nI v0.length) then bif decide (0 ≤ v4) then bif decide (v4 < nI v0.length) then bif decide (0 ≤ v4) then bif decide (v4 < nI r0.length) then bif decide (v4.toNat < r0.length) then NX (v0, IntKind.i64.wrap (v4 + 1), r0.set v4.toNat (v0.getD v4.toNat (0, ByteArray.mk #[], ())), ()) else none else none else none else none else none else X2 (r0, ())
noncomputable def B5 : Nat → (List Wr) → (Int) → (List Wr) →  Option ((List Wr) × Unit)
 | 0, _, _, _ => none
 | m + 1, v0, v4, r0 => Hp  (fun d => B5 m d.1 d.2.1 d.2.2.1) (fun d => some (d)) v0 v4 r0
noncomputable def Pf (a0 : List Wr) : Option ((((List Wr) × Unit) × (Unit))) :=
 bif decide (nI a0.length = nI a0.length) then bif decide ((nI a0.length).toNat * 24 ≤ 140737488355328) then ((fun d => B5 (Eg d.1 d.2.1 d.2.2.1) d.1 d.2.1 d.2.2.1) (a0, 0, List.replicate (nI a0.length).toNat (0, ByteArray.mk #[], ()), ())).bind fun val => some (val, ()) else none else none
theorem Agc (a0 : List Wr) r (h : L5 a0 = some r) : Pf a0 = some ((r, ()), (())) := by
 obtain ⟨hc, rfl⟩ := Ko (t := .sl Ey) h
 obtain ⟨hl0, hall⟩ := l3 hc
 have hl : a0.length ≤ 1048576 := hl0
 clear hl0 hc h
 ·unfold Pf
  have e : Int.toNat (nI a0.length) = a0.length := by simp [nI]
  have hL := Acx (xs := a0) (0, (ByteArray.mk #[]), ()) (g := fun m i r => B5 m a0 i r) (ok := fun r => (r, ())) (fun m i r hi hr => by
   show B5 (m + 1) a0 i r = _
   simp only [B5, Hp]
   have hir : i < r.length := by omega
   rw [Mg hi, Fh, Mg hir, wI (by omega)]
   simp only [cond_true, Int.toNat_natCast]
   rw [A28 hir]
   rfl) (fun m r => by
   show B5 (m + 1) a0 a0.length r = _
   simp only [B5, Hp]
   rw [Hx]
   rfl) (Eg a0 0 (List.replicate a0.length (0, (ByteArray.mk #[]), ()))) 0 (List.replicate a0.length (0, (ByteArray.mk #[]), ())) (by omega) (by simp [Eg]) (by simp)
  have c1 : decide (Int.toNat (nI a0.length) * 24 ≤ 140737488355328) = true := by rw [e]; simp; omega
  rw [c1, decide_eq_true rfl, e]
  have hL' : B5 (Eg a0 0 (List.replicate a0.length (0, (ByteArray.mk #[]), ()))) a0 0 (List.replicate a0.length (0, (ByteArray.mk #[]), ())) = _ := hL
  show (B5 (Eg a0 0 (List.replicate a0.length (0, (ByteArray.mk #[]), ()))) a0 0 (List.replicate a0.length (0, (ByteArray.mk #[]), ()))).bind _ = _
  rw [hL']
  rfl
noncomputable def S0 {R : Type} (k : Kt R) := (Hw (pa_laws_toWriteS 4) (.exit 0) 2 k)
noncomputable def Ye {R : Type} : Lt R pa_laws_toWriteS := (D5 (pat := pa_laws_toWriteS) 4 (fun d k => (B5 (Eg d.1 d.2.1 d.2.2.1) d.1 d.2.1 d.2.2.1).bind (S0 k)) Ff)
theorem V3 : Au Tryz.prog ta_laws_toWriteS := At ⟨Ajd, trivial⟩
theorem Abf {R : Type} : Aw Tryz.prog R 23 0 pa_laws_toWriteS Ye co_laws_toWriteS_4 :=
 B1 (cfg := ⟨ta_laws_toWriteS, 0, 23, pa_laws_toWriteS⟩) 4 [] (fun NX X d => Hp  NX X d.1 d.2.1 d.2.2.1) (fun m d => B5 m d.1 d.2.1 d.2.2.1) (fun d => Eg d.1 d.2.1 d.2.2.1) S0 V3 trivial (fun f NX d => by unfold Hp; simp only [Aj, Ap, Ai, Option.bind_assoc, Option.bind_none, Option.bind_some]) (fun _ _ _ => by kernel_rfl)
theorem Agd : Bf Tryz.prog 110 sd_laws_toWriteS :=
 Ar (pat := pa_laws_toWriteS) [co_laws_toWriteS_4] Ye V3 ⟨Abf, trivial⟩ Tryz.func110 (de := fun x => Pf x.1) (fun x r h => A3 (Agc x.1) h) fun _ => by kernel_rfl
def Py (a : Dk) : Option Dk := toM P3 a
def Anx : Sig := ⟨[.rd P3], [some 2], [.own 9 .str, .own 182 Ey], [some 2]⟩
noncomputable def sd_laws_toDisk : SD := ⟨Anx, fun x => (Py x.1).bind fun r => some ((r.1, r.2.1, ()), (()))⟩
noncomputable def S1 (a0 : Dk) : Option ((Dk × (Unit))) :=
 ((G5 a0.1).bind fun val => some ((val, ()), ())).bind fun val => ((L5 a0.2.1).bind fun val => some ((val, ()), ())).bind fun val_1 => some ((val.1.1, val_1.1), ())
theorem Anz (a0 : Dk) r (h : Py a0 = some r) : S1 a0 = some ((r.1, r.2.1, ()), (())) := by
 obtain ⟨hc, rfl⟩ := Ko (t := P3) h
 ·obtain ⟨s0, s1, _⟩ : D0 (.sl .str) a0.1 = true ∧ D0 (.sl Ey) a0.2.1 = true ∧ True := by
   have s := hc
   obtain ⟨h0, s⟩ := Cz s
   obtain ⟨h1, s⟩ := Cz s
   exact ⟨h0, h1, trivial⟩
  unfold S1
  have e0 : G5 a0.1 = some a0.1 := Up (t := (.sl .str)) s0
  have e1 : L5 a0.2.1 = some a0.2.1 := Up (t := (.sl Ey)) s1
  simp only [e0, e1]
  rfl
theorem An0 : Bf Tryz.prog 30 sd_laws_toDisk :=
 Ar (pat := Ci) [] Ff (At (l := [(109, sd_laws_toStringS), (110, sd_laws_toWriteS)]) ⟨T8, Agd, trivial⟩) trivial Tryz.func30 (de := fun x => S1 x.1) (fun x r h => A3 (Anz x.1) h) fun _ => by kernel_rfl
def L6 (a : List Stt) : Option (List Stt) := toM (.sl Bd) a
def Age : Sig := ⟨[.rd (.sl Bd)], [none], [.rd (.sl Bd)], [none]⟩
noncomputable def sd_laws_toStateS : SD := ⟨Age, fun x => (L6 x.1).bind fun r => some ((r, ()), (()))⟩
noncomputable def ta_laws_toStateS : Tb := tb [(86, sd_laws_toState)]
def pa_laws_toStateS : Nat → Pat × (Nat → Pat) := Fj [(4, ⟨[.sl 0 0 Bd, .row 3 0 31 Bd], [(0, .lf (.d (.sl Bd))), (3, .lf (.row 0)), (4, .lf (.d tI))], [.row 31 Bd]⟩, [(2, ⟨[.row 3 0 31 Bd], [(3, .lf (.row 0))], [.row 31 Bd]⟩)])]
noncomputable def co_laws_toStateS_4 : Code := (Ao (A4 Tryz.f124)).getD 0 .skip
def Eh (v0 : List Stt) (v4 : Int) (r0 : List Stt) : Nat := ((v0.length : Int) - v4).toNat + 1
noncomputable def Hq {R : Type}  (NX : ((List Stt) × (Int) × (List Stt) × Unit) → Option R) (X2 : ((List Stt) × Unit) → Option R) (v0 : List Stt) (v4 : Int) (r0 : List Stt) : Option R :=
 bif decide (v4 < nI v0.length) then bif decide (0 ≤ v4) then bif decide (v4 < nI v0.length) then ((Ho (v0.getD v4.toNat ([], ()))).bind fun val => some (val, ())).bind fun val => bif decide (0 ≤ v4) then bif decide (v4 < nI r0.length) then bif decide (v4.toNat < r0.length) then NX (v0, IntKind.i64.wrap (v4 + 1), r0.set v4.toNat val.1, ()) else none else none else none else none else none else X2 (r0, ())
noncomputable def B6 : Nat → (List Stt) → (Int) → (List Stt) →  Option ((List Stt) × Unit)
 | 0, _, _, _ => none
 | m + 1, v0, v4, r0 => Hq  (fun d => B6 m d.1 d.2.1 d.2.2.1) (fun d => some (d)) v0 v4 r0
noncomputable def Ph (a0 : List Stt) : Option ((((List Stt) × Unit) × (Unit))) :=
 bif decide (nI a0.length = nI a0.length) then bif decide ((nI a0.length).toNat * 24 ≤ 140737488355328) then ((fun d => B6 (Eh d.1 d.2.1 d.2.2.1) d.1 d.2.1 d.2.2.1) (a0, 0, List.replicate (nI a0.length).toNat ([], ()), ())).bind fun val => some (val, ()) else none else none
theorem Agf (a0 : List Stt) r (h : L6 a0 = some r) : Ph a0 = some ((r, ()), (())) := by
 obtain ⟨hc, rfl⟩ := Ko (t := .sl Bd) h
 obtain ⟨hl0, hall⟩ := l3 hc
 have hl : a0.length ≤ 1048576 := hl0
 clear hl0 hc h
 ·unfold Ph
  have e : Int.toNat (nI a0.length) = a0.length := by simp [nI]
  have hL := Acx (xs := a0) ([], ()) (g := fun m i r => B6 m a0 i r) (ok := fun r => (r, ())) (fun m i r hi hr => by
   show B6 (m + 1) a0 i r = _
   simp only [B6, Hq]
   have hir : i < r.length := by omega
   rw [Mg hi, Fh, Mg hir, wI (by omega)]
   simp only [cond_true, Int.toNat_natCast]
   have ec : Ho (List.getD a0 i ([], ())) = some (List.getD a0 i ([], ())) := Up (t := Bd) (x := (List.getD a0 i ([], ()))) (hall _ (Kn _ hi))
   have ec : Ho (List.getD a0 i ([], ())) = some (List.getD a0 i ([], ())) := ec
   rw [ec]
   simp only [Option.bind_some]
   rw [A28 hir]
   rfl) (fun m r => by
   show B6 (m + 1) a0 a0.length r = _
   simp only [B6, Hq]
   rw [Hx]
   rfl) (Eh a0 0 (List.replicate a0.length ([], ()))) 0 (List.replicate a0.length ([], ())) (by omega) (by simp [Eh]) (by simp)
  have c1 : decide (Int.toNat (nI a0.length) * 24 ≤ 140737488355328) = true := by rw [e]; simp; omega
  rw [c1, decide_eq_true rfl, e]
  have hL' : B6 (Eh a0 0 (List.replicate a0.length ([], ()))) a0 0 (List.replicate a0.length ([], ())) = _ := hL
  show (B6 (Eh a0 0 (List.replicate a0.length ([], ()))) a0 0 (List.replicate a0.length ([], ()))).bind _ = _
  rw [hL']
  rfl
noncomputable def S2 {R : Type} (k : Kt R) := (Hw (pa_laws_toStateS 4) (.exit 0) 2 k)
noncomputable def Yf {R : Type} : Lt R pa_laws_toStateS := (D5 (pat := pa_laws_toStateS) 4 (fun d k => (B6 (Eh d.1 d.2.1 d.2.2.1) d.1 d.2.1 d.2.2.1).bind (S2 k)) Ff)
theorem V4 : Au Tryz.prog ta_laws_toStateS := At ⟨Yc, trivial⟩
theorem Abg {R : Type} : Aw Tryz.prog R 23 0 pa_laws_toStateS Yf co_laws_toStateS_4 :=
 B1 (cfg := ⟨ta_laws_toStateS, 0, 23, pa_laws_toStateS⟩) 4 [] (fun NX X d => Hq  NX X d.1 d.2.1 d.2.2.1) (fun m d => B6 m d.1 d.2.1 d.2.2.1) (fun d => Eh d.1 d.2.1 d.2.2.1) S2 V4 trivial (fun f NX d => by unfold Hq; simp only [Aj, Ap, Ai, Option.bind_assoc, Option.bind_none, Option.bind_some]) (fun _ _ _ => by kernel_rfl)
theorem Agg : Bf Tryz.prog 124 sd_laws_toStateS :=
 Ar (pat := pa_laws_toStateS) [co_laws_toStateS_4] Yf V4 ⟨Abg, trivial⟩ Tryz.func124 (de := fun x => Ph x.1) (fun x r h => A3 (Agf x.1) h) fun _ => by kernel_rfl
def I9 (a : Wld) : Option Wld := toM Un a
def Aje : Sig := ⟨[.rd Un], [some 16], [.rd tI, .own 9 .str, .own 182 Ey, .rd .bool, .rd tI, .rd tI, .rd tI, .rd tI, .rd tI, .rd tI, .rd tI, .rd tI, .rd tI, .own 167 Ak, .rd (.sl Bd), .own 9 .str], [some 16]⟩
noncomputable def sd_laws_toWorld : SD := ⟨Aje, fun x => (I9 x.1).bind fun r => some ((r.1, r.2.1.1, r.2.1.2.1, r.2.2.1, r.2.2.2.1.1, r.2.2.2.1.2.1, r.2.2.2.1.2.2.1, r.2.2.2.1.2.2.2.1.1, r.2.2.2.1.2.2.2.1.2.1, r.2.2.2.1.2.2.2.1.2.2.1, r.2.2.2.1.2.2.2.1.2.2.2.1, r.2.2.2.1.2.2.2.2.1, r.2.2.2.1.2.2.2.2.2.1, r.2.2.2.1.2.2.2.2.2.2.1.1, r.2.2.2.2.1, r.2.2.2.2.2.1, ()), (()))⟩
noncomputable def Qu (a0 : Wld) : Option ((((Int) × (List ByteArray) × (List Wr) × (Bool) × (Int) × (Int) × (Int) × (Int) × (Int) × (Int) × (Int) × (Int) × (Int) × (List Pr2) × (List Stt) × (List ByteArray) × Unit) × (Unit))) :=
 ((Py a0.2.1).bind fun val => some (val, ())).bind fun val => ((N4 a0.2.2.2.1).bind fun val => some ((val.1, val.2.1, val.2.2.1, val.2.2.2.1.1, val.2.2.2.1.2.1, val.2.2.2.1.2.2.1, val.2.2.2.1.2.2.2.1, val.2.2.2.2.1, val.2.2.2.2.2.1, val.2.2.2.2.2.2.1), ())).bind fun val_1 => ((L6 a0.2.2.2.2.1).bind fun val => some ((val, ()), ())).bind fun val_2 => ((G5 a0.2.2.2.2.2.1).bind fun val => some ((val, ()), ())).bind fun val_3 => some ((a0.1, val.1.1, val.1.2.1, a0.2.2.1, val_1.1.1, val_1.1.2.1, val_1.1.2.2.1, val_1.1.2.2.2.1, val_1.1.2.2.2.2.1, val_1.1.2.2.2.2.2.1, val_1.1.2.2.2.2.2.2.1, val_1.1.2.2.2.2.2.2.2.1, val_1.1.2.2.2.2.2.2.2.2.1, val_1.1.2.2.2.2.2.2.2.2.2.1, val_2.1.1, val_3.1), ())
theorem Ajf (a0 : Wld) r (h : I9 a0 = some r) : Qu a0 = some ((r.1, r.2.1.1, r.2.1.2.1, r.2.2.1, r.2.2.2.1.1, r.2.2.2.1.2.1, r.2.2.2.1.2.2.1, r.2.2.2.1.2.2.2.1.1, r.2.2.2.1.2.2.2.1.2.1, r.2.2.2.1.2.2.2.1.2.2.1, r.2.2.2.1.2.2.2.1.2.2.2.1, r.2.2.2.1.2.2.2.2.1, r.2.2.2.1.2.2.2.2.2.1, r.2.2.2.1.2.2.2.2.2.2.1.1, r.2.2.2.2.1, r.2.2.2.2.2.1, ()), (())) := by
 obtain ⟨hc, rfl⟩ := Ko (t := Un) h
 ·obtain ⟨s0, s1, s2, s3, s4, s5, _⟩ : D0 tI a0.1 = true ∧ D0 P3 a0.2.1 = true ∧ D0 .bool a0.2.2.1 = true ∧ D0 Il a0.2.2.2.1 = true ∧ D0 (.sl Bd) a0.2.2.2.2.1 = true ∧ D0 (.sl .str) a0.2.2.2.2.2.1 = true ∧ True := by
   have s := hc
   obtain ⟨h0, s⟩ := Cz s
   obtain ⟨h1, s⟩ := Cz s
   obtain ⟨h2, s⟩ := Cz s
   obtain ⟨h3, s⟩ := Cz s
   obtain ⟨h4, s⟩ := Cz s
   obtain ⟨h5, s⟩ := Cz s
   exact ⟨h0, h1, h2, h3, h4, h5, trivial⟩
  unfold Qu
  have e1 : Py a0.2.1 = some a0.2.1 := Up (t := P3) s1
  have e3 : N4 a0.2.2.2.1 = some a0.2.2.2.1 := Up (t := Il) s3
  have e4 : L6 a0.2.2.2.2.1 = some a0.2.2.2.2.1 := Up (t := (.sl Bd)) s4
  have e5 : G5 a0.2.2.2.2.2.1 = some a0.2.2.2.2.2.1 := Up (t := (.sl .str)) s5
  simp only [e1, e3, e4, e5]
  rfl
theorem Ajg : Bf Tryz.prog 36 sd_laws_toWorld :=
 Ar (pat := Ci) [] Ff (At (l := [(18, sd_laws_toStore), (30, sd_laws_toDisk), (109, sd_laws_toStringS), (124, sd_laws_toStateS)]) ⟨Aja, An0, T8, Agg, trivial⟩) trivial Tryz.func36 (de := fun x => Qu x.1) (fun x r h => A3 (Ajf x.1) h) fun _ => by kernel_rfl
def Bh (v lo hi : Int) : Bool := Eo v lo hi
def Axq : Sig := ⟨[.rd tI, .rd tI, .rd tI], [none, none, none], [.rd .bool], [none]⟩
noncomputable def sd_impl_in : SD := ⟨Axq, fun x => some (((Bh x.1 x.2.1 x.2.2.1), ()), (()))⟩
noncomputable def Abh (a0 : Int) (a1 : Int) (a2 : Int) : Option ((((Bool) × Unit) × (Unit))) :=
 bif decide (a0 ≥ a1) then some ((decide (a0 ≤ a2), ()), ()) else some ((false, ()), ())
theorem Axr (a0 a1 a2 : Int) : Abh a0 a1 a2 = some ((Bh a0 a1 a2, ()), ()) := by
 unfold Abh Bh Eo
 by_cases h : a0 ≥ a1
 ·have : decide (a1 ≤ a0) = true := by simpa using h
  simp [h, this]
 ·have : decide (a1 ≤ a0) = false := by simpa using h
  simp [h, this]
theorem Dq : Bf Tryz.prog 112 sd_impl_in :=
 Ar (pat := Ci) [] Ff (At (l := []) trivial) trivial Tryz.func112 (de := fun x => Abh x.1 x.2.1 x.2.2.1) (fun x r h => (Axr x.1 x.2.1 x.2.2.1).trans h) fun _ => by kernel_rfl
def N6 (k : ByteArray) : Bool := M3 k
def Ajh : Sig := ⟨[.rd .str], [none], [.rd .bool], [none]⟩
noncomputable def sd_impl_goodKey : SD := ⟨Ajh, fun x => some (((N6 x.1), ()), (()))⟩
noncomputable def Yg (a0 : ByteArray) : Option ((((Bool) × Unit) × (Unit))) :=
 some ((Bh (nI a0.size) 1 20, ()), ())
theorem Aji (a0 : ByteArray) : Yg a0 = some ((N6 a0, ()), ()) := rfl
theorem Yh : Bf Tryz.prog 169 sd_impl_goodKey :=
 Ar (pat := Ci) [] Ff (At (l := [(112, sd_impl_in)]) ⟨Dq, trivial⟩) trivial Tryz.func169 (de := fun x => Yg x.1) (fun x r h => (Aji x.1).trans h) fun _ => by kernel_rfl
def Gn (b : List Chg) : Bool := Bg b
def Abi : Sig := ⟨[.rd (.sl D8)], [none], [.rd .bool], [none]⟩
noncomputable def sd_impl_ValidBatch : SD := ⟨Abi, fun x => some (((Gn x.1), ()), (()))⟩
noncomputable def ta_impl_ValidBatch : Tb := tb [(112, sd_impl_in), (169, sd_impl_goodKey)]
def pa_impl_ValidBatch : Nat → Pat × (Nat → Pat) := Fj [(5, ⟨[.sl 9 0 D8], [(9, .lf (.d (.sl D8))), (10, .lf (.d tI)), (11, .lf (.d tI))], []⟩, [(2, p0), (1, ⟨[], [(2, .lf (.d .bool))], []⟩)])]
noncomputable def co_impl_ValidBatch_5 : Code := (Ao (A4 Tryz.f89)).getD 0 .skip
def Gb (v9 : List Chg) (v10 : Int) (v11 : Int) : Nat := (v10 - v11).toNat + 1
noncomputable def Gc {R : Type}  (NX : ((List Chg) × (Int) × (Int) × Unit) → Option R) (X2 : (Unit) → Option R) (X1 : ((Bool) × Unit) → Option R) (v9 : List Chg) (v10 : Int) (v11 : Int) : Option R :=
 bif decide (v11 < v10) then bif decide (0 ≤ v11) then bif decide (v11 < nI v9.length) then bif !N6 (v9.getD v11.toNat (ByteArray.mk #[], ByteArray.mk #[], false, ())).1 then X1 (false, ()) else bif decide (nI (ByteArray.size (v9.getD v11.toNat (ByteArray.mk #[], ByteArray.mk #[], false, ())).2.1) > 100) then X1 (false, ()) else bif (v9.getD v11.toNat (ByteArray.mk #[], ByteArray.mk #[], false, ())).2.2.1 then bif !ByteArray.toList (v9.getD v11.toNat (ByteArray.mk #[], ByteArray.mk #[], false, ())).2.1 == (ByteArray.mk #[]).toList then X1 (false, ()) else NX (v9, v10, IntKind.i64.wrap (v11 + 1), ()) else NX (v9, v10, IntKind.i64.wrap (v11 + 1), ()) else none else none else X2 PUnit.unit
noncomputable def Cf : Nat → (List Chg) → (Int) → (Int) →  Option ((Unit) ⊕ ((Bool) × Unit))
 | 0, _, _, _ => none
 | m + 1, v9, v10, v11 => Gc  (fun d => Cf m d.1 d.2.1 d.2.2.1) (fun d => some (.inl (d))) (fun d => some (.inr (d))) v9 v10 v11
noncomputable def Ms (a0 : List Chg) : Option ((((Bool) × Unit) × (Unit))) :=
 bif !Bh (nI a0.length) 1 20 then some ((false, ()), ()) else ((fun d => Cf (Gb d.1 d.2.1 d.2.2.1) d.1 d.2.1 d.2.2.1) (a0, nI a0.length, 0, ())).bind fun val => Be (fun val => some ((true, ()), ())) (fun val => some (val, ())) val
theorem Abj (a0 : List Chg) : Ms a0 = some (((Gn a0), ()), (())) := by
 unfold Ms Gn Bg
 have tl : ByteArray.toList (ByteArray.mk #[]) = [] := by decide +kernel
 show (bif !Eo (a0.length : Int) 1 20 then _ else _) = _
 cases hin : Eo (a0.length : Int) 1 20 with
 | false => rfl
 | true =>
  have hlen : a0.length ≤ 20 := by have := (G4 hin).2; omega
  have hL := Ix (n := a0.length) (fun i => Nk (a0.getD i zC)) (g := fun m i => Cf m a0 (nI a0.length) i) (ok := .inl ()) (bad := .inr (false, ())) (fun m i hi => by
   show Cf (m + 1) a0 (nI a0.length) i = _
   simp only [Cf, Gc]
   rw [tl, Mg hi, Fh, wI (show i < 4611686018427387904 by omega), Int.toNat_natCast]
   have g1 : decide (nI (ByteArray.size (List.getD a0 i (ByteArray.mk #[], ByteArray.mk #[], false, ())).2.1) > 100) = !decide ((a0.getD i zC).2.1.size ≤ 100) := Zj _ 100
   rw [g1]
   show (bif !M3 (a0.getD i zC).1 then _ else (bif _ then _ else (bif (a0.getD i zC).2.2.1 then (bif !((a0.getD i zC).2.1.toList == []) then _ else _) else _))) = _
   unfold Nk
   cases M3 (a0.getD i zC).1 <;> cases decide ((a0.getD i zC).2.1.size ≤ 100) <;> cases (a0.getD i zC).2.2.1 <;> cases ((a0.getD i zC).2.1.toList == []) <;> rfl) (fun m => by
   show Cf (m + 1) a0 (nI a0.length) (a0.length : Int) = _
   simp only [Cf, Gc]
   rw [Hx]
   rfl) (Gb a0 (nI a0.length) 0) 0 (by omega) (by simp [Gb, nI])
  refine Xr hL ?_
  rw [Nat.sub_zero]
  cases (List.range' 0 a0.length).all (fun i => Nk (a0.getD i zC)) <;> rfl
noncomputable def Qa {R : Type} (k : Kt R) := (Be (Hw (pa_impl_ValidBatch 5) (.exit 0) 2 k) (Hw (pa_impl_ValidBatch 5) .ret 1 k))
noncomputable def T9 {R : Type} : Lt R pa_impl_ValidBatch := (D5 (pat := pa_impl_ValidBatch) 5 (fun d k => (Cf (Gb d.1 d.2.1 d.2.2.1) d.1 d.2.1 d.2.2.1).bind (Qa k)) Ff)
theorem S3 : Au Tryz.prog ta_impl_ValidBatch := At ⟨Dq, Yh, trivial⟩
theorem d8 {R : Type} : Aw Tryz.prog R 35 0 pa_impl_ValidBatch T9 co_impl_ValidBatch_5 :=
 B1 (cfg := ⟨ta_impl_ValidBatch, 0, 35, pa_impl_ValidBatch⟩) 5 [] (fun NX X d => Gc  NX (fun e => X (.inl (e))) (fun e => X (.inr (e))) d.1 d.2.1 d.2.2.1) (fun m d => Cf m d.1 d.2.1 d.2.2.1) (fun d => Gb d.1 d.2.1 d.2.2.1) Qa S3 trivial (fun f NX d => by unfold Gc; simp only [Aj, Ap, Ai, Option.bind_assoc, Option.bind_none, Option.bind_some]) (fun _ _ _ => by kernel_rfl)
theorem Mt : Bf Tryz.prog 89 sd_impl_ValidBatch :=
 Ar (pat := pa_impl_ValidBatch) [co_impl_ValidBatch_5] T9 S3 ⟨d8, trivial⟩ Tryz.func89 (de := fun x => Ms x.1) (fun x r h => (Abj x.1).trans h) fun _ => by kernel_rfl
def Dw (s : Stt) : Bool := Aq s
def Abk : Sig := ⟨[.rd Bd], [some 1], [.rd .bool], [none]⟩
noncomputable def sd_impl_ValidState : SD := ⟨Abk, fun x => some (((Dw x.1), ()), (()))⟩
noncomputable def ta_impl_ValidState : Tb := tb [(169, sd_impl_goodKey)]
def pa_impl_ValidState : Nat → Pat × (Nat → Pat) := Fj [(5, ⟨[.sl 10 0 Ak, .boxSl 1 0 Ak], [(1, .lf (.ptr 0 0)), (10, .lf (.d (.sl Ak))), (11, .lf (.d tI)), (12, .lf (.d tI))], [.box 31 [.d (.sl Ak)]]⟩, [(2, p0), (1, ⟨[], [(2, .lf (.d .bool))], []⟩)])]
noncomputable def co_impl_ValidState_5 : Code := (Ao (A4 Tryz.f156)).getD 0 .skip
def C8 (v10 : List Pr2) (v11 : Int) (v12 : Int) (b0_0 : List Pr2) : Nat := (v11 - v12).toNat + 1
noncomputable def Gd {R : Type}  (NX : ((List Pr2) × (Int) × (Int) × (List Pr2) × Unit) → Option R) (X2 : (Unit) → Option R) (X1 : ((Bool) × Unit) → Option R) (v10 : List Pr2) (v11 : Int) (v12 : Int) (b0_0 : List Pr2) : Option R :=
 bif decide (v12 < v11) then bif decide (0 ≤ v12) then bif decide (v12 < nI v10.length) then bif !N6 (v10.getD v12.toNat (ByteArray.mk #[], ByteArray.mk #[], ())).1 then X1 (false, ()) else bif decide (nI (ByteArray.size (v10.getD v12.toNat (ByteArray.mk #[], ByteArray.mk #[], ())).2.1) > 100) then X1 (false, ()) else bif decide (v12 > 0) then bif decide (0 ≤ IntKind.i64.wrap (v12 - 1)) then bif decide (IntKind.i64.wrap (v12 - 1) < nI b0_0.length) then bif !Op.bytesLess (ByteArray.toList (b0_0.getD (IntKind.i64.wrap (v12 - 1)).toNat (ByteArray.mk #[], ByteArray.mk #[], ())).1) (ByteArray.toList (v10.getD v12.toNat (ByteArray.mk #[], ByteArray.mk #[], ())).1) then X1 (false, ()) else NX (v10, v11, IntKind.i64.wrap (v12 + 1), b0_0, ()) else none else none else NX (v10, v11, IntKind.i64.wrap (v12 + 1), b0_0, ()) else none else none else X2 PUnit.unit
noncomputable def Bs : Nat → (List Pr2) → (Int) → (Int) → (List Pr2) →  Option ((Unit) ⊕ ((Bool) × Unit))
 | 0, _, _, _, _ => none
 | m + 1, v10, v11, v12, b0_0 => Gd  (fun d => Bs m d.1 d.2.1 d.2.2.1 d.2.2.2.1) (fun d => some (.inl (d))) (fun d => some (.inr (d))) v10 v11 v12 b0_0
noncomputable def Mu (a0 : Stt) : Option ((((Bool) × Unit) × (Unit))) :=
 bif decide (nI (List.length a0.1) > 100) then some ((false, ()), ()) else ((fun d => Bs (C8 d.1 d.2.1 d.2.2.1 d.2.2.2.1) d.1 d.2.1 d.2.2.1 d.2.2.2.1) (a0.1, nI (List.length a0.1), 0, a0)).bind fun val => Be (fun val => some ((true, ()), ())) (fun val => some (val, ())) val
theorem Abl (a0 : Stt) : Mu a0 = some ((Dw a0, ()), ()) := by
 unfold Mu Dw Aq
 have c1 : decide (nI a0.1.length > 100) = !decide (a0.1.length ≤ 100) := Zj _ 100
 by_cases hl : a0.1.length ≤ 100
 ·have hL := Ix (n := a0.1.length) (Km a0.1) (g := fun m i => Bs m a0.1 (nI a0.1.length) i a0.1) (ok := .inl ()) (bad := .inr (false, ())) (fun m i hi => by
   show Bs (m + 1) a0.1 (nI a0.1.length) i a0.1 = _
   simp only [Bs, Gd]
   have g1 : decide (nI (ByteArray.size (List.getD a0.1 i (ByteArray.mk #[], ByteArray.mk #[], ())).2.1) > 100) = !decide (ByteArray.size (List.getD a0.1 i zP).2.1 ≤ 100) := Zj _ 100
   rw [Mg hi, Fh, wI (show i < 4611686018427387904 by omega), Int.toNat_natCast, gt0, g1]
   simp only [cond_true]
   unfold Km bl
   show (bif !M3 (List.getD a0.1 i zP).1 then _ else _) = _
   cases i with
   | zero =>
    show (bif !M3 (List.getD a0.1 0 zP).1 then _ else bif !decide (ByteArray.size (List.getD a0.1 0 zP).2.1 ≤ 100) then _ else _) = _
    cases M3 (List.getD a0.1 0 zP).1 <;> cases decide (ByteArray.size (List.getD a0.1 0 zP).2.1 ≤ 100) <;> rfl
   | succ j =>
    rw [wP j (by omega), Fh, Mg (show j < a0.1.length by omega)]
    show (bif !M3 (List.getD a0.1 (j + 1) zP).1 then _ else bif !decide (ByteArray.size (List.getD a0.1 (j + 1) zP).2.1 ≤ 100) then _ else bif !Op.bytesLess (ByteArray.toList (List.getD a0.1 j zP).1) (ByteArray.toList (List.getD a0.1 (j + 1) zP).1) then _ else _) = _
    rw [Nat.add_sub_cancel]
    cases M3 (List.getD a0.1 (j + 1) zP).1 <;> cases decide (ByteArray.size (List.getD a0.1 (j + 1) zP).2.1 ≤ 100) <;> cases Op.bytesLess (ByteArray.toList (List.getD a0.1 j zP).1) (ByteArray.toList (List.getD a0.1 (j + 1) zP).1) <;> rfl) (fun m => by
   show Bs (m + 1) a0.1 (nI a0.1.length) (a0.1.length : Int) a0.1 = _
   simp only [Bs, Gd]
   rw [Hx]
   rfl) (C8 a0.1 (nI a0.1.length) 0 a0.1) 0 (by omega) (by simp [C8, nI])
  have hL' : Bs (C8 a0.1 (nI a0.1.length) 0 a0.1) a0.1 (nI a0.1.length) 0 a0.1 = _ := hL
  rw [c1, decide_eq_true hl]
  show (Bs (C8 a0.1 (nI a0.1.length) 0 a0.1) a0.1 (nI a0.1.length) 0 a0.1).bind _ = _
  rw [hL']
  cases (List.range' 0 (a0.1.length - 0)).all (Km a0.1) <;> rfl
 ·rw [c1, decide_eq_false hl]
  rfl
noncomputable def Qb {R : Type} (k : Kt R) := (Be (Hw (pa_impl_ValidState 5) (.exit 0) 2 k) (Hw (pa_impl_ValidState 5) .ret 1 k))
noncomputable def Ua {R : Type} : Lt R pa_impl_ValidState := (D5 (pat := pa_impl_ValidState) 5 (fun d k => (Bs (C8 d.1 d.2.1 d.2.2.1 d.2.2.2.1) d.1 d.2.1 d.2.2.1 d.2.2.2.1).bind (Qb k)) Ff)
theorem S4 : Au Tryz.prog ta_impl_ValidState := At ⟨Yh, trivial⟩
theorem d9 {R : Type} : Aw Tryz.prog R 44 0 pa_impl_ValidState Ua co_impl_ValidState_5 :=
 B1 (cfg := ⟨ta_impl_ValidState, 0, 44, pa_impl_ValidState⟩) 5 [] (fun NX X d => Gd  NX (fun e => X (.inl (e))) (fun e => X (.inr (e))) d.1 d.2.1 d.2.2.1 d.2.2.2.1) (fun m d => Bs m d.1 d.2.1 d.2.2.1 d.2.2.2.1) (fun d => C8 d.1 d.2.1 d.2.2.1 d.2.2.2.1) Qb S4 trivial (fun f NX d => by unfold Gd; simp only [Aj, Ap, Ai, Option.bind_assoc, Option.bind_none, Option.bind_some]) (fun _ _ _ => by kernel_rfl)
theorem Jm : Bf Tryz.prog 156 sd_impl_ValidState :=
 Ar (pat := pa_impl_ValidState) [co_impl_ValidState_5] Ua S4 ⟨d9, trivial⟩ Tryz.func156 (de := fun x => Mu x.1) (fun x r h => (Abl x.1).trans h) fun _ => by kernel_rfl
def Jn (s : Stt) (b : List Chg) : Stt × Int := Nn s b
def Api : Sig := ⟨[.rd Bd, .rd (.sl D8)], [some 1, none], [.own 167 Ak, .rd tI], [some 1, none]⟩
noncomputable def sd_impl_Apply : SD := ⟨Api, fun x => some (((Jn x.1 x.2.1).1.1, (Jn x.1 x.2.1).2, ()), (()))⟩
noncomputable def Pz : Tb := ⟨tbF [(89, sd_impl_ValidBatch), (156, sd_impl_ValidState)], fun _ => none, none, none, some (170, 171, 31, 29, 167)⟩
def pa_impl_Apply : Nat → Pat × (Nat → Pat) := Fj [(6, ⟨[.sl 1 0 D8, .sl 25 0 Ak, .boxRow 4 0 167 Ak], [(1, .lf (.d (.sl D8))), (4, .lf (.ptr 0 0)), (6, .lf (.row 1)), (25, .lf (.d (.sl Ak))), (26, .lf (.d tI)), (27, .lf (.d tI))], [.box 31 [.row 2], .map .str, .row 167 Ak]⟩, [(2, ⟨[.sl 1 0 D8, .boxRow 4 0 167 Ak], [(1, .lf (.d (.sl D8))), (4, .lf (.ptr 0 0)), (6, .lf (.row 1))], [.box 31 [.row 2], .map .str, .row 167 Ak]⟩)]), (11, ⟨[.sl 37 0 D8, .boxRow 4 0 167 Ak], [(4, .lf (.ptr 0 0)), (6, .lf (.row 1)), (37, .lf (.d (.sl D8))), (38, .lf (.d tI)), (39, .lf (.d tI))], [.box 31 [.row 2], .map .str, .row 167 Ak]⟩, [(4, ⟨[.boxRow 4 0 167 Ak], [(4, .lf (.ptr 0 0)), (6, .lf (.row 1))], [.box 31 [.row 2], .map .str, .row 167 Ak]⟩)]), (21, ⟨[.boxRow 4 0 167 Ak, .boxRow 11 0 167 Ak], [(4, .lf (.ptr 0 0)), (11, .lf (.ptr 1 0)), (59, .lf (.row 2))], [.box 31 [.row 3], .box 31 [.row 4], .iter .str, .row 167 Ak, .row 167 Ak]⟩, [(6, ⟨[.boxRow 4 0 167 Ak, .boxRow 11 0 167 Ak], [(4, .lf (.ptr 0 0)), (11, .lf (.ptr 1 0))], [.box 31 [.row 2], .box 31 [.row 3], .row 167 Ak, .row 167 Ak]⟩)])]
noncomputable def co_impl_Apply_6 : Code := (Ao (A4 Tryz.f90)).getD 0 .skip
noncomputable def co_impl_Apply_11 : Code := (Ao (A4 Tryz.f90)).getD 1 .skip
noncomputable def co_impl_Apply_21 : Code := (Ao (A4 Tryz.f90)).getD 2 .skip
noncomputable def Lc (i2 : List (ByteArray × ByteArray)) (l2 : List (ByteArray × ByteArray)) (c2 : Option (ByteArray × ByteArray)) (r3 : List Pr2) (r4 : List Pr2) (e0 : ByteArray) (e1 : ByteArray) (e2 : List (ByteArray × ByteArray)) : Option ((List (ByteArray × ByteArray)) × (List (ByteArray × ByteArray)) × (Option (ByteArray × ByteArray)) × (List Pr2) × (List Pr2) × Unit) :=
 bif decide ((r4.length + [(e0, e1, ())].length) * 32 ≤ 140737488355328) then some (i2, e2, some (e0, e1), r3, r4 ++ [(e0, e1, ())], ()) else none
noncomputable def V5 (i2 : List (ByteArray × ByteArray)) (l2 : List (ByteArray × ByteArray)) (c2 : Option (ByteArray × ByteArray)) (r3 : List Pr2) (r4 : List Pr2) : Option ((List Pr2) × (List Pr2) × Unit) :=
 some (r3, r4, ())
noncomputable def Pi {R : Type} (i2 : List (ByteArray × ByteArray)) (l2 : List (ByteArray × ByteArray)) (c2 : Option (ByteArray × ByteArray)) (r3 : List Pr2) (r4 : List Pr2) (kk : ((List Pr2) × (List Pr2) × Unit) → Option R) : Option R := Azx (fun d : ((List (ByteArray × ByteArray)) × (List (ByteArray × ByteArray)) × (Option (ByteArray × ByteArray)) × (List Pr2) × (List Pr2) × Unit) => d.2.1) (fun d e l => Lc d.1 d.2.1 d.2.2.1 d.2.2.2.1 d.2.2.2.2.1 e.1 e.2 l) (fun d => (V5 d.1 d.2.1 d.2.2.1 d.2.2.2.1 d.2.2.2.2.1).bind kk) (i2, l2, c2, r3, r4, ())
def G6 (v37 : List Chg) (v38 : Int) (v39 : Int) (m1 : List (ByteArray × ByteArray)) (r2 : List Pr2) : Nat := (v38 - v39).toNat + 1
noncomputable def Ja {R : Type}  (NX : ((List Chg) × (Int) × (Int) × (List (ByteArray × ByteArray)) × (List Pr2) × Unit) → Option R) (X4 : ((List (ByteArray × ByteArray)) × (List Pr2) × Unit) → Option R) (v37 : List Chg) (v38 : Int) (v39 : Int) (m1 : List (ByteArray × ByteArray)) (r2 : List Pr2) : Option R :=
 bif decide (v39 < v38) then bif decide (0 ≤ v39) then bif decide (v39 < nI v37.length) then bif (v37.getD v39.toNat (ByteArray.mk #[], ByteArray.mk #[], false, ())).2.2.1 then NX (v37, v38, IntKind.i64.wrap (v39 + 1), Y2 (v37.getD v39.toNat (ByteArray.mk #[], ByteArray.mk #[], false, ())).1 m1, r2, ()) else NX (v37, v38, IntKind.i64.wrap (v39 + 1), Ru (v37.getD v39.toNat (ByteArray.mk #[], ByteArray.mk #[], false, ())).1 (v37.getD v39.toNat (ByteArray.mk #[], ByteArray.mk #[], false, ())).2.1 m1, r2, ()) else none else none else X4 (m1, r2, ())
noncomputable def Cy : Nat → (List Chg) → (Int) → (Int) → (List (ByteArray × ByteArray)) → (List Pr2) →  Option ((List (ByteArray × ByteArray)) × (List Pr2) × Unit)
 | 0, _, _, _, _, _ => none
 | m + 1, v37, v38, v39, m1, r2 => Ja  (fun d => Cy m d.1 d.2.1 d.2.2.1 d.2.2.2.1 d.2.2.2.2.1) (fun d => some (d)) v37 v38 v39 m1 r2
def H3 (v1 : List Chg) (v25 : List Pr2) (v26 : Int) (v27 : Int) (m1 : List (ByteArray × ByteArray)) (r2 : List Pr2) : Nat := (v26 - v27).toNat + 1
noncomputable def J1 {R : Type}  (NX : ((List Chg) × (List Pr2) × (Int) × (Int) × (List (ByteArray × ByteArray)) × (List Pr2) × Unit) → Option R) (X2 : ((List Chg) × (List (ByteArray × ByteArray)) × (List Pr2) × Unit) → Option R) (v1 : List Chg) (v25 : List Pr2) (v26 : Int) (v27 : Int) (m1 : List (ByteArray × ByteArray)) (r2 : List Pr2) : Option R :=
 bif decide (v27 < v26) then bif decide (0 ≤ v27) then bif decide (v27 < nI v25.length) then NX (v1, v25, v26, IntKind.i64.wrap (v27 + 1), Ru (v25.getD v27.toNat (ByteArray.mk #[], ByteArray.mk #[], ())).1 (v25.getD v27.toNat (ByteArray.mk #[], ByteArray.mk #[], ())).2.1 m1, r2, ()) else none else none else X2 (v1, m1, r2, ())
noncomputable def Dd : Nat → (List Chg) → (List Pr2) → (Int) → (Int) → (List (ByteArray × ByteArray)) → (List Pr2) →  Option ((List Chg) × (List (ByteArray × ByteArray)) × (List Pr2) × Unit)
 | 0, _, _, _, _, _, _ => none
 | m + 1, v1, v25, v26, v27, m1, r2 => J1  (fun d => Dd m d.1 d.2.1 d.2.2.1 d.2.2.2.1 d.2.2.2.2.1 d.2.2.2.2.2.1) (fun d => some (d)) v1 v25 v26 v27 m1 r2
noncomputable def Uw (a0 : Stt) (a1 : List Chg) : Option ((((List Pr2) × (Int) × Unit) × (Unit))) :=
 bif !Dw a0 then some (([], 1, ()), ()) else bif !Gn a1 then some (([], 1, ()), ()) else ((fun d => Dd (H3 d.1 d.2.1 d.2.2.1 d.2.2.2.1 d.2.2.2.2.1 d.2.2.2.2.2.1) d.1 d.2.1 d.2.2.1 d.2.2.2.1 d.2.2.2.2.1 d.2.2.2.2.2.1) (a1, a0.1, nI (List.length a0.1), 0, [], [], ())).bind fun val => ((fun d => Cy (G6 d.1 d.2.1 d.2.2.1 d.2.2.2.1 d.2.2.2.2.1) d.1 d.2.1 d.2.2.1 d.2.2.2.1 d.2.2.2.2.1) (val.1, nI (List.length val.1), 0, val.2)).bind fun val => bif decide (nI val.1.length > 100) then some (([], 2, ()), ()) else (fun d kk => Pi d.1 d.2.1 d.2.2.1 d.2.2.2.1 d.2.2.2.2.1 kk) (val.1, val.1, none, val.2.1, [], ()) fun d => bif Dz d.2.1 then bif decide (d.2.1.length ≤ 1000) then some ((List.foldr Ah9 [] d.2.1, 0, ()), ()) else none else none
theorem Avz (v1 : List Chg) (xs : List Pr2) (hx : xs.length ≤ 100) : Dd (H3 v1 xs (nI xs.length) 0 [] []) v1 xs (nI xs.length) 0 [] [] = some (v1, Amj xs, [], ()) := by
 have hL := Fq (xs := xs) zP (fun _ _ => True) (fun _ p m => Ru p.1 p.2.1 m) (g := fun m i M => Dd m v1 xs (nI xs.length) i M []) (ok := fun M => (v1, M, [], ())) (fun m i M hi _ => by
   show Dd (m + 1) v1 xs (nI xs.length) i M [] = _
   simp only [Dd, J1]
   rw [Mg hi, Fh, wI (show i < 4611686018427387904 by omega), Int.toNat_natCast]
   rfl) (fun _ _ _ _ => trivial) (fun m M _ => by
   show Dd (m + 1) v1 xs (nI xs.length) (xs.length : Int) M [] = _
   simp only [Dd, J1]
   rw [Hx]
   rfl) (H3 v1 xs (nI xs.length) 0 [] []) 0 [] (by omega) (by simp [H3, nI]) trivial
 rw [List.drop_zero] at hL
 exact hL
theorem As8 (b : List Chg) (m0 : Mp) (hb : b.length ≤ 20) : Cy (G6 b (nI b.length) 0 m0 []) b (nI b.length) 0 m0 [] = some (Fb (fun _ c m => Aho c m) 0 b m0, [], ()) := by
 have hL := Fq (xs := b) zC (fun _ _ => True) (fun _ c m => Aho c m) (g := fun m i M => Cy m b (nI b.length) i M []) (ok := fun M => (M, [], ())) (fun m i M hi _ => by
   show Cy (m + 1) b (nI b.length) i M [] = _
   simp only [Cy, Ja]
   rw [Mg hi, Fh, wI (show i < 4611686018427387904 by omega), Int.toNat_natCast]
   simp only [cond_true]
   unfold Aho
   show (bif (List.getD b i zC).2.2.1 then _ else _) = _
   cases (List.getD b i zC).2.2.1 <;> rfl) (fun _ _ _ _ => trivial) (fun m M _ => by
   show Cy (m + 1) b (nI b.length) (b.length : Int) M [] = _
   simp only [Cy, Ja]
   rw [Hx]
   rfl) (G6 b (nI b.length) 0 m0 []) 0 m0 (by omega) (by simp [G6, nI]) trivial
 rw [List.drop_zero] at hL
 exact hL
theorem Apj (a0 : Stt) (a1 : List Chg) : Uw a0 a1 = some (((Jn a0 a1).1.1, (Jn a0 a1).2, ()), (())) := by
 unfold Uw Jn Nn
 show (bif !Aq a0 then _ else bif !Bg a1 then _ else _) = _
 cases hv : Aq a0 with
 | false => rfl
 | true =>
  cases hb : Bg a1 with
  | false => rfl
  | true =>
   simp only [Bool.not_true, cond_false]
   have hl := D2 hv
   have hb2 := G4 (Cj hb).1
   refine Nl (Avz a1 a0.1 hl) ?_
   dsimp only
   refine Nl (As8 a1 (Amj a0.1) (by omega)) ?_
   dsimp only
   have hM : m8 (Fb (fun _ c m => Aho c m) 0 a1 (Amj a0.1)) (Nm a0.1 a1) := (m8.init (Aq9 hv)).fold
   have hlen := hM.len
   generalize Fb (fun _ c m => Aho c m) 0 a1 (Amj a0.1) = M at hM hlen
   by_cases q : M.length > 100
   ·rw [decide_eq_true (show nI M.length > 100 by simp only [nI]; omega), decide_eq_true (show (Nm a0.1 a1).length > 100 by omega)]
    rfl
   ·rw [decide_eq_false (show ¬ nI M.length > 100 by simp only [nI]; omega), decide_eq_false (show ¬ (Nm a0.1 a1).length > 100 by omega)]
    simp only [cond_false]
    unfold Pi
    refine A24 (m := M.length + 1) ?_
    refine A16 M (Nm a0.1 a1) hM (by omega) (fun l c r => (M, l, c, [], r, ())) (fun _ _ _ => rfl) (fun l c r e l' hr => ?_) (fun c r h1 h2 h3 => ?_) M.length M none [] rfl (List.Perm.refl _)
    ·show Lc M l c [] r e.1 e.2 l' = _
     unfold Lc
     rw [List.length_singleton, decide_eq_true (show (r.length + 1) * 32 ≤ 140737488355328 by omega)]
     rfl
    ·show (bif Dz r then bif decide (r.length ≤ 1000) then some ((Nh r, 0, ()), ()) else none else none) = _
     rw [h1, decide_eq_true h2, h3]
     rfl
noncomputable def Yi {R : Type} (k : Kt R) := (Hw (pa_impl_Apply 6) (.exit 0) 2 k)
noncomputable def V6 {R : Type} (k : Kt R) := (Hw (pa_impl_Apply 11) (.exit 2) 4 k)
noncomputable def Agh {R : Type} (k : Kt R) := (Hw (pa_impl_Apply 21) (.exit 4) 6 k)
noncomputable def Ri {R : Type} : Lt R pa_impl_Apply := (D5 (pat := pa_impl_Apply) 6 (fun d k => (Dd (H3 d.1 d.2.1 d.2.2.1 d.2.2.2.1 d.2.2.2.2.1 d.2.2.2.2.2.1) d.1 d.2.1 d.2.2.1 d.2.2.2.1 d.2.2.2.2.1 d.2.2.2.2.2.1).bind (Yi k)) (D5 (pat := pa_impl_Apply) 11 (fun d k => (Cy (G6 d.1 d.2.1 d.2.2.1 d.2.2.2.1 d.2.2.2.2.1) d.1 d.2.1 d.2.2.1 d.2.2.2.1 d.2.2.2.2.1).bind (V6 k)) (D5 (pat := pa_impl_Apply) 21 (fun d k => Pi d.1 d.2.1 d.2.2.1 d.2.2.2.1 d.2.2.2.2.1 (Agh k)) Ff)))
theorem P0 : Au Tryz.prog Pz where
 sd := Ash (l := [(89, sd_impl_ValidBatch), (156, sd_impl_ValidState)]) ⟨Mt, Jm, trivial⟩
 inl := fun f fn h => by cases h
 cc := fun f BT h => by cases h
 st := fun f BT e h => by cases h
 srt := fun fs fc BT U e h => by cases h; exact ⟨⟨_, Tryz.func170, by kernel_rfl, by kernel_rfl⟩, A0e⟩
theorem Agi {R : Type} : Aw Tryz.prog R 79 0 pa_impl_Apply Ri co_impl_Apply_21 :=
 A1n (cfg := ⟨Pz, 0, 79, pa_impl_Apply⟩) (key := 21) (it := .tmp 59) (sl := 60) (ii := 2) (xid := 4) (t := .str) (by kernel_rfl) (by kernel_rfl) P0 rfl rfl rfl (by kernel_rfl) (by kernel_rfl) (xs := fun d => d.1) (left := fun d => d.2.1) (cur := fun d => d.2.2.1) (fun d => rfl) (fun d => rfl)
  (stp := fun d e l => Lc d.1 d.2.1 d.2.2.1 d.2.2.2.1 d.2.2.2.2.1 e.1 e.2 l) (fin := fun d => V5 d.1 d.2.1 d.2.2.1 d.2.2.2.1 d.2.2.2.2.1) (fun d e l => by obtain ⟨i2, l2, c2, r3, r4, ⟨⟩⟩ := d; obtain ⟨e0, e1⟩ := e; kernel_rfl) (fun d => by obtain ⟨i2, l2, c2, r3, r4, ⟨⟩⟩ := d; kernel_rfl) (fun d k => rfl)
theorem Agj {R : Type} : Aw Tryz.prog R 79 0 pa_impl_Apply Ri co_impl_Apply_11 :=
 B1 (cfg := ⟨Pz, 0, 79, pa_impl_Apply⟩) 11 [] (fun NX X d => Ja  NX X d.1 d.2.1 d.2.2.1 d.2.2.2.1 d.2.2.2.2.1) (fun m d => Cy m d.1 d.2.1 d.2.2.1 d.2.2.2.1 d.2.2.2.2.1) (fun d => G6 d.1 d.2.1 d.2.2.1 d.2.2.2.1 d.2.2.2.2.1) V6 P0 trivial (fun f NX d => by unfold Ja; simp only [Aj, Ap, Ai, Option.bind_assoc, Option.bind_none, Option.bind_some]) (fun _ _ _ => by kernel_rfl)
theorem Ajj {R : Type} : Aw Tryz.prog R 79 0 pa_impl_Apply Ri co_impl_Apply_6 :=
 B1 (cfg := ⟨Pz, 0, 79, pa_impl_Apply⟩) 6 [] (fun NX X d => J1  NX X d.1 d.2.1 d.2.2.1 d.2.2.2.1 d.2.2.2.2.1 d.2.2.2.2.2.1) (fun m d => Dd m d.1 d.2.1 d.2.2.1 d.2.2.2.1 d.2.2.2.2.1 d.2.2.2.2.2.1) (fun d => H3 d.1 d.2.1 d.2.2.1 d.2.2.2.1 d.2.2.2.2.1 d.2.2.2.2.2.1) Yi P0 trivial (fun f NX d => by unfold J1; simp only [Aj, Ap, Ai, Option.bind_assoc, Option.bind_none, Option.bind_some]) (fun _ _ _ => by kernel_rfl)
theorem Apk : Bf Tryz.prog 90 sd_impl_Apply :=
 Ar (pat := pa_impl_Apply) [co_impl_Apply_6, co_impl_Apply_11, co_impl_Apply_21] Ri P0 ⟨Ajj, Agj, Agi, trivial⟩ Tryz.func90 (de := fun x => Uw x.1 x.2.1) (fun x r h => (Apj x.1 x.2.1).trans h) fun _ => by kernel_rfl
def Bi (n : Int) : Int := An n
def An1 : Sig := ⟨[.rd tI], [none], [.rd tI], [none]⟩
noncomputable def sd_impl_Halves : SD := ⟨An1, fun x => some (((Bi x.1), ()), (()))⟩
noncomputable def S5 (a0 : Int) : Option ((((Int) × Unit) × (Unit))) :=
 bif !Bh a0 8 200 then some ((0, ()), ()) else some ((IntKind.i64.wrap ((IntKind.i64.wrap (a0 - 2)).tdiv 2), ()), ())
theorem An2 (a0 : Int) : S5 a0 = some (((Bi a0), ()), (())) := by
 unfold S5 Bi An
 show (bif !Eo a0 8 200 then _ else _) = _
 cases h : Eo a0 8 200 with
 | false => rfl
 | true =>
  obtain ⟨h1, h2⟩ := G4 h
  rw [Ahl h1 h2]
  rfl
theorem N7 : Bf Tryz.prog 91 sd_impl_Halves :=
 Ar (pat := Ci) [] Ff (At (l := [(112, sd_impl_in)]) ⟨Dq, trivial⟩) trivial Tryz.func91 (de := fun x => S5 x.1) (fun x r h => (An2 x.1).trans h) fun _ => by kernel_rfl
def Agk (v n : Int) : Option ByteArray := if 0 ≤ n ∧ n ≤ 1000 then some (C1 v n.toNat) else none
def N8 (v0 v6 : Int) (r0 : List Int) : Nat := v6.toNat + 2
def Axs : Sig := ⟨[.rd tI, .rd tI], [none, none], [.rd .str], [none]⟩
noncomputable def sd_impl_be : SD := ⟨Axs, fun x => (Agk x.1 x.2.1).bind fun r => some ((r, ()), (()))⟩
noncomputable def ta_impl_be : Tb := tb []
def pa_impl_be : Nat → Pat × (Nat → Pat) := Fj [(4, ⟨[.row 5 0 5 (.int .u8)], [(0, .lf (.d tI)), (5, .lf (.row 0)), (6, .lf (.d tI))], [.row 5 (.int .u8)]⟩, [(2, ⟨[.row 5 0 5 (.int .u8)], [(5, .lf (.row 0))], [.row 5 (.int .u8)]⟩)])]
noncomputable def co_impl_be_4 : Code := (Ao (A4 Tryz.f175)).getD 0 .skip
noncomputable def N9 {R : Type}  (NX : ((Int) × (Int) × (List Int) × Unit) → Option R) (X2 : ((List Int) × Unit) → Option R) (v0 : Int) (v6 : Int) (r0 : List Int) : Option R :=
 bif decide (v6 ≥ 0) then bif decide (0 ≤ v6) then bif decide (v6 < nI r0.length) then bif decide (v6.toNat < r0.length) then NX (v0.fdiv (2 ^ min (Int.toNat 8) 64), IntKind.i64.wrap (v6 - 1), r0.set v6.toNat (IntKind.u8.wrap v0), ()) else none else none else none else X2 (r0, ())
noncomputable def Jo : Nat → (Int) → (Int) → (List Int) →  Option ((List Int) × Unit)
 | 0, _, _, _ => none
 | m + 1, v0, v6, r0 => N9  (fun d => Jo m d.1 d.2.1 d.2.2.1) (fun d => some (d)) v0 v6 r0
noncomputable def Abm (a0 : Int) (a1 : Int) : Option ((((ByteArray) × Unit) × (Unit))) :=
 bif decide (a1 = a1) then bif decide (0 ≤ a1) then bif decide (a1.toNat * 1 ≤ 140737488355328) then ((fun d => Jo (N8 d.1 d.2.1 d.2.2.1) d.1 d.2.1 d.2.2.1) (a0, IntKind.i64.wrap (a1 - 1), List.replicate a1.toNat 0, ())).bind fun val => some ((strOfNums val.1, ()), ()) else none else none else none
theorem Azc : ∀ (k m : Nat) (v : Int) (l t : List Int), l.length = k → k ≤ 1000 → k < m → Jo m v ((k : Int) - 1) (l ++ t) = some (Na v k ++ t, ())
 | 0, m + 1, v, l, t, hl, hk, hm => by
  obtain rfl : l = [] := List.length_eq_zero_iff.1 hl
  simp only [Jo, N9]
  rw [decide_eq_false (by omega)]
  rfl
 | k + 1, m + 1, v, l, t, hl, hk, hm => by
  have e : (((k + 1 : Nat) : Int) - 1) = (k : Int) := by omega
  rw [e]
  simp only [Jo, N9]
  have hlen : (l ++ t).length = k + 1 + t.length := by rw [List.length_append, hl]
  rw [decide_eq_true (show (k : Int) ≥ 0 by omega), decide_eq_true (show (k : Int) < nI (l ++ t).length by simp only [nI, hlen]; omega), decide_eq_true (show Int.toNat (k : Int) < (l ++ t).length by rw [hlen]; omega), Ag (by omega) (by omega)]
  simp only [cond_true, Int.toNat_natCast]
  obtain ⟨l', x, rfl⟩ : ∃ l' x, l = l' ++ [x] := ⟨l.dropLast, l.getLast (by intro h; subst h; simp at hl), (List.dropLast_concat_getLast _).symm⟩
  have hl' : l'.length = k := by simpa using hl
  have hs : ((l' ++ [x]) ++ t).set k (IntKind.wrap IntKind.u8 v) = l' ++ (v % 256 :: t) := by
   rw [List.append_assoc, List.set_append_right _ _ (by omega), hl']
   simp only [Nat.sub_self, List.singleton_append, List.set_cons_zero]
   rfl
  rw [hs]
  have := Azc k m (v / 256) l' (v % 256 :: t) hl' (by omega) (by omega)
  have e2 : Int.fdiv v (2 ^ min (Int.toNat 8) 64) = v / 256 := by
   show Int.fdiv v 256 = v / 256
   exact Int.fdiv_eq_ediv_of_nonneg _ (by omega)
  rw [e2, this]
  simp only [Na, List.append_assoc, List.singleton_append]
theorem Axt (a0 : Int) (a1 : Int) r (h : Agk a0 a1 = some r) : Abm a0 a1 = some ((r, ()), (())) := by
 unfold Agk at h
 split at h
 ·rename_i hc
  cases h
  obtain ⟨n, rfl⟩ : ∃ n : Nat, a1 = (n : Int) := ⟨a1.toNat, by omega⟩
  unfold Abm
  rw [decide_eq_true rfl, decide_eq_true hc.1, decide_eq_true (show Int.toNat (n : Int) * 1 ≤ 140737488355328 by omega), Ag (by omega) (by omega)]
  have hL := Azc n (N8 a0 ((n : Int) - 1) (List.replicate n 0)) a0 (List.replicate n 0) [] (by simp) (by omega) (by simp only [N8]; omega)
  rw [List.append_nil, List.append_nil] at hL
  exact Xr hL rfl
 ·cases h
noncomputable def Adx {R : Type} (k : Kt R) := (Hw (pa_impl_be 4) (.exit 0) 2 k)
noncomputable def Are {R : Type} : Lt R pa_impl_be := (D5 (pat := pa_impl_be) 4 (fun d k => (Jo (N8 d.1 d.2.1 d.2.2.1) d.1 d.2.1 d.2.2.1).bind (Adx k)) Ff)
theorem An3 : Au Tryz.prog ta_impl_be := At trivial
theorem As9 {R : Type} : Aw Tryz.prog R 24 0 pa_impl_be Are co_impl_be_4 :=
 B1 (cfg := ⟨ta_impl_be, 0, 24, pa_impl_be⟩) 4 [] (fun NX X d => N9  NX X d.1 d.2.1 d.2.2.1) (fun m d => Jo m d.1 d.2.1 d.2.2.1) (fun d => N8 d.1 d.2.1 d.2.2.1) Adx An3 trivial (fun f NX d => by unfold N9; simp only [Aj, Ap, Ai, Option.bind_assoc, Option.bind_none, Option.bind_some]) (fun _ _ _ => by kernel_rfl)
theorem Xh : Bf Tryz.prog 175 sd_impl_be :=
 Ar (pat := pa_impl_be) [co_impl_be_4] Are An3 ⟨As9, trivial⟩ Tryz.func175 (de := fun x => Abm x.1 x.2.1) (fun x r h => A3 (Axt x.1 x.2.1) h) fun _ => by kernel_rfl
def Fv (b : List Chg) : ByteArray := F4 b
def Ady : Sig := ⟨[.rd (.sl D8)], [none], [.rd .str], [none]⟩
noncomputable def sd_impl_FormBatch : SD := ⟨Ady, fun x => some (((Fv x.1), ()), (()))⟩
noncomputable def Oa : Tb := ⟨tbF [(89, sd_impl_ValidBatch), (175, sd_impl_be)], fun f => if f = 174 then some Tryz.f174 else none, some (214, 197), some (176, 197, 5), none⟩
def pa_impl_FormBatch : Nat → Pat × (Nat → Pat) := Fj [(6, ⟨[.sl 9 0 D8, .self 3 0, .boxRow 3 1 5 (.int .u8)], [(3, .lf (.ptr 0 0)), (9, .lf (.d (.sl D8))), (10, .lf (.d tI)), (11, .lf (.d tI))], [.box 197 [.sp 0, .row 1], .row 5 (.int .u8)]⟩, [(2, ⟨[.self 3 0, .boxRow 3 1 5 (.int .u8)], [(3, .lf (.ptr 0 0))], [.box 197 [.sp 0, .row 1], .row 5 (.int .u8)]⟩)])]
noncomputable def co_impl_FormBatch_6 : Code := (Ao (A4 Tryz.f94)).getD 0 .skip
def Gw (v9 : List Chg) (v10 : Int) (v11 : Int) (r1 : List Int) : Nat := (v10 - v11).toNat + 1
noncomputable def Gy {R : Type}  (NX : ((List Chg) × (Int) × (Int) × (List Int) × Unit) → Option R) (X2 : ((List Int) × Unit) → Option R) (v9 : List Chg) (v10 : Int) (v11 : Int) (r1 : List Int) : Option R :=
 bif decide (v11 < v10) then bif decide (0 ≤ v11) then bif decide (v11 < nI v9.length) then bif (v9.getD v11.toNat (ByteArray.mk #[], ByteArray.mk #[], false, ())).2.2.1 then bif decide ((ByteArray.mk #[1] ++ C1 (nI (ByteArray.size (v9.getD v11.toNat (ByteArray.mk #[], ByteArray.mk #[], false, ())).1)) (Int.toNat 1)).size + ByteArray.size (v9.getD v11.toNat (ByteArray.mk #[], ByteArray.mk #[], false, ())).1 ≤ 9223372036854775807) then bif decide (r1.length + (ByteArray.mk #[1] ++ C1 (nI (ByteArray.size (v9.getD v11.toNat (ByteArray.mk #[], ByteArray.mk #[], false, ())).1)) (Int.toNat 1) ++ (v9.getD v11.toNat (ByteArray.mk #[], ByteArray.mk #[], false, ())).1).size ≤ 140737488355328) then NX (v9, v10, IntKind.i64.wrap (v11 + 1), r1 ++ Aa (ByteArray.mk #[1] ++ C1 (nI (ByteArray.size (v9.getD v11.toNat (ByteArray.mk #[], ByteArray.mk #[], false, ())).1)) (Int.toNat 1) ++ (v9.getD v11.toNat (ByteArray.mk #[], ByteArray.mk #[], false, ())).1), ()) else none else none else bif decide ((ByteArray.mk #[0] ++ C1 (nI (ByteArray.size (v9.getD v11.toNat (ByteArray.mk #[], ByteArray.mk #[], false, ())).1)) (Int.toNat 1)).size + ByteArray.size (v9.getD v11.toNat (ByteArray.mk #[], ByteArray.mk #[], false, ())).1 ≤ 9223372036854775807) then bif decide ((ByteArray.mk #[0] ++ C1 (nI (ByteArray.size (v9.getD v11.toNat (ByteArray.mk #[], ByteArray.mk #[], false, ())).1)) (Int.toNat 1) ++ (v9.getD v11.toNat (ByteArray.mk #[], ByteArray.mk #[], false, ())).1).size + (C1 (nI (ByteArray.size (v9.getD v11.toNat (ByteArray.mk #[], ByteArray.mk #[], false, ())).2.1)) (Int.toNat 1)).size ≤ 9223372036854775807) then bif decide ((ByteArray.mk #[0] ++ C1 (nI (ByteArray.size (v9.getD v11.toNat (ByteArray.mk #[], ByteArray.mk #[], false, ())).1)) (Int.toNat 1) ++ (v9.getD v11.toNat (ByteArray.mk #[], ByteArray.mk #[], false, ())).1 ++ C1 (nI (ByteArray.size (v9.getD v11.toNat (ByteArray.mk #[], ByteArray.mk #[], false, ())).2.1)) (Int.toNat 1)).size + ByteArray.size (v9.getD v11.toNat (ByteArray.mk #[], ByteArray.mk #[], false, ())).2.1 ≤ 9223372036854775807) then bif decide (r1.length + (ByteArray.mk #[0] ++ C1 (nI (ByteArray.size (v9.getD v11.toNat (ByteArray.mk #[], ByteArray.mk #[], false, ())).1)) (Int.toNat 1) ++ (v9.getD v11.toNat (ByteArray.mk #[], ByteArray.mk #[], false, ())).1 ++ C1 (nI (ByteArray.size (v9.getD v11.toNat (ByteArray.mk #[], ByteArray.mk #[], false, ())).2.1)) (Int.toNat 1) ++ (v9.getD v11.toNat (ByteArray.mk #[], ByteArray.mk #[], false, ())).2.1).size ≤ 140737488355328) then NX (v9, v10, IntKind.i64.wrap (v11 + 1), r1 ++ Aa (ByteArray.mk #[0] ++ C1 (nI (ByteArray.size (v9.getD v11.toNat (ByteArray.mk #[], ByteArray.mk #[], false, ())).1)) (Int.toNat 1) ++ (v9.getD v11.toNat (ByteArray.mk #[], ByteArray.mk #[], false, ())).1 ++ C1 (nI (ByteArray.size (v9.getD v11.toNat (ByteArray.mk #[], ByteArray.mk #[], false, ())).2.1)) (Int.toNat 1) ++ (v9.getD v11.toNat (ByteArray.mk #[], ByteArray.mk #[], false, ())).2.1), ()) else none else none else none else none else none else none else X2 (r1, ())
noncomputable def Bm : Nat → (List Chg) → (Int) → (Int) → (List Int) →  Option ((List Int) × Unit)
 | 0, _, _, _, _ => none
 | m + 1, v9, v10, v11, r1 => Gy  (fun d => Bm m d.1 d.2.1 d.2.2.1 d.2.2.2.1) (fun d => some (d)) v9 v10 v11 r1
noncomputable def Ob (a0 : List Chg) : Option ((((ByteArray) × Unit) × (Unit))) :=
 bif !Gn a0 then some ((ByteArray.mk #[], ()), ()) else ((fun d => Bm (Gw d.1 d.2.1 d.2.2.1 d.2.2.2.1) d.1 d.2.1 d.2.2.1 d.2.2.2.1) (a0, nI a0.length, 0, [], ())).bind fun val => bif Er val.1 then some ((strOfNums val.1, ()), ()) else none
theorem Adz (a0 : List Chg) : Ob a0 = some ((Fv a0, ()), (())) := by
 unfold Ob Fv F4
 show (bif !Bg a0 then _ else _) = _
 cases hv : Bg a0 with
 | false => rfl
 | true =>
  obtain ⟨hlen, hok⟩ := Pw hv
  have hL := l7 a0.length Al8 (fun i r => r ++ Re (a0.getD i zC)) (g := fun m i r => Bm m a0 (nI a0.length) i r) (ok := fun r => (r, ())) (fun m i r hi hr => by
   show Bm (m + 1) a0 (nI a0.length) i r = _
   simp only [Bm, Gy]
   have hc := hok i hi
   obtain ⟨k1, k2, k3⟩ := l8 hc
   rw [Mg hi, Fh, wI (show i < 4611686018427387904 by omega), Int.toNat_natCast]
   show (bif (a0.getD i zC).2.2.1 then (bif decide (ByteArray.size (ByteArray.mk #[1] ++ C1 (nI (ByteArray.size (a0.getD i zC).1)) 1) + ByteArray.size (a0.getD i zC).1 ≤ 9223372036854775807) then (bif decide (List.length r + ByteArray.size (ByteArray.mk #[1] ++ C1 (nI (ByteArray.size (a0.getD i zC).1)) 1 ++ (a0.getD i zC).1) ≤ 140737488355328) then Bm m a0 (nI a0.length) ((i + 1 : Nat) : Int) (r ++ Aa (ByteArray.mk #[1] ++ C1 (nI (ByteArray.size (a0.getD i zC).1)) 1 ++ (a0.getD i zC).1)) else none) else none) else (bif decide (ByteArray.size (ByteArray.mk #[0] ++ C1 (nI (ByteArray.size (a0.getD i zC).1)) 1) + ByteArray.size (a0.getD i zC).1 ≤ 9223372036854775807) then (bif decide (ByteArray.size (ByteArray.mk #[0] ++ C1 (nI (ByteArray.size (a0.getD i zC).1)) 1 ++ (a0.getD i zC).1) + ByteArray.size (C1 (nI (ByteArray.size (a0.getD i zC).2.1)) 1) ≤ 9223372036854775807) then (bif decide (ByteArray.size (ByteArray.mk #[0] ++ C1 (nI (ByteArray.size (a0.getD i zC).1)) 1 ++ (a0.getD i zC).1 ++ C1 (nI (ByteArray.size (a0.getD i zC).2.1)) 1) + ByteArray.size (a0.getD i zC).2.1 ≤ 9223372036854775807) then (bif decide (List.length r + ByteArray.size (ByteArray.mk #[0] ++ C1 (nI (ByteArray.size (a0.getD i zC).1)) 1 ++ (a0.getD i zC).1 ++ C1 (nI (ByteArray.size (a0.getD i zC).2.1)) 1 ++ (a0.getD i zC).2.1) ≤ 140737488355328) then Bm m a0 (nI a0.length) ((i + 1 : Nat) : Int) (r ++ Aa (ByteArray.mk #[0] ++ C1 (nI (ByteArray.size (a0.getD i zC).1)) 1 ++ (a0.getD i zC).1 ++ C1 (nI (ByteArray.size (a0.getD i zC).2.1)) 1 ++ (a0.getD i zC).2.1)) else none) else none) else none) else none)) = Bm m a0 (nI a0.length) ((i + 1 : Nat) : Int) (r ++ Re (a0.getD i zC))
   have hr1 := hr.1
   generalize a0.getD i zC = c at *
   have o1 : Aa (ByteArray.mk #[1]) = [1] := rfl
   have o0 : Aa (ByteArray.mk #[0]) = [0] := rfl
   have s1 : ByteArray.size (ByteArray.mk #[1]) = 1 := rfl
   have s0 : ByteArray.size (ByteArray.mk #[0]) = 1 := rfl
   simp only [M4, Au3 _ (show c.1.size < 256 by omega), Au3 _ (show c.2.1.size < 256 by omega), o1, o0, ByteArray.size_append, Iy, s1, s0]
   rw [decide_eq_true (show 1 + 1 + c.1.size ≤ 9223372036854775807 by omega), decide_eq_true (show r.length + (1 + 1 + c.1.size) ≤ 140737488355328 by omega), decide_eq_true (show 1 + 1 + c.1.size + 1 ≤ 9223372036854775807 by omega), decide_eq_true (show 1 + 1 + c.1.size + 1 + c.2.1.size ≤ 9223372036854775807 by omega), decide_eq_true (show r.length + (1 + 1 + c.1.size + 1 + c.2.1.size) ≤ 140737488355328 by omega)]
   unfold Re
   cases c.2.2.1 <;> rfl) (fun m r _ => by
   show Bm (m + 1) a0 (nI a0.length) (a0.length : Int) r = _
   simp only [Bm, Gy]
   rw [Hx]
   rfl) (fun i r hi hr => hr.step (hok i hi)) a0.length (Gw a0 (nI a0.length) 0 []) 0 [] (by omega) (by simp [Gw, nI]) ⟨by simp, rfl⟩
  have hB := Au4 hok a0.length 0 [] (by omega) ⟨by simp, rfl⟩
  rw [Al7 Re zC a0 a0.length 0 [] (by omega), List.nil_append, List.drop_zero] at hL hB
  refine Xr hL ?_
  show (bif Er (Gp a0) then some ((strOfNums (Gp a0), ()), ()) else none) = _
  have : Er (Gp a0) = true := hB.2
  rw [this]
  rfl
noncomputable def Q6 {R : Type} (k : Kt R) := (Hw (pa_impl_FormBatch 6) (.exit 0) 2 k)
noncomputable def V7 {R : Type} : Lt R pa_impl_FormBatch := (D5 (pat := pa_impl_FormBatch) 6 (fun d k => (Bm (Gw d.1 d.2.1 d.2.2.1 d.2.2.2.1) d.1 d.2.1 d.2.2.1 d.2.2.2.1).bind (Q6 k)) Ff)
theorem Ub : Au Tryz.prog Oa where
 sd := Ash (l := [(89, sd_impl_ValidBatch), (175, sd_impl_be)]) ⟨Mt, Xh, trivial⟩
 inl := fun f fn h => by
  simp only [Oa] at h
  split at h
  ·rename_i e; subst e; cases h; exact ⟨Tryz.func174, by kernel_rfl, by kernel_rfl⟩
  cases h
 cc := fun f BT h => by cases h; exact ⟨⟨_, Tryz.func214, by kernel_rfl, by kernel_rfl⟩, A3d⟩
 st := fun f BT e h => by cases h; exact ⟨⟨_, Tryz.func176, by kernel_rfl, by kernel_rfl⟩, A3e⟩
 srt := fun fs fc BT U e h => by cases h
theorem o5 {R : Type} : Aw Tryz.prog R 45 0 pa_impl_FormBatch V7 co_impl_FormBatch_6 :=
 B1 (cfg := ⟨Oa, 0, 45, pa_impl_FormBatch⟩) 6 [] (fun NX X d => Gy  NX X d.1 d.2.1 d.2.2.1 d.2.2.2.1) (fun m d => Bm m d.1 d.2.1 d.2.2.1 d.2.2.2.1) (fun d => Gw d.1 d.2.1 d.2.2.1 d.2.2.2.1) Q6 Ub trivial (fun f NX d => by unfold Gy; simp only [Aj, Ap, Ai, Option.bind_assoc, Option.bind_none, Option.bind_some]) (fun _ _ _ => by kernel_rfl)
theorem Uc : Bf Tryz.prog 94 sd_impl_FormBatch :=
 Ar (pat := pa_impl_FormBatch) [co_impl_FormBatch_6] V7 Ub ⟨o5, trivial⟩ Tryz.func94 (de := fun x => Ob x.1) (fun x r h => (Adz x.1).trans h) fun _ => by kernel_rfl
def Fd (s : Stt) : List (List Chg) := Dg s
def Agl : Sig := ⟨[.rd Bd], [some 1], [.rd (.sl (.sl D8))], [none]⟩
noncomputable def sd_impl_Snapshot : SD := ⟨Agl, fun x => some (((Fd x.1), ()), (()))⟩
noncomputable def ta_impl_Snapshot : Tb := tb [(156, sd_impl_ValidState)]
def pa_impl_Snapshot : Nat → Pat × (Nat → Pat) := Fj [(6, ⟨[.last 3 131 D8, .sl 10 0 Ak], [(3, .lf (.row 0)), (10, .lf (.d (.sl Ak))), (11, .lf (.d tI)), (12, .lf (.d tI))], [.last 59 D8 1, .row 131 D8]⟩, [(2, ⟨[.last 3 131 D8], [(3, .lf (.row 0))], [.last 59 D8 1, .row 131 D8]⟩)])]
noncomputable def co_impl_Snapshot_6 : Code := (Ao (A4 Tryz.f172)).getD 0 .skip
def Ei (v10 : List Pr2) (v11 : Int) (v12 : Int) (r0 : List (List Chg)) (c0 : Bool) (r1 : List Chg) : Nat := (v11 - v12).toNat + 1
noncomputable def Hr {R : Type}  (NX : ((List Pr2) × (Int) × (Int) × (List (List Chg)) × (Bool) × (List Chg) × Unit) → Option R) (X2 : ((List (List Chg)) × (Bool) × (List Chg) × Unit) → Option R) (v10 : List Pr2) (v11 : Int) (v12 : Int) (r0 : List (List Chg)) (c0 : Bool) (r1 : List Chg) : Option R :=
 bif decide (v12 < v11) then bif decide (0 ≤ v12) then bif decide (v12 < nI v10.length) then bif v12.tmod 20 == 0 then bif decide ((r0.length + c0.toNat + 1) * 24 ≤ 140737488355328) then bif decide (0 ≤ IntKind.i64.wrap (nI ((bif c0 then r0 ++ [r1] else r0).length + true.toNat) - 1)) then bif decide (IntKind.i64.wrap (nI ((bif c0 then r0 ++ [r1] else r0).length + true.toNat) - 1) < nI ((bif c0 then r0 ++ [r1] else r0).length + true.toNat)) then bif decide ((IntKind.i64.wrap (nI ((bif c0 then r0 ++ [r1] else r0).length + true.toNat) - 1)).toNat = (bif c0 then r0 ++ [r1] else r0).length) then bif decide (0 ≤ IntKind.i64.wrap (nI ((bif c0 then r0 ++ [r1] else r0).length + true.toNat) - 1)) then bif decide (IntKind.i64.wrap (nI ((bif c0 then r0 ++ [r1] else r0).length + true.toNat) - 1) < nI ((bif c0 then r0 ++ [r1] else r0).length + true.toNat)) then bif decide ((IntKind.i64.wrap (nI ((bif c0 then r0 ++ [r1] else r0).length + true.toNat) - 1)).toNat = (bif c0 then r0 ++ [r1] else r0).length) then NX (v10, v11, IntKind.i64.wrap (v12 + 1), bif c0 then r0 ++ [r1] else r0, true, [] ++ [((v10.getD v12.toNat (ByteArray.mk #[], ByteArray.mk #[], ())).1, (v10.getD v12.toNat (ByteArray.mk #[], ByteArray.mk #[], ())).2.1, false, ())], ()) else none else none else none else none else none else none else none else bif decide (0 ≤ IntKind.i64.wrap (nI (r0.length + c0.toNat) - 1)) then bif decide (IntKind.i64.wrap (nI (r0.length + c0.toNat) - 1) < nI (r0.length + c0.toNat)) then bif c0 then bif decide ((IntKind.i64.wrap (nI (r0.length + c0.toNat) - 1)).toNat = r0.length) then bif decide ((r1.length + [((v10.getD v12.toNat (ByteArray.mk #[], ByteArray.mk #[], ())).1, (v10.getD v12.toNat (ByteArray.mk #[], ByteArray.mk #[], ())).2.1, false, ())].length) * 40 ≤ 140737488355328) then bif decide (0 ≤ IntKind.i64.wrap (nI (r0.length + c0.toNat) - 1)) then bif decide (IntKind.i64.wrap (nI (r0.length + c0.toNat) - 1) < nI (r0.length + c0.toNat)) then bif c0 then bif decide ((IntKind.i64.wrap (nI (r0.length + c0.toNat) - 1)).toNat = r0.length) then NX (v10, v11, IntKind.i64.wrap (v12 + 1), r0, c0, r1 ++ [((v10.getD v12.toNat (ByteArray.mk #[], ByteArray.mk #[], ())).1, (v10.getD v12.toNat (ByteArray.mk #[], ByteArray.mk #[], ())).2.1, false, ())], ()) else none else none else none else none else none else none else none else none else none else none else none else X2 (r0, c0, r1, ())
noncomputable def B7 : Nat → (List Pr2) → (Int) → (Int) → (List (List Chg)) → (Bool) → (List Chg) →  Option ((List (List Chg)) × (Bool) × (List Chg) × Unit)
 | 0, _, _, _, _, _, _ => none
 | m + 1, v10, v11, v12, r0, c0, r1 => Hr  (fun d => B7 m d.1 d.2.1 d.2.2.1 d.2.2.2.1 d.2.2.2.2.1 d.2.2.2.2.2.1) (fun d => some (d)) v10 v11 v12 r0 c0 r1
noncomputable def Pj (a0 : Stt) : Option ((((List (List Chg)) × Unit) × (Unit))) :=
 bif !Dw a0 then some (([], ()), ()) else ((fun d => B7 (Ei d.1 d.2.1 d.2.2.1 d.2.2.2.1 d.2.2.2.2.1 d.2.2.2.2.2.1) d.1 d.2.1 d.2.2.1 d.2.2.2.1 d.2.2.2.2.1 d.2.2.2.2.2.1) (a0.1, nI (List.length a0.1), 0, [], false, [], ())).bind fun val => some ((bif val.2.1 then val.1 ++ [val.2.2.1] else val.1, ()), ())
theorem Agm (a0 : Stt) : Pj a0 = some (((Fd a0), ()), (())) := by
 unfold Pj Fd Dg
 show (bif !Aq a0 then _ else _) = _
 cases hv : Aq a0 with
 | false => rfl
 | true =>
  have hl := D2 hv
  have hL := Fq (xs := a0.1) zP Aq5 P4 (g := fun m i s => B7 m a0.1 (nI a0.1.length) i s.1 s.2.1 s.2.2) (ok := fun s => (s.1, s.2.1, s.2.2, ())) (fun m i s hi hI => by
   show B7 (m + 1) a0.1 (nI a0.1.length) i s.1 s.2.1 s.2.2 = _
   obtain ⟨r0, c0, r1⟩ := s
   obtain ⟨h1, h2, h3, h4⟩ := hI
   simp only at h2 h3 h4 ⊢
   simp only [B7, Hr]
   rw [Mg hi, Fh, wI (show i < 4611686018427387904 by omega), Int.toNat_natCast, A12]
   unfold P4
   cases hc : (i % 20 == 0)
   ·have hp : 0 < i := Nat.pos_of_ne_zero fun q => by subst q; cases hc
    have hc0 := h3 hp
    subst hc0
    have e1 := Asj r0.length (by omega)
    have e2 : decide ((r0.length : Int) < nI (r0.length + 1)) = true := Mg (Nat.lt_succ_self _)
    have e3 : decide ((r1.length + 1) * 40 ≤ 140737488355328) = true := decide_eq_true (by omega)
    simp only [Bool.toNat_true, List.length_singleton, cond_true, cond_false, e1, e2, e3, Fh, Int.toNat_natCast, decide_true]
    rfl
   ·have hL : List.length (bif c0 then r0 ++ [r1] else r0) ≤ i + 1 := by cases c0 <;> simp <;> omega
    have e1 := Asj (List.length (bif c0 then r0 ++ [r1] else r0)) (by omega)
    have e2 : decide (((List.length (bif c0 then r0 ++ [r1] else r0) : Nat) : Int) < nI (List.length (bif c0 then r0 ++ [r1] else r0) + 1)) = true := Mg (Nat.lt_succ_self _)
    have e3 : decide ((r0.length + Bool.toNat c0 + 1) * 24 ≤ 140737488355328) = true := decide_eq_true (by cases c0 <;> simp <;> omega)
    simp only [Bool.toNat_true, cond_true, e1, e2, e3, Fh, Int.toNat_natCast, decide_true]
    rfl) (fun i s hi hI => hI.step (by omega) _) (fun m s hI => by
   show B7 (m + 1) a0.1 (nI a0.1.length) (a0.1.length : Int) s.1 s.2.1 s.2.2 = _
   simp only [B7, Hr]
   rw [Hx]
   rfl) (Ei a0.1 (nI a0.1.length) 0 [] false []) 0 ([], false, []) (by omega) (by simp [Ei, nI]) ⟨by omega, by simp, fun q => by omega, by simp⟩
  have hL' : B7 (Ei a0.1 (nI a0.1.length) 0 [] false []) a0.1 (nI a0.1.length) 0 [] false [] = _ := hL
  show (B7 (Ei a0.1 (nI a0.1.length) 0 [] false []) a0.1 (nI a0.1.length) 0 [] false []).bind _ = _
  rw [hL']
  rfl
noncomputable def S6 {R : Type} (k : Kt R) := (Hw (pa_impl_Snapshot 6) (.exit 0) 2 k)
noncomputable def Yj {R : Type} : Lt R pa_impl_Snapshot := (D5 (pat := pa_impl_Snapshot) 6 (fun d k => (B7 (Ei d.1 d.2.1 d.2.2.1 d.2.2.2.1 d.2.2.2.2.1 d.2.2.2.2.2.1) d.1 d.2.1 d.2.2.1 d.2.2.2.1 d.2.2.2.2.1 d.2.2.2.2.2.1).bind (S6 k)) Ff)
theorem V8 : Au Tryz.prog ta_impl_Snapshot := At ⟨Jm, trivial⟩
theorem Abn {R : Type} : Aw Tryz.prog R 43 0 pa_impl_Snapshot Yj co_impl_Snapshot_6 :=
 B1 (cfg := ⟨ta_impl_Snapshot, 0, 43, pa_impl_Snapshot⟩) 6 [] (fun NX X (d : (List Pr2) × (Int) × (Int) × (List (List Chg)) × (Bool) × (List Chg) × Unit) => Hr  NX X d.1 d.2.1 d.2.2.1 d.2.2.2.1 d.2.2.2.2.1 d.2.2.2.2.2.1) (fun m d => B7 m d.1 d.2.1 d.2.2.1 d.2.2.2.1 d.2.2.2.2.1 d.2.2.2.2.2.1) (fun d => Ei d.1 d.2.1 d.2.2.1 d.2.2.2.1 d.2.2.2.2.1 d.2.2.2.2.2.1) S6 V8 trivial (fun f NX (d : (List Pr2) × (Int) × (Int) × (List (List Chg)) × (Bool) × (List Chg) × Unit) => by unfold Hr; simp only [Aj, Ap, Ai, Option.bind_assoc, Option.bind_none, Option.bind_some]) (fun _ _ _ => by kernel_rfl)
theorem V9 : Bf Tryz.prog 172 sd_impl_Snapshot :=
 Ar (pat := pa_impl_Snapshot) [co_impl_Snapshot_6] Yj V8 ⟨Abn, trivial⟩ Tryz.func172 (de := fun x => Pj x.1) (fun x r h => (Agm x.1).trans h) fun _ => by kernel_rfl
def Ata : Sig := ⟨[.rd tI], [none], [.rd tI], [none]⟩
noncomputable def Ad0 (a0 : Int) : Option ((((Int) × Unit) × (Unit))) :=
 some ((IntKind.i64.wrap (IntKind.i64.wrap (64 - a0) - 8), ()), ())
noncomputable def sd_impl_room : SD := ⟨Ata, fun x => Ad0 x.1⟩
theorem Rj : Bf Tryz.prog 157 sd_impl_room :=
 Ar (pat := Ci) [] Ff (At (l := []) trivial) trivial Tryz.func157 (de := fun x => Ad0 x.1) (fun x r h => h) fun _ => by kernel_rfl
def Jp (s : ByteArray) (w : Int) : Option Int := if s.size ≤ 1099511627776 then some (Fg s.size w) else none
def Apl : Sig := ⟨[.rd .str, .rd tI], [none, none], [.rd tI], [none]⟩
noncomputable def sd_impl_Pages : SD := ⟨Apl, fun x => (Jp x.1 x.2.1).bind fun r => some ((r, ()), (()))⟩
noncomputable def Ux (a0 : ByteArray) (a1 : Int) : Option ((((Int) × Unit) × (Unit))) :=
 bif !Bh a1 1 8 then some ((0, ()), ()) else bif !decide (IntKind.i64.wrap (IntKind.i64.wrap (64 - a1) - 8) = 0) then some ((if IntKind.i64.wrap ((IntKind.i64.wrap (IntKind.i64.wrap (nI a0.size + IntKind.i64.wrap (IntKind.i64.wrap (64 - a1) - 8)) - 1)).tdiv (IntKind.i64.wrap (IntKind.i64.wrap (64 - a1) - 8))) > 1 then IntKind.i64.wrap ((IntKind.i64.wrap (IntKind.i64.wrap (nI a0.size + IntKind.i64.wrap (IntKind.i64.wrap (64 - a1) - 8)) - 1)).tdiv (IntKind.i64.wrap (IntKind.i64.wrap (64 - a1) - 8))) else 1, ()), ()) else none
theorem Apm (a0 : ByteArray) (a1 : Int) r (h : Jp a0 a1 = some r) : Ux a0 a1 = some ((r, ()), (())) := by
 unfold Jp at h
 split at h
 ·rename_i hc
  cases h
  unfold Ux Fg
  show (bif !Eo a1 1 8 then _ else _) = _
  cases hw : Eo a1 1 8 with
  | false => rfl
  | true =>
   have k1 := (G4 hw).1
   have k2 := (G4 hw).2
   have hq : 0 ≤ ((a0.size : Int) + (56 - a1) - 1) / (56 - a1) := Int.ediv_nonneg (by omega) (by omega)
   have hq2 : ((a0.size : Int) + (56 - a1) - 1) / (56 - a1) ≤ (a0.size : Int) + (56 - a1) - 1 := Int.ediv_le_self _ (by omega)
   rw [Ag (n := 64 - a1) (by omega) (by omega), Ag (n := 64 - a1 - 8) (by omega) (by omega), show 64 - a1 - 8 = 56 - a1 by omega]
   simp only [nI]
   rw [Ag (n := (a0.size : Int) + (56 - a1)) (by omega) (by omega), Ag (n := (a0.size : Int) + (56 - a1) - 1) (by omega) (by omega), Int.tdiv_eq_ediv_of_nonneg (by omega), Ag (n := ((a0.size : Int) + (56 - a1) - 1) / (56 - a1)) (by omega) (by omega), decide_eq_false (show ¬ (56 - a1 = 0) by omega)]
   rfl
 ·cases h
theorem y6 : Bf Tryz.prog 173 sd_impl_Pages :=
 Ar (pat := Ci) [] Ff (At (l := [(112, sd_impl_in), (157, sd_impl_room)]) ⟨Dq, Rj, trivial⟩) trivial Tryz.func173 (de := fun x => Ux x.1 x.2.1) (fun x r h => A3 (Apm x.1 x.2.1) h) fun _ => by kernel_rfl
def M8 (s : Stt) (w : Int) : Int := R5 s w
def Atb : Sig := ⟨[.rd Bd, .rd tI], [some 1, none], [.rd tI], [none]⟩
noncomputable def sd_impl_Room : SD := ⟨Atb, fun x => some (((M8 x.1 x.2.1), ()), (()))⟩
noncomputable def ta_impl_Room : Tb := tb [(94, sd_impl_FormBatch), (112, sd_impl_in), (172, sd_impl_Snapshot), (173, sd_impl_Pages)]
def pa_impl_Room : Nat → Pat × (Nat → Pat) := Fj [(6, ⟨[.sl 12 0 (.sl D8)], [(1, .lf (.d tI)), (5, .lf (.d tI)), (12, .lf (.d (.sl (.sl D8)))), (13, .lf (.d tI)), (14, .lf (.d tI))], []⟩, [(2, ⟨[], [(5, .lf (.d tI))], []⟩)])]
noncomputable def co_impl_Room_6 : Code := (Ao (A4 Tryz.f92)).getD 0 .skip
def Hs (v1 : Int) (v5 : Int) (v12 : List (List Chg)) (v13 : Int) (v14 : Int) : Nat := (v13 - v14).toNat + 1
noncomputable def K0 {R : Type}  (NX : ((Int) × (Int) × (List (List Chg)) × (Int) × (Int) × Unit) → Option R) (X2 : ((Int) × Unit) → Option R) (v1 : Int) (v5 : Int) (v12 : List (List Chg)) (v13 : Int) (v14 : Int) : Option R :=
 bif decide (v14 < v13) then bif decide (0 ≤ v14) then bif decide (v14 < nI v12.length) then ((Jp (Fv (v12.getD v14.toNat [])) v1).bind fun val => some ((val, ()), ())).bind fun val => NX (v1, IntKind.i64.wrap (v5 + val.1.1), v12, v13, IntKind.i64.wrap (v14 + 1), ()) else none else none else X2 (v5, ())
noncomputable def C9 : Nat → (Int) → (Int) → (List (List Chg)) → (Int) → (Int) →  Option ((Int) × Unit)
 | 0, _, _, _, _, _ => none
 | m + 1, v1, v5, v12, v13, v14 => K0  (fun d => C9 m d.1 d.2.1 d.2.2.1 d.2.2.2.1 d.2.2.2.2.1) (fun d => some (d)) v1 v5 v12 v13 v14
noncomputable def Xi (a0 : Stt) (a1 : Int) : Option ((((Int) × Unit) × (Unit))) :=
 bif !Bh a1 1 8 then some ((0, ()), ()) else ((fun d => C9 (Hs d.1 d.2.1 d.2.2.1 d.2.2.2.1 d.2.2.2.2.1) d.1 d.2.1 d.2.2.1 d.2.2.2.1 d.2.2.2.2.1) (a1, 0, Fd a0, nI (Fd a0).length, 0, ())).bind fun val => some (val, ())
theorem Atc (a0 : Stt) (a1 : Int) : Xi a0 a1 = some (((M8 a0 a1), ()), (())) := by
 unfold Xi M8
 show (bif !Eo a1 1 8 then _ else _) = _
 cases hw : Eo a1 1 8 with
 | false => unfold R5; rw [hw]; rfl
 | true =>
  have hl := Rn a0
  have hL := Fq (xs := Dg a0) [] A0a (fun _ b a => a + Fg (F4 b).size a1) (g := fun m i a => C9 m a1 a (Dg a0) (nI (Dg a0).length) i) (ok := fun a => (a, ())) (fun m i a hi hI => by
   show C9 (m + 1) a1 a (Dg a0) (nI (Dg a0).length) i = _
   simp only [C9, K0]
   rw [Mg hi, Fh, wI (show i < 4611686018427387904 by omega), Int.toNat_natCast]
   have e1 : Jp (Fv (List.getD (Dg a0) i [])) a1 = some (Fg (F4 (List.getD (Dg a0) i [])).size a1) := if_pos (Nat.le_trans (Mj _) (by decide))
   rw [e1]
   simp only [cond_true, Option.bind_some]
   rw [Al9 hI]) (fun i a hi hI => hI.step (by omega) _ _) (fun m a hI => by
   show C9 (m + 1) a1 a (Dg a0) (nI (Dg a0).length) ((Dg a0).length : Int) = _
   simp only [C9, K0]
   rw [Hx]
   rfl) (Hs a1 0 (Dg a0) (nI (Dg a0).length) 0) 0 0 (by omega) (by simp [Hs, nI]) ⟨by omega, by omega, by omega⟩
  have hL' : C9 (Hs a1 0 (Dg a0) (nI (Dg a0).length) 0) a1 0 (Dg a0) (nI (Dg a0).length) 0 = _ := hL
  show (C9 (Hs a1 0 (Dg a0) (nI (Dg a0).length) 0) a1 0 (Dg a0) (nI (Dg a0).length) 0).bind _ = _
  rw [hL', Afg, List.drop_zero, Avc, Int.zero_add]
  rfl
noncomputable def e9 {R : Type} (k : Kt R) := (Hw (pa_impl_Room 6) (.exit 0) 2 k)
noncomputable def Ahx {R : Type} : Lt R pa_impl_Room := (D5 (pat := pa_impl_Room) 6 (fun d k => (C9 (Hs d.1 d.2.1 d.2.2.1 d.2.2.2.1 d.2.2.2.2.1) d.1 d.2.1 d.2.2.1 d.2.2.2.1 d.2.2.2.2.1).bind (e9 k)) Ff)
theorem Ad1 : Au Tryz.prog ta_impl_Room := At ⟨Uc, Dq, V9, y6, trivial⟩
theorem An4 {R : Type} : Aw Tryz.prog R 26 0 pa_impl_Room Ahx co_impl_Room_6 :=
 B1 (cfg := ⟨ta_impl_Room, 0, 26, pa_impl_Room⟩) 6 [] (fun NX X d => K0  NX X d.1 d.2.1 d.2.2.1 d.2.2.2.1 d.2.2.2.2.1) (fun m d => C9 m d.1 d.2.1 d.2.2.1 d.2.2.2.1 d.2.2.2.2.1) (fun d => Hs d.1 d.2.1 d.2.2.1 d.2.2.2.1 d.2.2.2.2.1) e9 Ad1 trivial (fun f NX d => by unfold K0; simp only [Aj, Ap, Ai, Option.bind_assoc, Option.bind_none, Option.bind_some]) (fun _ _ _ => by kernel_rfl)
theorem Ad2 : Bf Tryz.prog 92 sd_impl_Room :=
 Ar (pat := pa_impl_Room) [co_impl_Room_6] Ahx Ad1 ⟨An4, trivial⟩ Tryz.func92 (de := fun x => Xi x.1 x.2.1) (fun x r h => (Atc x.1 x.2.1).trans h) fun _ => by kernel_rfl
def C3 (h n : Int) : Int := IntKind.i64.wrap (2 + IntKind.i64.wrap (h * Bi n))
def Apn : Sig := ⟨[.rd tI, .rd tI], [none, none], [.rd tI], [none]⟩
noncomputable def sd_impl_begin : SD := ⟨Apn, fun x => some (((C3 x.1 x.2.1), ()), (()))⟩
noncomputable def y7 (a0 : Int) (a1 : Int) : Option ((((Int) × Unit) × (Unit))) :=
 some ((IntKind.i64.wrap (2 + IntKind.i64.wrap (a0 * Bi a1)), ()), ())
theorem Apo (a0 : Int) (a1 : Int) : y7 a0 a1 = some (((C3 a0 a1), ()), (())) := rfl
theorem y8 : Bf Tryz.prog 95 sd_impl_begin :=
 Ar (pat := Ci) [] Ff (At (l := [(91, sd_impl_Halves)]) ⟨N7, trivial⟩) trivial Tryz.func95 (de := fun x => y7 x.1 x.2.1) (fun x r h => (Apo x.1 x.2.1).trans h) fun _ => by kernel_rfl
def Fw (d : Dk) : Bool := Bp d
def Ad3 : Sig := ⟨[.rd P3], [some 2], [.rd .bool], [none]⟩
noncomputable def sd_impl_ValidDisk : SD := ⟨Ad3, fun x => some (((Fw x.1), ()), (()))⟩
noncomputable def ta_impl_ValidDisk : Tb := tb [(112, sd_impl_in)]
def pa_impl_ValidDisk : Nat → Pat × (Nat → Pat) := Fj [(5, ⟨[.sl 19 0 .str, .boxSl 1 0 .str, .boxSl 1 1 Ey], [(1, .lf (.ptr 0 0)), (19, .lf (.d (.sl .str))), (20, .lf (.d tI)), (21, .lf (.d tI))], [.box 26 [.d (.sl .str), .d (.sl Ey)]]⟩, [(2, ⟨[.boxSl 1 0 .str, .boxSl 1 1 Ey], [(1, .lf (.ptr 0 0))], [.box 26 [.d (.sl .str), .d (.sl Ey)]]⟩), (1, ⟨[], [(2, .lf (.d .bool))], []⟩)]), (11, ⟨[.sl 30 0 Ey, .boxSl 1 0 .str, .boxSl 1 1 Ey], [(1, .lf (.ptr 0 0)), (30, .lf (.d (.sl Ey))), (31, .lf (.d tI)), (32, .lf (.d tI))], [.box 26 [.d (.sl .str), .d (.sl Ey)]]⟩, [(4, p0), (1, ⟨[], [(2, .lf (.d .bool))], []⟩)])]
noncomputable def co_impl_ValidDisk_5 : Code := (Ao (A4 Tryz.f111)).getD 0 .skip
noncomputable def co_impl_ValidDisk_11 : Code := (Ao (A4 Tryz.f111)).getD 1 .skip
def Da (v30 : List Wr) (v31 : Int) (v32 : Int) (b0_0 : List ByteArray) (b0_1 : List Wr) : Nat := (v31 - v32).toNat + 1
noncomputable def Ge {R : Type}  (NX : ((List Wr) × (Int) × (Int) × (List ByteArray) × (List Wr) × Unit) → Option R) (X4 : (Unit) → Option R) (X1 : ((Bool) × Unit) → Option R) (v30 : List Wr) (v31 : Int) (v32 : Int) (b0_0 : List ByteArray) (b0_1 : List Wr) : Option R :=
 bif decide (v32 < v31) then bif decide (0 ≤ v32) then bif decide (v32 < nI v30.length) then bif !Bh (v30.getD v32.toNat (0, ByteArray.mk #[], ())).1 0 (IntKind.i64.wrap (nI b0_0.length - 1)) then X1 (false, ()) else bif nI (ByteArray.size (v30.getD v32.toNat (0, ByteArray.mk #[], ())).2.1) != 64 then X1 (false, ()) else NX (v30, v31, IntKind.i64.wrap (v32 + 1), b0_0, b0_1, ()) else none else none else X4 PUnit.unit
noncomputable def Bt : Nat → (List Wr) → (Int) → (Int) → (List ByteArray) → (List Wr) →  Option ((Unit) ⊕ ((Bool) × Unit))
 | 0, _, _, _, _, _ => none
 | m + 1, v30, v31, v32, b0_0, b0_1 => Ge  (fun d => Bt m d.1 d.2.1 d.2.2.1 d.2.2.2.1 d.2.2.2.2.1) (fun d => some (.inl (d))) (fun d => some (.inr (d))) v30 v31 v32 b0_0 b0_1
def Dr (v19 : List ByteArray) (v20 : Int) (v21 : Int) (b0_0 : List ByteArray) (b0_1 : List Wr) : Nat := (v20 - v21).toNat + 1
noncomputable def Gz {R : Type}  (NX : ((List ByteArray) × (Int) × (Int) × (List ByteArray) × (List Wr) × Unit) → Option R) (X2 : Dk → Option R) (X1 : ((Bool) × Unit) → Option R) (v19 : List ByteArray) (v20 : Int) (v21 : Int) (b0_0 : List ByteArray) (b0_1 : List Wr) : Option R :=
 bif decide (v21 < v20) then bif decide (0 ≤ v21) then bif decide (v21 < nI v19.length) then bif nI (ByteArray.size (v19.getD v21.toNat (ByteArray.mk #[]))) != 64 then X1 (false, ()) else NX (v19, v20, IntKind.i64.wrap (v21 + 1), b0_0, b0_1, ()) else none else none else X2 (b0_0, b0_1, ())
noncomputable def Bx : Nat → (List ByteArray) → (Int) → (Int) → (List ByteArray) → (List Wr) →  Option (Dk ⊕ ((Bool) × Unit))
 | 0, _, _, _, _, _ => none
 | m + 1, v19, v20, v21, b0_0, b0_1 => Gz  (fun d => Bx m d.1 d.2.1 d.2.2.1 d.2.2.2.1 d.2.2.2.2.1) (fun d => some (.inl (d))) (fun d => some (.inr (d))) v19 v20 v21 b0_0 b0_1
noncomputable def Oc (a0 : Dk) : Option ((((Bool) × Unit) × (Unit))) :=
 bif !Bh (nI (List.length a0.1)) 8 200 then some ((false, ()), ()) else bif decide (nI (List.length a0.2.1) > 300) then some ((false, ()), ()) else ((fun d => Bx (Dr d.1 d.2.1 d.2.2.1 d.2.2.2.1 d.2.2.2.2.1) d.1 d.2.1 d.2.2.1 d.2.2.2.1 d.2.2.2.2.1) (a0.1, nI (List.length a0.1), 0, a0)).bind fun val => Be (fun val => ((fun d => Bt (Da d.1 d.2.1 d.2.2.1 d.2.2.2.1 d.2.2.2.2.1) d.1 d.2.1 d.2.2.1 d.2.2.2.1 d.2.2.2.2.1) (val.2.1, nI (List.length val.2.1), 0, val)).bind fun val => Be (fun val => some ((true, ()), ())) (fun val => some (val, ())) val) (fun val => some (val, ())) val
theorem Ad4 (a0 : Dk) : Oc a0 = some ((Fw a0, ()), ()) := by
 unfold Oc Fw Bp
 have c1 : decide (nI a0.2.1.length > 300) = !decide (a0.2.1.length ≤ 300) := Zj _ 300
 rw [c1]
 show (bif !Eo (a0.1.length : Int) 8 200 then _ else _) = _
 cases hin : Eo (a0.1.length : Int) 8 200 with
 | false => rfl
 | true =>
  have hlen : a0.1.length ≤ 200 := by have := of_decide_eq_true (Cj hin).2; omega
  by_cases hp : a0.2.1.length ≤ 300
  ·rw [decide_eq_true hp]
   have hL := Ix (n := a0.1.length) (fun i => decide ((a0.1.getD i z0).size = 64)) (g := fun m i => Bx m a0.1 (nI a0.1.length) i a0.1 a0.2.1) (ok := .inl (a0.1, a0.2.1, ())) (bad := .inr (false, ())) (fun m i hi => by
    show Bx (m + 1) a0.1 (nI a0.1.length) i a0.1 a0.2.1 = _
    simp only [Bx, Gz]
    have g1 : (nI (ByteArray.size (List.getD a0.1 i (ByteArray.mk #[]))) != 64) = !decide ((a0.1.getD i z0).size = 64) := Az3 _ 64
    rw [Mg hi, Fh, wI (show i < 4611686018427387904 by omega), Int.toNat_natCast, g1]
    cases decide ((a0.1.getD i z0).size = 64) <;> rfl) (fun m => by
    show Bx (m + 1) a0.1 (nI a0.1.length) (a0.1.length : Int) a0.1 a0.2.1 = _
    simp only [Bx, Gz]
    rw [Hx]
    rfl) (Dr a0.1 (nI a0.1.length) 0 a0.1 a0.2.1) 0 (by omega) (by simp [Dr, nI])
   have hL' : Bx (Dr a0.1 (nI a0.1.length) 0 a0.1 a0.2.1) a0.1 (nI a0.1.length) 0 a0.1 a0.2.1 = _ := hL
   have hM := Ix (n := a0.2.1.length) (fun i => Aic a0.1.length (a0.2.1.getD i zW)) (g := fun m i => Bt m a0.2.1 (nI a0.2.1.length) i a0.1 a0.2.1) (ok := .inl ()) (bad := .inr (false, ())) (fun m i hi => by
    show Bt (m + 1) a0.2.1 (nI a0.2.1.length) i a0.1 a0.2.1 = _
    simp only [Bt, Ge]
    have g1 : (nI (ByteArray.size (List.getD a0.2.1 i (0, ByteArray.mk #[], ())).2.1) != 64) = !decide ((a0.2.1.getD i zW).2.1.size = 64) := Az3 _ 64
    have hw : IntKind.i64.wrap (nI a0.1.length - 1) = (a0.1.length : Int) - 1 := Ag (by simp only [nI]; omega) (by simp only [nI]; omega)
    rw [Mg hi, Fh, wI (show i < 4611686018427387904 by omega), Int.toNat_natCast, g1, hw]
    have g2 : Bh (List.getD a0.2.1 i (0, ByteArray.mk #[], ())).1 0 ((a0.1.length : Int) - 1) = (decide (0 ≤ (a0.2.1.getD i zW).1) && decide ((a0.2.1.getD i zW).1 < (a0.1.length : Int))) := by
     show (decide (0 ≤ (a0.2.1.getD i zW).1) && decide ((a0.2.1.getD i zW).1 ≤ (a0.1.length : Int) - 1)) = _
     congr 1
     exact decide_eq_decide.2 (by omega)
    rw [g2]
    unfold Aic
    cases decide (0 ≤ (a0.2.1.getD i zW).1) <;> cases decide ((a0.2.1.getD i zW).1 < (a0.1.length : Int)) <;> cases decide ((a0.2.1.getD i zW).2.1.size = 64) <;> rfl) (fun m => by
    show Bt (m + 1) a0.2.1 (nI a0.2.1.length) (a0.2.1.length : Int) a0.1 a0.2.1 = _
    simp only [Bt, Ge]
    rw [Hx]
    rfl) (Da a0.2.1 (nI a0.2.1.length) 0 a0.1 a0.2.1) 0 (by omega) (by simp [Da, nI])
   have hM' : Bt (Da a0.2.1 (nI a0.2.1.length) 0 a0.1 a0.2.1) a0.2.1 (nI a0.2.1.length) 0 a0.1 a0.2.1 = _ := hM
   show (Bx (Dr a0.1 (nI a0.1.length) 0 a0.1 a0.2.1) a0.1 (nI a0.1.length) 0 a0.1 a0.2.1).bind _ = _
   rw [hL']
   rw [Nat.sub_zero] at hM' ⊢
   cases (List.range' 0 a0.1.length).all (fun i => decide ((a0.1.getD i z0).size = 64)) with
   | false => rfl
   | true =>
    show (Bt (Da a0.2.1 (nI a0.2.1.length) 0 a0.1 a0.2.1) a0.2.1 (nI a0.2.1.length) 0 a0.1 a0.2.1).bind _ = _
    rw [hM']
    cases (List.range' 0 a0.2.1.length).all (fun i => Aic a0.1.length (a0.2.1.getD i zW)) <;> rfl
  ·rw [decide_eq_false hp]
   rfl
noncomputable def Q7 {R : Type} (k : Kt R) := (Be (Hw (pa_impl_ValidDisk 5) (.exit 0) 2 k) (Hw (pa_impl_ValidDisk 5) .ret 1 k))
noncomputable def Qc {R : Type} (k : Kt R) := (Be (Hw (pa_impl_ValidDisk 11) (.exit 2) 4 k) (Hw (pa_impl_ValidDisk 11) .ret 1 k))
noncomputable def Pk {R : Type} : Lt R pa_impl_ValidDisk := (D5 (pat := pa_impl_ValidDisk) 5 (fun d k => (Bx (Dr d.1 d.2.1 d.2.2.1 d.2.2.2.1 d.2.2.2.2.1) d.1 d.2.1 d.2.2.1 d.2.2.2.1 d.2.2.2.2.1).bind (Q7 k)) (D5 (pat := pa_impl_ValidDisk) 11 (fun d k => (Bt (Da d.1 d.2.1 d.2.2.1 d.2.2.2.1 d.2.2.2.2.1) d.1 d.2.1 d.2.2.1 d.2.2.2.1 d.2.2.2.2.1).bind (Qc k)) Ff))
theorem Od : Au Tryz.prog ta_impl_ValidDisk := At ⟨Dq, trivial⟩
theorem f4 {R : Type} : Aw Tryz.prog R 51 0 pa_impl_ValidDisk Pk co_impl_ValidDisk_11 :=
 B1 (cfg := ⟨ta_impl_ValidDisk, 0, 51, pa_impl_ValidDisk⟩) 11 [] (fun NX X d => Ge  NX (fun e => X (.inl (e))) (fun e => X (.inr (e))) d.1 d.2.1 d.2.2.1 d.2.2.2.1 d.2.2.2.2.1) (fun m d => Bt m d.1 d.2.1 d.2.2.1 d.2.2.2.1 d.2.2.2.2.1) (fun d => Da d.1 d.2.1 d.2.2.1 d.2.2.2.1 d.2.2.2.2.1) Qc Od trivial (fun f NX d => by unfold Ge; simp only [Aj, Ap, Ai, Option.bind_assoc, Option.bind_none, Option.bind_some]) (fun _ _ _ => by kernel_rfl)
theorem o6 {R : Type} : Aw Tryz.prog R 51 0 pa_impl_ValidDisk Pk co_impl_ValidDisk_5 :=
 B1 (cfg := ⟨ta_impl_ValidDisk, 0, 51, pa_impl_ValidDisk⟩) 5 [] (fun NX X d => Gz  NX (fun e => X (.inl (e))) (fun e => X (.inr (e))) d.1 d.2.1 d.2.2.1 d.2.2.2.1 d.2.2.2.2.1) (fun m d => Bx m d.1 d.2.1 d.2.2.1 d.2.2.2.1 d.2.2.2.2.1) (fun d => Dr d.1 d.2.1 d.2.2.1 d.2.2.2.1 d.2.2.2.2.1) Q7 Od trivial (fun f NX d => by unfold Gz; simp only [Aj, Ap, Ai, Option.bind_assoc, Option.bind_none, Option.bind_some]) (fun _ _ _ => by kernel_rfl)
theorem Kf : Bf Tryz.prog 111 sd_impl_ValidDisk :=
 Ar (pat := pa_impl_ValidDisk) [co_impl_ValidDisk_5, co_impl_ValidDisk_11] Pk Od ⟨o6, f4, trivial⟩ Tryz.func111 (de := fun x => Oc x.1) (fun x r h => (Ad4 x.1).trans h) fun _ => by kernel_rfl
def Ld (p : Pg) (w : Int) : Bool := Jh p w
def Ad5 : Sig := ⟨[.rd yPg, .rd tI], [some 4, none], [.rd .bool], [none]⟩
noncomputable def sd_impl_validPage : SD := ⟨Ad5, fun x => some (((Ld x.1 x.2.1), ()), (()))⟩
noncomputable def Oe (a0 : Pg) (a1 : Int) : Option ((((Bool) × Unit) × (Unit))) :=
 bif Bh a1 1 8 then bif Bh a0.1 1 4 then bif Bh a0.2.1 1 60000 then bif Bh a0.2.2.1 1 1000000000 then bif decide (nI (ByteArray.size a0.2.2.2.1) ≤ IntKind.i64.wrap (IntKind.i64.wrap (64 - a1) - 8)) then bif a0.1 != 3 then some ((true, ()), ()) else some ((ByteArray.toList a0.2.2.2.1 == (ByteArray.mk #[]).toList, ()), ()) else some ((false, ()), ()) else some ((false, ()), ()) else some ((false, ()), ()) else some ((false, ()), ()) else some ((false, ()), ())
theorem Ad6 (a0 : Pg) (a1 : Int) : Oe a0 a1 = some (((Ld a0 a1), ()), (())) := by
 unfold Oe Ld Jh
 have tl : ByteArray.toList (ByteArray.mk #[]) = [] := by decide +kernel
 rw [tl]
 show (bif Eo a1 1 8 then (bif Eo a0.1 1 4 then (bif Eo a0.2.1 1 60000 then (bif Eo a0.2.2.1 1 1000000000 then _ else _) else _) else _) else _) = _
 cases hw : Eo a1 1 8 with
 | false => rfl
 | true =>
  have k1 := of_decide_eq_true (Cj hw).1
  have k2 := of_decide_eq_true (Cj hw).2
  rw [Ag (n := 64 - a1) (by omega) (by omega), Ag (by omega) (by omega), show 64 - a1 - 8 = 56 - a1 by omega]
  cases Eo a0.1 1 4 <;> cases Eo a0.2.1 1 60000 <;> cases Eo a0.2.2.1 1 1000000000 <;> try rfl
  show (bif decide ((ByteArray.size a0.2.2.2.1 : Int) ≤ 56 - a1) then _ else _) = _
  cases decide ((ByteArray.size a0.2.2.2.1 : Int) ≤ 56 - a1) <;> cases (a0.1 != 3) <;> rfl
theorem Ad7 : Bf Tryz.prog 188 sd_impl_validPage :=
 Ar (pat := Ci) [] Ff (At (l := [(112, sd_impl_in), (157, sd_impl_room)]) ⟨Dq, Rj, trivial⟩) trivial Tryz.func188 (de := fun x => Oe x.1 x.2.1) (fun x r h => (Ad6 x.1 x.2.1).trans h) fun _ => by kernel_rfl
def Ad8 : Sig := ⟨[.rd .str, .rd (.int .i64)], [none, none], [.rd .str], [none]⟩
noncomputable def Of : SD := ⟨Ad8, fun x => (Aas x.1 x.2.1).bind fun r => some ((r, ()), ())⟩
theorem Ad9 : Jt Tryz.prog 189 ∧ Yz Tryz.prog 189 Of.sg Of.den := ⟨⟨_, Tryz.func189, by kernel_rfl, by kernel_rfl⟩, A11⟩
def Pl (s : ByteArray) (w : Int) : Option ByteArray := if s.size < 4611686018427387904 then some (Acv s w) else none
def Lw (v0 : ByteArray) (v1 v5 v6 : Int) : Nat := (nI v0.size - v6).toNat + 1
def Av0 : Sig := ⟨[.rd .str, .rd tI], [none, none], [.rd .str], [none]⟩
noncomputable def sd_impl_Sum : SD := ⟨Av0, fun x => (Pl x.1 x.2.1).bind fun r => some ((r, ()), (()))⟩
noncomputable def ta_impl_Sum : Tb := tb [(112, sd_impl_in), (175, sd_impl_be)]
def pa_impl_Sum : Nat → Pat × (Nat → Pat) := Fj [(6, ⟨[], [(0, .lf (.d .str)), (1, .lf (.d tI)), (5, .lf (.d (.int .u64))), (6, .lf (.d tI))], []⟩, [(2, ⟨[], [(1, .lf (.d tI)), (5, .lf (.d (.int .u64)))], []⟩)])]
noncomputable def co_impl_Sum_6 : Code := (Ao (A4 Tryz.f190)).getD 0 .skip
noncomputable def Lx {R : Type}  (NX : ((ByteArray) × (Int) × (Int) × (Int) × Unit) → Option R) (X2 : ((Int) × (Int) × Unit) → Option R) (v0 : ByteArray) (v1 : Int) (v5 : Int) (v6 : Int) : Option R :=
 bif decide (v6 < nI v0.size) then bif decide (0 ≤ v6) then bif decide (v6 < nI v0.size) then NX (v0, v1, IntKind.u64.wrap (IntKind.u64.wrap (nI (BitVec.ofInt 64 v5 ^^^ BitVec.ofInt 64 (IntKind.u64.wrap (Ae v0 v6))).toNat) * 1099511628211), IntKind.i64.wrap (v6 + 1), ()) else none else none else X2 (v1, v5, ())
noncomputable def F2 : Nat → (ByteArray) → (Int) → (Int) → (Int) →  Option ((Int) × (Int) × Unit)
 | 0, _, _, _, _ => none
 | m + 1, v0, v1, v5, v6 => Lx  (fun d => F2 m d.1 d.2.1 d.2.2.1 d.2.2.2.1) (fun d => some (d)) v0 v1 v5 v6
noncomputable def f5 (a0 : ByteArray) (a1 : Int) : Option ((((ByteArray) × Unit) × (Unit))) :=
 bif !Bh a1 1 8 then some ((ByteArray.mk #[], ()), ()) else ((fun d => F2 (Lw d.1 d.2.1 d.2.2.1 d.2.2.2.1) d.1 d.2.1 d.2.2.1 d.2.2.2.1) (a0, a1, 14695981039346656037, 0, ())).bind fun val => bif decide (0 ≤ IntKind.i64.wrap (8 - val.1)) then bif decide (IntKind.i64.wrap (8 - val.1) ≤ nI (C1 (IntKind.i64.wrap val.2.1) (Int.toNat 8)).size) then some ((Ah (C1 (IntKind.i64.wrap val.2.1) (Int.toNat 8)) (IntKind.i64.wrap (8 - val.1)) (nI (C1 (IntKind.i64.wrap val.2.1) (Int.toNat 8)).size), ()), ()) else none else none
theorem Av1 (a0 : ByteArray) (a1 : Int) r (h : Pl a0 a1 = some r) : f5 a0 a1 = some ((r, ()), (())) := by
 unfold Pl at h
 split at h
 rotate_left
 ·cases h
 rename_i hsz
 cases h
 unfold f5 Acv
 generalize hC : (14695981039346656037 : Int) = C
 have h0 : U64 C := by rw [← hC]; exact ⟨by decide, by decide⟩
 show (bif !Eo a1 1 8 then _ else _) = _
 cases hw : Eo a1 1 8 with
 | false => rfl
 | true =>
  have k1 := of_decide_eq_true (Cj hw).1
  have k2 := of_decide_eq_true (Cj hw).2
  ·simp only [Bool.not_true, cond_false, cond_true]
   have hL := l7 a0.size (fun _ _ => True) (fun i h => Zi h (Ae a0 i)) (g := fun m i h => F2 m a0 a1 h i) (ok := fun h => (a1, h, ())) (fun m i h hi _ => by
    show F2 (m + 1) a0 a1 h i = _
    simp only [F2, Lx]
    have c1 : (i : Int) < nI a0.size := by simp only [nI]; omega
    rw [decide_eq_true c1, Fh, wI (show i < 4611686018427387904 by omega)]
    rfl) (fun m h _ => by
    show F2 (m + 1) a0 a1 h a0.size = _
    simp only [F2, Lx]
    rw [decide_eq_false (show ¬ ((a0.size : Int) < nI a0.size) by simp only [nI]; omega)]
    rfl) (fun _ _ _ _ => trivial) a0.size (Lw a0 a1 C 0) 0 C (by omega) (by simp only [Lw, nI]; omega) trivial
   rw [show ((0 : Nat) : Int) = 0 from rfl] at hL
   refine Xr hL ?_
   have e1 : IntKind.i64.wrap (8 - a1) = 8 - a1 := Ag (by omega) (by omega)
   have hh := Ayv a0 a0.size 0 h0
   have eH : iter (fun i h => Zi h (Ae a0 i)) a0.size 0 C = Afc a0 a0.size 0 C := rfl
   rw [eH]
   generalize Afc a0 a0.size 0 C = H at hh ⊢
   show (bif decide (0 ≤ IntKind.i64.wrap (8 - a1)) then (bif decide (IntKind.i64.wrap (8 - a1) ≤ nI (ByteArray.size (C1 (IntKind.i64.wrap H) (Int.toNat 8)))) then some ((Ah (C1 (IntKind.i64.wrap H) (Int.toNat 8)) (IntKind.i64.wrap (8 - a1)) (nI (ByteArray.size (C1 (IntKind.i64.wrap H) (Int.toNat 8)))), ()), ()) else none) else none) = some ((C1 H a1.toNat, ()), ())
   rw [e1, A3b hh k1 k2, decide_eq_true (show 0 ≤ 8 - a1 by omega), decide_eq_true (show 8 - a1 ≤ nI (ByteArray.size (C1 (IntKind.i64.wrap H) (Int.toNat 8))) by rw [Iy]; simp [nI]; omega)]
   rfl
noncomputable def y9 {R : Type} (k : Kt R) := (Hw (pa_impl_Sum 6) (.exit 0) 2 k)
noncomputable def An5 {R : Type} : Lt R pa_impl_Sum := (D5 (pat := pa_impl_Sum) 6 (fun d k => (F2 (Lw d.1 d.2.1 d.2.2.1 d.2.2.2.1) d.1 d.2.1 d.2.2.1 d.2.2.2.1).bind (y9 k)) Ff)
theorem Ahy : Au Tryz.prog ta_impl_Sum := At ⟨Dq, Xh, trivial⟩
theorem App {R : Type} : Aw Tryz.prog R 29 0 pa_impl_Sum An5 co_impl_Sum_6 :=
 B1 (cfg := ⟨ta_impl_Sum, 0, 29, pa_impl_Sum⟩) 6 [] (fun NX X d => Lx  NX X d.1 d.2.1 d.2.2.1 d.2.2.2.1) (fun m d => F2 m d.1 d.2.1 d.2.2.1 d.2.2.2.1) (fun d => Lw d.1 d.2.1 d.2.2.1 d.2.2.2.1) y9 Ahy trivial (fun f NX d => by unfold Lx; simp only [Aj, Ap, Ai, Option.bind_assoc, Option.bind_none, Option.bind_some]) (fun _ _ _ => by kernel_rfl)
theorem Av2 : Bf Tryz.prog 190 sd_impl_Sum :=
 Ar (pat := pa_impl_Sum) [co_impl_Sum_6] An5 Ahy ⟨App, trivial⟩ Tryz.func190 (de := fun x => f5 x.1 x.2.1) (fun x r h => A3 (Av1 x.1 x.2.1) h) fun _ => by kernel_rfl
def Co (p : Pg) (w : Int) : ByteArray := D1 p w
def Agn : Sig := ⟨[.rd yPg, .rd tI], [some 4, none], [.rd .str], [none]⟩
noncomputable def sd_impl_FormPage : SD := ⟨Agn, fun x => some (((Co x.1 x.2.1), ()), (()))⟩
noncomputable def Pm (a0 : Pg) (a1 : Int) : Option ((((ByteArray) × Unit) × (Unit))) :=
 bif !Ld a0 a1 then some ((ByteArray.mk #[], ()), ()) else bif decide ((C1 a0.1 (Int.toNat 1) ++ C1 a0.2.1 (Int.toNat 2) ++ C1 a0.2.2.1 (Int.toNat 4) ++ C1 (nI (ByteArray.size a0.2.2.2.1)) (Int.toNat 1)).size + ByteArray.size a0.2.2.2.1 ≤ 9223372036854775807) then ((Aas (ByteArray.mk #[0]) (IntKind.i64.wrap (IntKind.i64.wrap (64 - a1) - nI (C1 a0.1 (Int.toNat 1) ++ C1 a0.2.1 (Int.toNat 2) ++ C1 a0.2.2.1 (Int.toNat 4) ++ C1 (nI (ByteArray.size a0.2.2.2.1)) (Int.toNat 1) ++ a0.2.2.2.1).size))).bind fun val => some ((val, ()), ())).bind fun val => bif decide ((C1 a0.1 (Int.toNat 1) ++ C1 a0.2.1 (Int.toNat 2) ++ C1 a0.2.2.1 (Int.toNat 4) ++ C1 (nI (ByteArray.size a0.2.2.2.1)) (Int.toNat 1) ++ a0.2.2.2.1).size + ByteArray.size val.1.1 ≤ 9223372036854775807) then ((Pl (C1 a0.1 (Int.toNat 1) ++ C1 a0.2.1 (Int.toNat 2) ++ C1 a0.2.2.1 (Int.toNat 4) ++ C1 (nI (ByteArray.size a0.2.2.2.1)) (Int.toNat 1) ++ a0.2.2.2.1 ++ val.1.1) a1).bind fun val => some ((val, ()), ())).bind fun val_1 => bif decide (ByteArray.size val_1.1.1 + (C1 a0.1 (Int.toNat 1) ++ C1 a0.2.1 (Int.toNat 2) ++ C1 a0.2.2.1 (Int.toNat 4) ++ C1 (nI (ByteArray.size a0.2.2.2.1)) (Int.toNat 1) ++ a0.2.2.2.1 ++ val.1.1).size ≤ 9223372036854775807) then some ((val_1.1.1 ++ (C1 a0.1 (Int.toNat 1) ++ C1 a0.2.1 (Int.toNat 2) ++ C1 a0.2.2.1 (Int.toNat 4) ++ C1 (nI (ByteArray.size a0.2.2.2.1)) (Int.toNat 1) ++ a0.2.2.2.1 ++ val.1.1), ()), ()) else none else none else none
theorem Ago (a0 : Pg) (a1 : Int) : Pm a0 a1 = some (((Co a0 a1), ()), (())) := by
 unfold Pm Co D1
 show (bif !Jh a0 a1 then _ else _) = _
 cases hp : Jh a0 a1 with
 | false => rfl
 | true =>
  obtain ⟨hw, k1, k2, kp⟩ := R1 hp
  simp only [Bool.not_true, cond_false, cond_true]
  have hb : Gj a0 a1 = C1 a0.1 1 ++ C1 a0.2.1 2 ++ C1 a0.2.2.1 4 ++ C1 (nI a0.2.2.2.1.size) 1 ++ a0.2.2.2.1 ++ strOfNums (List.replicate (56 - a1 - a0.2.2.2.1.size).toNat 0) := rfl
  have hs4 : (C1 a0.1 1 ++ C1 a0.2.1 2 ++ C1 a0.2.2.1 4 ++ C1 (nI a0.2.2.2.1.size) 1).size = 8 := by simp only [ByteArray.size_append, Iy]
  have hs5 : (C1 a0.1 1 ++ C1 a0.2.1 2 ++ C1 a0.2.2.1 4 ++ C1 (nI a0.2.2.2.1.size) 1 ++ a0.2.2.2.1).size = 8 + a0.2.2.2.1.size := by rw [ByteArray.size_append, hs4]
  show (bif decide ((C1 a0.1 1 ++ C1 a0.2.1 2 ++ C1 a0.2.2.1 4 ++ C1 (nI a0.2.2.2.1.size) 1).size + a0.2.2.2.1.size ≤ 9223372036854775807) then Option.bind (Option.bind (Aas (ByteArray.mk #[0]) (IntKind.i64.wrap (IntKind.i64.wrap (64 - a1) - nI (C1 a0.1 1 ++ C1 a0.2.1 2 ++ C1 a0.2.2.1 4 ++ C1 (nI a0.2.2.2.1.size) 1 ++ a0.2.2.2.1).size))) _) _ else none) = _
  generalize hB : C1 a0.1 1 ++ C1 a0.2.1 2 ++ C1 a0.2.2.1 4 ++ C1 (nI a0.2.2.2.1.size) 1 ++ a0.2.2.2.1 = B at *
  rw [hs4, decide_eq_true (by omega), Ag (n := 64 - a1) (by omega) (by omega), hs5, Ag (by simp only [nI]; omega) (by simp only [nI]; omega)]
  have hr : Aas (ByteArray.mk #[0]) (64 - a1 - nI (8 + a0.2.2.2.1.size)) = some (strOfNums (List.replicate (56 - a1 - a0.2.2.2.1.size).toNat 0)) := by
   have := A5t (56 - a1 - a0.2.2.2.1.size).toNat (by omega)
   rw [show ((56 - a1 - a0.2.2.2.1.size).toNat : Int) = 64 - a1 - nI (8 + a0.2.2.2.1.size) by simp only [nI]; omega] at this
   exact this
  have hz : (strOfNums (List.replicate (56 - a1 - a0.2.2.2.1.size).toNat 0)).size = (56 - a1 - a0.2.2.2.1.size).toNat := by rw [E1, List.length_replicate]
  generalize strOfNums (List.replicate (56 - a1 - a0.2.2.2.1.size).toNat 0) = Z at *
  refine Xr (Xr hr rfl) ?_
  have hbs : (Gj a0 a1).size ≤ 64 := by rw [hb, ByteArray.size_append, hs5, hz]; omega
  dsimp only
  have hB' : C1 a0.1 (Int.toNat 1) ++ C1 a0.2.1 (Int.toNat 2) ++ C1 a0.2.2.1 (Int.toNat 4) ++ C1 (nI a0.2.2.2.1.size) (Int.toNat 1) ++ a0.2.2.2.1 = B := hB
  rw [hB']
  show (bif decide (ByteArray.size B + ByteArray.size Z ≤ 9223372036854775807) then Option.bind (Option.bind (Pl (B ++ Z) a1) _) _ else none) = _
  have hm : Pl (B ++ Z) a1 = some (Acv (Gj a0 a1) a1) := by
   rw [← hb]
   exact if_pos (by omega)
  rw [hs5, hz, decide_eq_true (by omega)]
  refine Xr (Xr hm rfl) ?_
  show (bif decide (ByteArray.size (Acv (Gj a0 a1) a1) + ByteArray.size (B ++ Z) ≤ 9223372036854775807) then some ((Acv (Gj a0 a1) a1 ++ (B ++ Z), ()), ()) else none) = _
  rw [← hb, Ve hw, decide_eq_true (by omega)]
  rfl
theorem Jb : Bf Tryz.prog 116 sd_impl_FormPage :=
 Ar (pat := Ci) [] Ff (At (l := [(175, sd_impl_be), (188, sd_impl_validPage), (189, Of), (190, sd_impl_Sum)]) ⟨Xh, Ad7, Ad9, Av2, trivial⟩) trivial Tryz.func116 (de := fun x => Pm x.1 x.2.1) (fun x r h => (Ago x.1 x.2.1).trans h) fun _ => by kernel_rfl
def Jq (s : ByteArray) : Option Int := if s.size ≤ 7 then some (Zh s) else none
def Ly (v0 : ByteArray) (v3 v4 : Int) : Nat := (nI v0.size - v4).toNat + 1
def Av3 : Sig := ⟨[.rd .str], [none], [.rd tI], [none]⟩
noncomputable def sd_impl_num : SD := ⟨Av3, fun x => (Jq x.1).bind fun r => some ((r, ()), (()))⟩
noncomputable def ta_impl_num : Tb := tb []
def pa_impl_num : Nat → Pat × (Nat → Pat) := Fj [(4, ⟨[], [(0, .lf (.d .str)), (3, .lf (.d tI)), (4, .lf (.d tI))], []⟩, [(2, ⟨[], [(3, .lf (.d tI))], []⟩)])]
noncomputable def co_impl_num_4 : Code := (Ao (A4 Tryz.f158)).getD 0 .skip
noncomputable def Lz {R : Type}  (NX : ((ByteArray) × (Int) × (Int) × Unit) → Option R) (X2 : ((Int) × Unit) → Option R) (v0 : ByteArray) (v3 : Int) (v4 : Int) : Option R :=
 bif decide (v4 < nI v0.size) then bif decide (0 ≤ v4) then bif decide (v4 < nI v0.size) then NX (v0, IntKind.i64.wrap (nI (BitVec.ofInt 64 (IntKind.i64.wrap (v3 * 2 ^ min (Int.toNat 8) 64)) ||| BitVec.ofInt 64 (IntKind.i64.wrap (Ae v0 v4))).toNat), IntKind.i64.wrap (v4 + 1), ()) else none else none else X2 (v3, ())
noncomputable def Io : Nat → (ByteArray) → (Int) → (Int) →  Option ((Int) × Unit)
 | 0, _, _, _ => none
 | m + 1, v0, v3, v4 => Lz  (fun d => Io m d.1 d.2.1 d.2.2.1) (fun d => some (d)) v0 v3 v4
noncomputable def f7 (a0 : ByteArray) : Option ((((Int) × Unit) × (Unit))) :=
 ((fun d => Io (Ly d.1 d.2.1 d.2.2.1) d.1 d.2.1 d.2.2.1) (a0, 0, 0, ())).bind fun val => some (val, ())
theorem Av4 (s : ByteArray) (hs : s.size ≤ 7) : ∀ (k m i : Nat) (v : Int), i + k = s.size → k < m → 0 ≤ v → v < 256 ^ i → Io m s v i = some (Auv s k i v, ())
 | 0, m + 1, i, v, hi, hm, h0, h1 => by
  simp only [Io, Lz]
  rw [decide_eq_false (show ¬ ((i : Int) < nI s.size) by simp only [nI]; omega)]
  rfl
 | k + 1, m + 1, i, v, hi, hm, h0, h1 => by
  obtain ⟨hb, hs', e⟩ := A29 s i hi (by omega) h0 h1
  simp only [Io, Lz]
  have c1 : (i : Int) < nI s.size := by simp only [nI]; omega
  rw [decide_eq_true c1, decide_eq_true (show (0 : Int) ≤ (i : Int) by omega), wI (show i < 4611686018427387904 by omega), e]
  exact Av4 s hs k m (i + 1) _ (by omega) (by omega) hb hs'
theorem Av5 (a0 : ByteArray) r (h : Jq a0 = some r) : f7 a0 = some ((r, ()), (())) := by
 unfold Jq at h
 split at h
 ·rename_i hc
  cases h
  unfold f7
  have hL := Av4 a0 hc a0.size (Ly a0 0 0) 0 0 (by omega) (by simp only [Ly, nI]; omega) (by omega) (by decide)
  exact Xr hL rfl
 ·cases h
noncomputable def z1 {R : Type} (k : Kt R) := (Hw (pa_impl_num 4) (.exit 0) 2 k)
noncomputable def An6 {R : Type} : Lt R pa_impl_num := (D5 (pat := pa_impl_num) 4 (fun d k => (Io (Ly d.1 d.2.1 d.2.2.1) d.1 d.2.1 d.2.2.1).bind (z1 k)) Ff)
theorem Ahz : Au Tryz.prog ta_impl_num := At trivial
theorem Apq {R : Type} : Aw Tryz.prog R 19 0 pa_impl_num An6 co_impl_num_4 :=
 B1 (cfg := ⟨ta_impl_num, 0, 19, pa_impl_num⟩) 4 [] (fun NX X d => Lz  NX X d.1 d.2.1 d.2.2.1) (fun m d => Io m d.1 d.2.1 d.2.2.1) (fun d => Ly d.1 d.2.1 d.2.2.1) z1 Ahz trivial (fun f NX d => by unfold Lz; simp only [Aj, Ap, Ai, Option.bind_assoc, Option.bind_none, Option.bind_some]) (fun _ _ _ => by kernel_rfl)
theorem Ah0 : Bf Tryz.prog 158 sd_impl_num :=
 Ar (pat := pa_impl_num) [co_impl_num_4] An6 Ahz ⟨Apq, trivial⟩ Tryz.func158 (de := fun x => f7 x.1) (fun x r h => A3 (Av5 x.1) h) fun _ => by kernel_rfl
def Ab (s : ByteArray) (w : Int) : Pg × Bool := Cw s w
def Agp : Sig := ⟨[.rd .str, .rd tI], [none, none], [.rd yPg, .rd .bool], [some 4, none]⟩
noncomputable def sd_impl_ReadPage : SD := ⟨Agp, fun x => some (((Ab x.1 x.2.1).1, (Ab x.1 x.2.1).2, ()), (()))⟩
noncomputable def Pn (a0 : ByteArray) (a1 : Int) : Option (((Pg × (Bool) × Unit) × (Unit))) :=
 bif nI a0.size != 64 then some (((0, 0, 0, ByteArray.mk #[], ()), false, ()), ()) else bif !Bh a1 1 8 then some (((0, 0, 0, ByteArray.mk #[], ()), false, ()), ()) else bif decide (0 ≤ a1) then bif decide (a1 ≤ nI a0.size) then bif decide (7 < nI (Ah a0 a1 (nI a0.size)).size) then bif decide (IntKind.i64.wrap (Ae (Ah a0 a1 (nI a0.size)) 7) > IntKind.i64.wrap (IntKind.i64.wrap (64 - a1) - 8)) then some (((0, 0, 0, ByteArray.mk #[], ()), false, ()), ()) else bif decide (0 < nI (Ah a0 a1 (nI a0.size)).size) then bif decide (3 ≤ nI (Ah a0 a1 (nI a0.size)).size) then ((Jq (Ah (Ah a0 a1 (nI a0.size)) 1 3)).bind fun val => some ((val, ()), ())).bind fun val => bif decide (7 ≤ nI (Ah a0 a1 (nI a0.size)).size) then ((Jq (Ah (Ah a0 a1 (nI a0.size)) 3 7)).bind fun val => some ((val, ()), ())).bind fun val_1 => bif decide (8 ≤ IntKind.i64.wrap (8 + IntKind.i64.wrap (Ae (Ah a0 a1 (nI a0.size)) 7))) then bif decide (IntKind.i64.wrap (8 + IntKind.i64.wrap (Ae (Ah a0 a1 (nI a0.size)) 7)) ≤ nI (Ah a0 a1 (nI a0.size)).size) then bif !(Co (IntKind.i64.wrap (Ae (Ah a0 a1 (nI a0.size)) 0), val.1.1, val_1.1.1, Ah (Ah a0 a1 (nI a0.size)) 8 (IntKind.i64.wrap (8 + IntKind.i64.wrap (Ae (Ah a0 a1 (nI a0.size)) 7))), ()) a1).toList == a0.toList then some (((0, 0, 0, ByteArray.mk #[], ()), false, ()), ()) else some (((IntKind.i64.wrap (Ae (Ah a0 a1 (nI a0.size)) 0), val.1.1, val_1.1.1, Ah (Ah a0 a1 (nI a0.size)) 8 (IntKind.i64.wrap (8 + IntKind.i64.wrap (Ae (Ah a0 a1 (nI a0.size)) 7))), ()), true, ()), ()) else none else none else none else none else none else none else none else none
theorem Agq (a0 : ByteArray) (a1 : Int) : Pn a0 a1 = some (((Ab a0 a1).1, (Ab a0 a1).2, ()), (())) := by
 unfold Pn Ab Cw
 show (bif nI a0.size != 64 then _ else (bif !Eo a1 1 8 then _ else _)) = _
 cases hz : nI a0.size != 64 with
 | true => rfl
 | false =>
   cases hw : Eo a1 1 8 with
   | false => rfl
   | true =>
    have k1 := (G4 hw).1
    have k2 := (G4 hw).2
    have hs : a0.size = 64 := by
     by_cases q : nI a0.size = 64
     ·simp only [nI] at q; omega
     ·rw [(bne_iff_ne).2 q] at hz; cases hz
    have hb : (Ah a0 a1 (nI a0.size)).size = (64 - a1).toNat := by rw [Fp (by omega) (by simp only [nI]; omega) (by simp [nI])]; simp only [nI, hs]; omega
    simp only [Bool.not_true, cond_false, cond_true]
    rw [decide_eq_true (show (0 : Int) ≤ a1 by omega), decide_eq_true (show a1 ≤ nI a0.size by simp only [nI]; omega)]
    unfold Axh
    generalize Ah a0 a1 (nI a0.size) = b at *
    obtain ⟨b0, b1⟩ := Gk b 7
    obtain ⟨c0, c1⟩ := Gk b 0
    have hB : nI b.size = 64 - a1 := by simp only [nI]; omega
    rw [hB, decide_eq_true (show (7 : Int) < 64 - a1 by omega), decide_eq_true (show (0 : Int) < 64 - a1 by omega), decide_eq_true (show (3 : Int) ≤ 64 - a1 by omega), decide_eq_true (show (7 : Int) ≤ 64 - a1 by omega), Ag (n := Ae b 7) (by omega) (by omega), Ag (n := Ae b 0) (by omega) (by omega), Ag (n := 64 - a1) (by omega) (by omega), Ag (n := 64 - a1 - 8) (by omega) (by omega), Ag (n := 8 + Ae b 7) (by omega) (by omega), show 64 - a1 - 8 = 56 - a1 by omega]
    by_cases q : Ae b 7 > 56 - a1
    ·rw [decide_eq_true q]; rfl
    ·rw [decide_eq_false q]
     have n1 : Jq (Ah b 1 3) = some (Zh (Ah b 1 3)) := if_pos (by rw [Fp (by omega) (by omega) (by omega)]; decide)
     have n2 : Jq (Ah b 3 7) = some (Zh (Ah b 3 7)) := if_pos (by rw [Fp (by omega) (by omega) (by omega)]; decide)
     simp only [n1, n2, Option.bind_some, cond_true, cond_false]
     rw [decide_eq_true (show 8 ≤ 8 + Ae b 7 by omega), decide_eq_true (show 8 + Ae b 7 ≤ 64 - a1 by omega)]
     show (bif !(ByteArray.toList (D1 (Axg b) a1) == ByteArray.toList a0) then _ else _) = _
     cases (ByteArray.toList (D1 (Axg b) a1) == ByteArray.toList a0) <;> rfl
theorem Wa : Bf Tryz.prog 68 sd_impl_ReadPage :=
 Ar (pat := Ci) [] Ff (At (l := [(112, sd_impl_in), (116, sd_impl_FormPage), (157, sd_impl_room), (158, sd_impl_num)]) ⟨Dq, Jb, Rj, Ah0, trivial⟩) trivial Tryz.func68 (de := fun x => Pn x.1 x.2.1) (fun x r h => (Agq x.1 x.2.1).trans h) fun _ => by kernel_rfl
def Fy (r : Rt) : Bool := Me r
def Aea : Sig := ⟨[.rd yRt], [some 4], [.rd .bool], [none]⟩
noncomputable def sd_impl_validRoot : SD := ⟨Aea, fun x => some (((Fy x.1), ()), (()))⟩
noncomputable def Og (a0 : Rt) : Option ((((Bool) × Unit) × (Unit))) :=
 bif Bh a0.2.1 0 1 then some ((Bh a0.2.2.1 1 999999000, ()), ()) else some ((false, ()), ())
theorem Aeb (a0 : Rt) : Og a0 = some (((Fy a0), ()), (())) := by
 unfold Og Fy Me
 show (bif Eo a0.2.1 0 1 then _ else _) = _
 cases Eo a0.2.1 0 1 <;> rfl
theorem Oh : Bf Tryz.prog 168 sd_impl_validRoot :=
 Ar (pat := Ci) [] Ff (At (l := [(112, sd_impl_in)]) ⟨Dq, trivial⟩) trivial Tryz.func168 (de := fun x => Og x.1) (fun x r h => (Aeb x.1).trans h) fun _ => by kernel_rfl
def Mv (d : Dk) (a : Int) : Option ByteArray := if d.2.1.length ≤ 1099511627776 ∧ 0 ≤ a ∧ a < (d.1.length : Int) then some (Rd d a) else none
def Ip (v1 : Int) (v5 : Int) (b0_0 : List ByteArray) (b0_1 : List Wr) : Nat := (v5 + 1).toNat + 1
def Av6 : Sig := ⟨[.rd P3, .rd tI], [some 2, none], [.rd .str], [none]⟩
noncomputable def sd_impl_see : SD := ⟨Av6, fun x => (Mv x.1 x.2.1).bind fun r => some ((r, ()), (()))⟩
noncomputable def ta_impl_see : Tb := tb []
def pa_impl_see : Nat → Pat × (Nat → Pat) := Fj [(3, ⟨[.boxSl 2 0 .str, .boxSl 2 1 Ey], [(1, .lf (.d tI)), (2, .lf (.ptr 0 0)), (5, .lf (.d tI))], [.box 26 [.d (.sl .str), .d (.sl Ey)]]⟩, [(2, ⟨[.boxSl 2 0 .str, .boxSl 2 1 Ey], [(1, .lf (.d tI)), (2, .lf (.ptr 0 0))], [.box 26 [.d (.sl .str), .d (.sl Ey)]]⟩), (1, ⟨[], [(4, .lf (.d .str))], []⟩)])]
noncomputable def co_impl_see_3 : Code := (Ao (A4 Tryz.f186)).getD 0 .skip
noncomputable def L1 {R : Type}  (NX : ((Int) × (Int) × (List ByteArray) × (List Wr) × Unit) → Option R) (X2 : ((Int) × (List ByteArray) × (List Wr) × Unit) → Option R) (X1 : ((ByteArray) × Unit) → Option R) (v1 : Int) (v5 : Int) (b0_0 : List ByteArray) (b0_1 : List Wr) : Option R :=
 bif decide (v5 ≥ 0) then bif decide (0 ≤ v5) then bif decide (v5 < nI b0_1.length) then bif (b0_1.getD v5.toNat (0, ByteArray.mk #[], ())).1 == v1 then bif decide (0 ≤ v5) then bif decide (v5 < nI b0_1.length) then X1 (b0_1.getD v5.toNat (0, ByteArray.mk #[], ())).2 else none else none else NX (v1, IntKind.i64.wrap (v5 - 1), b0_0, b0_1, ()) else none else none else X2 (v1, b0_0, b0_1, ())
noncomputable def D3 : Nat → (Int) → (Int) → (List ByteArray) → (List Wr) →  Option (((Int) × (List ByteArray) × (List Wr) × Unit) ⊕ ((ByteArray) × Unit))
 | 0, _, _, _, _ => none
 | m + 1, v1, v5, b0_0, b0_1 => L1  (fun d => D3 m d.1 d.2.1 d.2.2.1 d.2.2.2.1) (fun d => some (.inl (d))) (fun d => some (.inr (d))) v1 v5 b0_0 b0_1
noncomputable def f8 (a0 : Dk) (a1 : Int) : Option ((((ByteArray) × Unit) × (Unit))) :=
 ((fun d => D3 (Ip d.1 d.2.1 d.2.2.1 d.2.2.2.1) d.1 d.2.1 d.2.2.1 d.2.2.2.1) (a1, IntKind.i64.wrap (nI (List.length a0.2.1) - 1), a0)).bind fun val => Be (fun val => bif decide (0 ≤ val.1) then bif decide (val.1 < nI (List.length val.2.1)) then some ((List.getD val.2.1 (Int.toNat val.1) (ByteArray.mk #[]), ()), ()) else none else none) (fun val => some (val, ())) val
theorem Av7 (a0 : Dk) (a1 : Int) r (h : Mv a0 a1 = some r) : f8 a0 a1 = some ((r, ()), (())) := by
 unfold Mv at h
 split at h
 ·rename_i hc
  obtain ⟨hp, h0, h1⟩ := hc
  cases h
  have hw : IntKind.i64.wrap (nI a0.2.1.length - 1) = (a0.2.1.length : Int) - 1 := Ag (by simp only [nI]; omega) (by simp only [nI]; omega)
  have hL := Al4 (xs := a0.2.1) zW (fun w => w.1 == a1) (fun w => .inr (w.2.1, ())) (g := fun m i => D3 m a1 i a0.1 a0.2.1) (ok := .inl (a1, a0.1, a0.2.1, ())) (fun m i hi => by
   show D3 (m + 1) a1 i a0.1 a0.2.1 = _
   simp only [D3, L1]
   have hi0 : (i : Int) ≥ 0 := by omega
   have hw : IntKind.i64.wrap ((i : Int) - 1) = (i : Int) - 1 := Ag (by omega) (by omega)
   rw [decide_eq_true hi0, Mg hi, Int.toNat_natCast, hw]
   rfl) (fun m => by
   show D3 (m + 1) a1 (-1) a0.1 a0.2.1 = _
   simp only [D3, L1]
   rfl) (Ip a1 ((a0.2.1.length : Int) - 1) a0.1 a0.2.1) a0.2.1.length (by omega) (by simp [Ip])
  have hL' : D3 (Ip a1 ((a0.2.1.length : Int) - 1) a0.1 a0.2.1) a1 ((a0.2.1.length : Int) - 1) a0.1 a0.2.1 = _ := hL
  unfold f8
  rw [hw]
  show (D3 (Ip a1 ((a0.2.1.length : Int) - 1) a0.1 a0.2.1) a1 ((a0.2.1.length : Int) - 1) a0.1 a0.2.1).bind _ = _
  rw [hL', List.take_length]
  show Be _ _ _ = _
  have hc1 : decide (0 ≤ a1) = true := decide_eq_true h0
  have hc2 : decide (a1 < nI a0.1.length) = true := decide_eq_true h1
  unfold Rd
  rw [Aat (Be _ _), Aat (fun r : ByteArray => some ((r, ()), ()))]
  simp only [Be, hc1, hc2, cond_true]
  rfl
 ·cases h
noncomputable def z2 {R : Type} (k : Kt R) := (Be (Hw (pa_impl_see 3) (.exit 0) 2 k) (Hw (pa_impl_see 3) .ret 1 k))
noncomputable def An7 {R : Type} : Lt R pa_impl_see := (D5 (pat := pa_impl_see) 3 (fun d k => (D3 (Ip d.1 d.2.1 d.2.2.1 d.2.2.2.1) d.1 d.2.1 d.2.2.1 d.2.2.2.1).bind (z2 k)) Ff)
theorem Ah1 : Au Tryz.prog ta_impl_see := At trivial
theorem Apr {R : Type} : Aw Tryz.prog R 33 0 pa_impl_see An7 co_impl_see_3 :=
 B1 (cfg := ⟨ta_impl_see, 0, 33, pa_impl_see⟩) 3 [] (fun NX X d => L1  NX (fun e => X (.inl (e))) (fun e => X (.inr (e))) d.1 d.2.1 d.2.2.1 d.2.2.2.1) (fun m d => D3 m d.1 d.2.1 d.2.2.1 d.2.2.2.1) (fun d => Ip d.1 d.2.1 d.2.2.1 d.2.2.2.1) z2 Ah1 trivial (fun f NX d => by unfold L1; simp only [Aj, Ap, Ai, Option.bind_assoc, Option.bind_none, Option.bind_some]) (fun _ _ _ => by kernel_rfl)
theorem Ah2 : Bf Tryz.prog 186 sd_impl_see :=
 Ar (pat := pa_impl_see) [co_impl_see_3] An7 Ah1 ⟨Apr, trivial⟩ Tryz.func186 (de := fun x => f8 x.1 x.2.1) (fun x r h => A3 (Av7 x.1 x.2.1) h) fun _ => by kernel_rfl
def As (d : Dk) (w : Int) : Rt := A7 d w
def Mw (v1 v6 : Int) (b0_0 : List ByteArray) (b0_1 : List Wr) (b1_0 b1_1 b1_2 b1_3 b2_0 b2_1 b2_2 b2_3 : Int) : Nat := 3
def Agr : Sig := ⟨[.rd P3, .rd tI], [some 2, none], [.rd yRt], [some 4]⟩
noncomputable def sd_impl_FindRoot : SD := ⟨Agr, fun x => some (((As x.1 x.2.1), ()), (()))⟩
noncomputable def ta_impl_FindRoot : Tb := tb [(68, sd_impl_ReadPage), (111, sd_impl_ValidDisk), (112, sd_impl_in), (158, sd_impl_num), (168, sd_impl_validRoot), (186, sd_impl_see)]
def pa_impl_FindRoot : Nat → Pat × (Nat → Pat) := Fj [(6, ⟨[.boxSl 2 0 .str, .boxSl 2 1 Ey], [(1, .lf (.d tI)), (2, .lf (.ptr 0 0)), (4, .lf (.ptr 1 0)), (5, .lf (.ptr 2 0)), (6, .lf (.d tI))], [.box 26 [.d (.sl .str), .d (.sl Ey)], .box 28 [.d tI, .d tI, .d tI, .d tI], .box 28 [.d tI, .d tI, .d tI, .d tI]]⟩, [(2, ⟨[], [(4, .lf (.ptr 0 0)), (5, .lf (.ptr 1 0))], [.box 28 [.d tI, .d tI, .d tI, .d tI], .box 28 [.d tI, .d tI, .d tI, .d tI]]⟩)])]
noncomputable def co_impl_FindRoot_6 : Code := (Ao (A4 Tryz.f113)).getD 0 .skip
noncomputable def Jr {R : Type}  (NX : ((Int) × (Int) × (List ByteArray) × (List Wr) × (Int) × (Int) × (Int) × (Int) × (Int) × (Int) × (Int) × (Int) × Unit) → Option R) (X2 : ((Int) × (Int) × (Int) × (Int) × (Int) × (Int) × (Int) × (Int) × Unit) → Option R) (v1 : Int) (v6 : Int) (b0_0 : List ByteArray) (b0_1 : List Wr) (b1_0 : Int) (b1_1 : Int) (b1_2 : Int) (b1_3 : Int) (b2_0 : Int) (b2_1 : Int) (b2_2 : Int) (b2_3 : Int) : Option R :=
 bif decide (v6 < 2) then ((Mv (b0_0, b0_1, ()) v6).bind fun val => some ((val, ()), ())).bind fun val => bif !(Ab val.1.1 v1).2 then NX (v1, IntKind.i64.wrap (v6 + 1), b0_0, b0_1, b1_0, b1_1, b1_2, b1_3, b2_0, b2_1, b2_2, b2_3, ()) else bif (Ab val.1.1 v1).1.1 != 4 then NX (v1, IntKind.i64.wrap (v6 + 1), b0_0, b0_1, b1_0, b1_1, b1_2, b1_3, b2_0, b2_1, b2_2, b2_3, ()) else bif nI (ByteArray.size (Ab val.1.1 v1).1.2.2.2.1) != 5 then NX (v1, IntKind.i64.wrap (v6 + 1), b0_0, b0_1, b1_0, b1_1, b1_2, b1_3, b2_0, b2_1, b2_2, b2_3, ()) else bif Int.tmod (Ab val.1.1 v1).1.2.2.1 2 != v6 then NX (v1, IntKind.i64.wrap (v6 + 1), b0_0, b0_1, b1_0, b1_1, b1_2, b1_3, b2_0, b2_1, b2_2, b2_3, ()) else bif decide (0 < nI (ByteArray.size (Ab val.1.1 v1).1.2.2.2.1)) then bif decide (1 ≤ nI (ByteArray.size (Ab val.1.1 v1).1.2.2.2.1)) then ((Jq (Ah (Ab val.1.1 v1).1.2.2.2.1 1 (nI (ByteArray.size (Ab val.1.1 v1).1.2.2.2.1)))).bind fun val => some ((val, ()), ())).bind fun val_1 => bif Fy ((Ab val.1.1 v1).1.2.2.1, IntKind.i64.wrap (Ae (Ab val.1.1 v1).1.2.2.2.1 0), val_1.1.1, (Ab val.1.1 v1).1.2.1, ()) then bif decide ((Ab val.1.1 v1).1.2.2.1 > b2_0) then NX (v1, IntKind.i64.wrap (v6 + 1), b0_0, b0_1, b1_0, b1_1, b1_2, b1_3, (Ab val.1.1 v1).1.2.2.1, IntKind.i64.wrap (Ae (Ab val.1.1 v1).1.2.2.2.1 0), val_1.1.1, (Ab val.1.1 v1).1.2.1, ()) else NX (v1, IntKind.i64.wrap (v6 + 1), b0_0, b0_1, b1_0, b1_1, b1_2, b1_3, b2_0, b2_1, b2_2, b2_3, ()) else NX (v1, IntKind.i64.wrap (v6 + 1), b0_0, b0_1, b1_0, b1_1, b1_2, b1_3, b2_0, b2_1, b2_2, b2_3, ()) else none else none else X2 (b1_0, b1_1, b1_2, b1_3, b2_0, b2_1, b2_2, b2_3, ())
noncomputable def Ej : Nat → (Int) → (Int) → (List ByteArray) → (List Wr) → (Int) → (Int) → (Int) → (Int) → (Int) → (Int) → (Int) → (Int) →  Option ((Int) × (Int) × (Int) × (Int) × (Int) × (Int) × (Int) × (Int) × Unit)
 | 0, _, _, _, _, _, _, _, _, _, _, _, _ => none
 | m + 1, v1, v6, b0_0, b0_1, b1_0, b1_1, b1_2, b1_3, b2_0, b2_1, b2_2, b2_3 => Jr  (fun d => Ej m d.1 d.2.1 d.2.2.1 d.2.2.2.1 d.2.2.2.2.1 d.2.2.2.2.2.1 d.2.2.2.2.2.2.1 d.2.2.2.2.2.2.2.1 d.2.2.2.2.2.2.2.2.1 d.2.2.2.2.2.2.2.2.2.1 d.2.2.2.2.2.2.2.2.2.2.1 d.2.2.2.2.2.2.2.2.2.2.2.1) (fun d => some (d)) v1 v6 b0_0 b0_1 b1_0 b1_1 b1_2 b1_3 b2_0 b2_1 b2_2 b2_3
noncomputable def Po (a0 : Dk) (a1 : Int) : Option (((Rt × Unit) × (Unit))) :=
 bif !Fw a0 then some (((0, 0, 0, 0, ()), ()), ()) else bif !Bh a1 1 8 then some (((0, 0, 0, 0, ()), ()), ()) else ((fun d => Ej (Mw d.1 d.2.1 d.2.2.1 d.2.2.2.1 d.2.2.2.2.1 d.2.2.2.2.2.1 d.2.2.2.2.2.2.1 d.2.2.2.2.2.2.2.1 d.2.2.2.2.2.2.2.2.1 d.2.2.2.2.2.2.2.2.2.1 d.2.2.2.2.2.2.2.2.2.2.1 d.2.2.2.2.2.2.2.2.2.2.2.1) d.1 d.2.1 d.2.2.1 d.2.2.2.1 d.2.2.2.2.1 d.2.2.2.2.2.1 d.2.2.2.2.2.2.1 d.2.2.2.2.2.2.2.1 d.2.2.2.2.2.2.2.2.1 d.2.2.2.2.2.2.2.2.2.1 d.2.2.2.2.2.2.2.2.2.2.1 d.2.2.2.2.2.2.2.2.2.2.2.1) (a1, 0, a0.1, a0.2.1, 0, 0, 0, 0, 0, 0, 1, 0, ())).bind fun val => some ((val.2.2.2.2, ()), ())
theorem Av8 (d : Dk) (hd : Mh d) (w : Int) (i : Nat) (hi : i < 2) (m : Nat) (x1 x2 x3 x4 : Int) (b : Rt) :
  Ej (m + 1) w i d.1 d.2.1 x1 x2 x3 x4 b.1 b.2.1 b.2.2.1 b.2.2.2.1 = Ej m w ((i + 1 : Nat) : Int) d.1 d.2.1 x1 x2 x3 x4 (F5 (Rd d i) w i b).1 (F5 (Rd d i) w i b).2.1 (F5 (Rd d i) w i b).2.2.1 (F5 (Rd d i) w i b).2.2.2.1 := by
 have n8 := hd.n8
 have p3 := hd.p300
 have hs : Mv (d.1, d.2.1, ()) (i : Int) = some (Rd d i) := if_pos ⟨by show d.2.1.length ≤ _; omega, by omega, by show (i : Int) < (d.1.length : Int); omega⟩
 simp only [Ej, Jr]
 rw [decide_eq_true (show (i : Int) < 2 by omega), hs, wI (show i < 4611686018427387904 by omega)]
 simp only [Option.bind_some, cond_true]
 have e : Ab (Rd d i) w = Cw (Rd d i) w := rfl
 rw [e]
 unfold F5
 have hf := @R4 (Rd d i) w
 generalize Cw (Rd d i) w = p at *
 obtain ⟨g, o⟩ := p
 cases o
 ·rfl
 ·obtain ⟨_, _, _, hp⟩ := hf rfl
  obtain ⟨_, _, r3, _⟩ := Zl hp
  simp only [Bool.not_true, cond_false, Bool.true_and]
  by_cases h4 : g.1 = 4
  ·rw [bne_eq_false_iff_eq.2 h4, show (g.1 == 4) = true from beq_iff_eq.2 h4]
   by_cases h5 : g.2.2.2.1.size = 5
   ·have n1 : Jq (Ah g.2.2.2.1 1 (nI g.2.2.2.1.size)) = some (Zh (Ah g.2.2.2.1 1 (nI g.2.2.2.1.size))) := if_pos (by rw [Fp (by omega) (by simp only [nI]; omega) (by simp [nI])]; simp only [nI]; omega)
    obtain ⟨b0, b1⟩ := Gk g.2.2.2.1 0
    rw [bne_eq_false_iff_eq.2 (show nI g.2.2.2.1.size = 5 by simp only [nI]; omega), decide_eq_true h5, Int.tmod_eq_emod_of_nonneg (by omega)]
    simp only [n1, Option.bind_some, cond_false, Bool.true_and]
    rw [decide_eq_true (show 0 < nI g.2.2.2.1.size by simp only [nI]; omega), decide_eq_true (show 1 ≤ nI g.2.2.2.1.size by simp only [nI]; omega), Ag (n := Ae g.2.2.2.1 0) (by omega) (by omega)]
    by_cases h6 : g.2.2.1 % 2 = (i : Int)
    ·rw [bne_eq_false_iff_eq.2 h6, show (g.2.2.1 % 2 == (i : Int)) = true from beq_iff_eq.2 h6]
     show (bif Me (J9 g) then _ else _) = _
     cases Me (J9 g)
     ·rfl
     ·by_cases h7 : g.2.2.1 > b.1
      ·rw [decide_eq_true h7]; rfl
      ·rw [decide_eq_false h7]; rfl
    ·rw [bne_iff_ne.2 h6, show (g.2.2.1 % 2 == (i : Int)) = false from beq_eq_false_iff_ne.2 h6]
     rfl
   ·rw [bne_iff_ne.2 (show nI g.2.2.2.1.size ≠ 5 by simp only [nI]; omega), decide_eq_false h5]
    rfl
  ·rw [bne_iff_ne.2 h4, show (g.1 == 4) = false from beq_eq_false_iff_ne.2 h4]
   rfl
theorem Ags (a0 : Dk) (a1 : Int) : Po a0 a1 = some (((As a0 a1), ()), (())) := by
 unfold Po As A7
 show (bif !Bp a0 then _ else (bif !Eo a1 1 8 then _ else _)) = _
 cases hv : Bp a0 with
 | false => rfl
 | true =>
  cases hw : Eo a1 1 8 with
  | false => rfl
  | true =>
   have hd := l6 hv
   have h1 := Av8 a0 hd a1 0 (by omega) 2 0 0 0 0 (0, 0, 1, 0, ())
   have h2 := Av8 a0 hd a1 1 (by omega) 1 0 0 0 0 (F5 (Rd a0 (0 : Nat)) a1 (0 : Nat) (0, 0, 1, 0, ()))
   have h3 := h1.trans h2
   refine Xr h3 ?_
   rfl
noncomputable def S7 {R : Type} (k : Kt R) := (Hw (pa_impl_FindRoot 6) (.exit 0) 2 k)
noncomputable def Yk {R : Type} : Lt R pa_impl_FindRoot := (D5 (pat := pa_impl_FindRoot) 6 (fun d k => (Ej (Mw d.1 d.2.1 d.2.2.1 d.2.2.2.1 d.2.2.2.2.1 d.2.2.2.2.2.1 d.2.2.2.2.2.2.1 d.2.2.2.2.2.2.2.1 d.2.2.2.2.2.2.2.2.1 d.2.2.2.2.2.2.2.2.2.1 d.2.2.2.2.2.2.2.2.2.2.1 d.2.2.2.2.2.2.2.2.2.2.2.1) d.1 d.2.1 d.2.2.1 d.2.2.2.1 d.2.2.2.2.1 d.2.2.2.2.2.1 d.2.2.2.2.2.2.1 d.2.2.2.2.2.2.2.1 d.2.2.2.2.2.2.2.2.1 d.2.2.2.2.2.2.2.2.2.1 d.2.2.2.2.2.2.2.2.2.2.1 d.2.2.2.2.2.2.2.2.2.2.2.1).bind (S7 k)) Ff)
theorem Wb : Au Tryz.prog ta_impl_FindRoot := At ⟨Wa, Kf, Dq, Ah0, Oh, Ah2, trivial⟩
theorem Abo {R : Type} : Aw Tryz.prog R 76 0 pa_impl_FindRoot Yk co_impl_FindRoot_6 :=
 B1 (cfg := ⟨ta_impl_FindRoot, 0, 76, pa_impl_FindRoot⟩) 6 [] (fun NX X d => Jr  NX X d.1 d.2.1 d.2.2.1 d.2.2.2.1 d.2.2.2.2.1 d.2.2.2.2.2.1 d.2.2.2.2.2.2.1 d.2.2.2.2.2.2.2.1 d.2.2.2.2.2.2.2.2.1 d.2.2.2.2.2.2.2.2.2.1 d.2.2.2.2.2.2.2.2.2.2.1 d.2.2.2.2.2.2.2.2.2.2.2.1) (fun m d => Ej m d.1 d.2.1 d.2.2.1 d.2.2.2.1 d.2.2.2.2.1 d.2.2.2.2.2.1 d.2.2.2.2.2.2.1 d.2.2.2.2.2.2.2.1 d.2.2.2.2.2.2.2.2.1 d.2.2.2.2.2.2.2.2.2.1 d.2.2.2.2.2.2.2.2.2.2.1 d.2.2.2.2.2.2.2.2.2.2.2.1) (fun d => Mw d.1 d.2.1 d.2.2.1 d.2.2.2.1 d.2.2.2.2.1 d.2.2.2.2.2.1 d.2.2.2.2.2.2.1 d.2.2.2.2.2.2.2.1 d.2.2.2.2.2.2.2.2.1 d.2.2.2.2.2.2.2.2.2.1 d.2.2.2.2.2.2.2.2.2.2.1 d.2.2.2.2.2.2.2.2.2.2.2.1) S7 Wb trivial (fun f NX d => by unfold Jr; simp only [Aj, Ap, Ai, Option.bind_assoc, Option.bind_none, Option.bind_some]) (fun _ _ _ => by kernel_rfl)
theorem Agt : Bf Tryz.prog 113 sd_impl_FindRoot :=
 Ar (pat := pa_impl_FindRoot) [co_impl_FindRoot_6] Yk Wb ⟨Abo, trivial⟩ Tryz.func113 (de := fun x => Po x.1 x.2.1) (fun x r h => (Ags x.1 x.2.1).trans h) fun _ => by kernel_rfl
def Eu (d : Dk) (from_ size first life w : Int) : Scd := Tp d from_ size first life w
def Atd : Sig := ⟨[.rd P3, .rd tI, .rd tI, .rd tI, .rd tI, .rd tI], [some 2, none, none, none, none, none], [.own 9 .str, .rd tI, .rd tI], [some 3]⟩
noncomputable def sd_impl_Scan : SD := ⟨Atd, fun x => some (((Eu x.1 x.2.1 x.2.2.1 x.2.2.2.1 x.2.2.2.2.1 x.2.2.2.2.2.1).1, (Eu x.1 x.2.1 x.2.2.1 x.2.2.2.1 x.2.2.2.2.1 x.2.2.2.2.2.1).2.1, (Eu x.1 x.2.1 x.2.2.1 x.2.2.2.1 x.2.2.2.2.1 x.2.2.2.2.2.1).2.2.1, ()), (()))⟩
noncomputable def ta_impl_Scan : Tb := tb [(68, sd_impl_ReadPage), (111, sd_impl_ValidDisk), (112, sd_impl_in), (186, sd_impl_see)]
def pa_impl_Scan : Nat → Pat × (Nat → Pat) := Fj [(9, ⟨[.boxSl 6 0 .str, .boxSl 6 1 Ey, .boxRow 12 0 9 .str, .boxRow 13 0 9 .str], [(1, .lf (.d tI)), (2, .lf (.d tI)), (3, .lf (.d tI)), (5, .lf (.d tI)), (6, .lf (.ptr 0 0)), (12, .lf (.ptr 1 0)), (13, .lf (.ptr 2 0)), (14, .lf (.d .bool)), (15, .lf (.d .str)), (16, .lf (.d tI)), (17, .lf (.d tI))], [.box 26 [.d (.sl .str), .d (.sl Ey)], .box 142 [.row 3, .d tI, .d tI], .box 142 [.row 4, .d tI, .d tI], .row 9 .str, .row 9 .str]⟩, [(2, ⟨[.boxRow 12 0 9 .str, .boxRow 13 0 9 .str], [(12, .lf (.ptr 0 0)), (13, .lf (.ptr 1 0))], [.box 142 [.row 2, .d tI, .d tI], .box 142 [.row 3, .d tI, .d tI], .row 9 .str, .row 9 .str]⟩)])]
noncomputable def co_impl_Scan_9 : Code := (Ao (A4 Tryz.f114)).getD 0 .skip
def Gf (v1 : Int) (v2 : Int) (v3 : Int) (v5 : Int) (v14 : Bool) (v15 : ByteArray) (v16 : Int) (v17 : Int) (b0_0 : List ByteArray) (b0_1 : List Wr) (b1_1 : Int) (b1_2 : Int) (b2_1 : Int) (b2_2 : Int) (r3 : List ByteArray) (r4 : List ByteArray) : Nat := (v2 - v17).toNat + 1
noncomputable def K1 {R : Type}  (NX : ((Int) × (Int) × (Int) × (Int) × (Bool) × (ByteArray) × (Int) × (Int) × (List ByteArray) × (List Wr) × (Int) × (Int) × (Int) × (Int) × (List ByteArray) × (List ByteArray) × Unit) → Option R) (X2 : ((Int) × (Int) × (Int) × (Int) × (List ByteArray) × (List ByteArray) × Unit) → Option R) (v1 : Int) (v2 : Int) (v3 : Int) (v5 : Int) (v14 : Bool) (v15 : ByteArray) (v16 : Int) (v17 : Int) (b0_0 : List ByteArray) (b0_1 : List Wr) (b1_1 : Int) (b1_2 : Int) (b2_1 : Int) (b2_2 : Int) (r3 : List ByteArray) (r4 : List ByteArray) : Option R :=
 bif decide (v17 < v2) then ((Mv (b0_0, b0_1, ()) (IntKind.i64.wrap (v1 + v17))).bind fun val => some ((val, ()), ())).bind fun val => bif !(Ab val.1.1 v5).2 then X2 (b1_1, b1_2, b2_1, b2_2, r3, r4, ()) else bif IntKind.i64.wrap ((Ab val.1.1 v5).1.2.2.1 - v17) != v3 then X2 (b1_1, b1_2, b2_1, b2_2, r3, r4, ()) else bif decide ((Ab val.1.1 v5).1.2.1 < v16) then X2 (b1_1, b1_2, b2_1, b2_2, r3, r4, ()) else bif v14 then bif (Ab val.1.1 v5).1.2.1 != v16 then X2 (b1_1, b1_2, b2_1, b2_2, r3, r4, ()) else bif (Ab val.1.1 v5).1.1 == 3 then X2 (b1_1, b1_2, b2_1, b2_2, r3, r4, ()) else bif (Ab val.1.1 v5).1.1 == 4 then X2 (b1_1, b1_2, b2_1, b2_2, r3, r4, ()) else bif (Ab val.1.1 v5).1.1 == 1 then bif decide (v15.size + ByteArray.size (Ab val.1.1 v5).1.2.2.2.1 ≤ 9223372036854775807) then NX (v1, v2, v3, v5, true, v15 ++ (Ab val.1.1 v5).1.2.2.2.1, (Ab val.1.1 v5).1.2.1, IntKind.i64.wrap (v17 + 1), b0_0, b0_1, b1_1, b1_2, b2_1, b2_2, r3, r4, ()) else none else bif (Ab val.1.1 v5).1.1 == 2 then bif decide (v15.size + ByteArray.size (Ab val.1.1 v5).1.2.2.2.1 ≤ 9223372036854775807) then bif decide ((r4.length + [v15 ++ (Ab val.1.1 v5).1.2.2.2.1].length) * 16 ≤ 140737488355328) then NX (v1, v2, v3, v5, false, ByteArray.mk #[], (Ab val.1.1 v5).1.2.1, IntKind.i64.wrap (v17 + 1), b0_0, b0_1, b1_1, b1_2, IntKind.i64.wrap (v17 + 1), (Ab val.1.1 v5).1.2.1, r3, r4 ++ [v15 ++ (Ab val.1.1 v5).1.2.2.2.1], ()) else none else none else bif (Ab val.1.1 v5).1.1 == 3 then NX (v1, v2, v3, v5, v14, v15, (Ab val.1.1 v5).1.2.1, IntKind.i64.wrap (v17 + 1), b0_0, b0_1, b1_1, b1_2, IntKind.i64.wrap (v17 + 1), (Ab val.1.1 v5).1.2.1, r3, r4, ()) else NX (v1, v2, v3, v5, v14, v15, (Ab val.1.1 v5).1.2.1, IntKind.i64.wrap (v17 + 1), b0_0, b0_1, b1_1, b1_2, b2_1, b2_2, r3, r4, ()) else bif (Ab val.1.1 v5).1.1 == 4 then X2 (b1_1, b1_2, b2_1, b2_2, r3, r4, ()) else bif (Ab val.1.1 v5).1.1 == 1 then bif decide (v15.size + ByteArray.size (Ab val.1.1 v5).1.2.2.2.1 ≤ 9223372036854775807) then NX (v1, v2, v3, v5, true, v15 ++ (Ab val.1.1 v5).1.2.2.2.1, (Ab val.1.1 v5).1.2.1, IntKind.i64.wrap (v17 + 1), b0_0, b0_1, b1_1, b1_2, b2_1, b2_2, r3, r4, ()) else none else bif (Ab val.1.1 v5).1.1 == 2 then bif decide (v15.size + ByteArray.size (Ab val.1.1 v5).1.2.2.2.1 ≤ 9223372036854775807) then bif decide ((r4.length + [v15 ++ (Ab val.1.1 v5).1.2.2.2.1].length) * 16 ≤ 140737488355328) then NX (v1, v2, v3, v5, false, ByteArray.mk #[], (Ab val.1.1 v5).1.2.1, IntKind.i64.wrap (v17 + 1), b0_0, b0_1, b1_1, b1_2, IntKind.i64.wrap (v17 + 1), (Ab val.1.1 v5).1.2.1, r3, r4 ++ [v15 ++ (Ab val.1.1 v5).1.2.2.2.1], ()) else none else none else bif (Ab val.1.1 v5).1.1 == 3 then NX (v1, v2, v3, v5, v14, v15, (Ab val.1.1 v5).1.2.1, IntKind.i64.wrap (v17 + 1), b0_0, b0_1, b1_1, b1_2, IntKind.i64.wrap (v17 + 1), (Ab val.1.1 v5).1.2.1, r3, r4, ()) else NX (v1, v2, v3, v5, v14, v15, (Ab val.1.1 v5).1.2.1, IntKind.i64.wrap (v17 + 1), b0_0, b0_1, b1_1, b1_2, b2_1, b2_2, r3, r4, ()) else X2 (b1_1, b1_2, b2_1, b2_2, r3, r4, ())
noncomputable def E5 : Nat → (Int) → (Int) → (Int) → (Int) → (Bool) → (ByteArray) → (Int) → (Int) → (List ByteArray) → (List Wr) → (Int) → (Int) → (Int) → (Int) → (List ByteArray) → (List ByteArray) →  Option ((Int) × (Int) × (Int) × (Int) × (List ByteArray) × (List ByteArray) × Unit)
 | 0, _, _, _, _, _, _, _, _, _, _, _, _, _, _, _, _ => none
 | m + 1, v1, v2, v3, v5, v14, v15, v16, v17, b0_0, b0_1, b1_1, b1_2, b2_1, b2_2, r3, r4 => K1  (fun d => E5 m d.1 d.2.1 d.2.2.1 d.2.2.2.1 d.2.2.2.2.1 d.2.2.2.2.2.1 d.2.2.2.2.2.2.1 d.2.2.2.2.2.2.2.1 d.2.2.2.2.2.2.2.2.1 d.2.2.2.2.2.2.2.2.2.1 d.2.2.2.2.2.2.2.2.2.2.1 d.2.2.2.2.2.2.2.2.2.2.2.1 d.2.2.2.2.2.2.2.2.2.2.2.2.1 d.2.2.2.2.2.2.2.2.2.2.2.2.2.1 d.2.2.2.2.2.2.2.2.2.2.2.2.2.2.1 d.2.2.2.2.2.2.2.2.2.2.2.2.2.2.2.1) (fun d => some (d)) v1 v2 v3 v5 v14 v15 v16 v17 b0_0 b0_1 b1_1 b1_2 b2_1 b2_2 r3 r4
noncomputable def Xj (a0 : Dk) (a1 : Int) (a2 : Int) (a3 : Int) (a4 : Int) (a5 : Int) : Option ((((List ByteArray) × (Int) × (Int) × Unit) × (Unit))) :=
 bif !Fw a0 then some (([], 0, 0, ()), ()) else bif !Bh a5 1 8 then some (([], 0, 0, ()), ()) else bif decide (a1 < 0) then some (([], 0, 0, ()), ()) else bif decide (a2 < 0) then some (([], 0, 0, ()), ()) else bif decide (a1 > nI (List.length a0.1)) then some (([], 0, 0, ()), ()) else bif decide (a2 > IntKind.i64.wrap (nI (List.length a0.1) - a1)) then some (([], 0, 0, ()), ()) else ((fun d => E5 (Gf d.1 d.2.1 d.2.2.1 d.2.2.2.1 d.2.2.2.2.1 d.2.2.2.2.2.1 d.2.2.2.2.2.2.1 d.2.2.2.2.2.2.2.1 d.2.2.2.2.2.2.2.2.1 d.2.2.2.2.2.2.2.2.2.1 d.2.2.2.2.2.2.2.2.2.2.1 d.2.2.2.2.2.2.2.2.2.2.2.1 d.2.2.2.2.2.2.2.2.2.2.2.2.1 d.2.2.2.2.2.2.2.2.2.2.2.2.2.1 d.2.2.2.2.2.2.2.2.2.2.2.2.2.2.1 d.2.2.2.2.2.2.2.2.2.2.2.2.2.2.2.1) d.1 d.2.1 d.2.2.1 d.2.2.2.1 d.2.2.2.2.1 d.2.2.2.2.2.1 d.2.2.2.2.2.2.1 d.2.2.2.2.2.2.2.1 d.2.2.2.2.2.2.2.2.1 d.2.2.2.2.2.2.2.2.2.1 d.2.2.2.2.2.2.2.2.2.2.1 d.2.2.2.2.2.2.2.2.2.2.2.1 d.2.2.2.2.2.2.2.2.2.2.2.2.1 d.2.2.2.2.2.2.2.2.2.2.2.2.2.1 d.2.2.2.2.2.2.2.2.2.2.2.2.2.2.1 d.2.2.2.2.2.2.2.2.2.2.2.2.2.2.2.1) (a1, a2, a3, a5, false, ByteArray.mk #[], a4, 0, a0.1, a0.2.1, 0, 0, 0, a4, [], [], ())).bind fun val => some ((val.2.2.2.2.2.1, val.2.2.1, val.2.2.2.1, ()), ())
def Av9 (v : Int × Int × Int × Int × List ByteArray × List ByteArray × Unit) : Scd := (v.2.2.2.2.2.1, v.2.2.1, v.2.2.2.1, ())
theorem An8 {d : Dk} (hd : Mh d) (f n : Nat) (hfn : f + n ≤ d.1.length) (first w b1 b2 : Int) (r3 : List ByteArray) : ∀ (k m i : Nat) (st : ScT), i + k = n → k < m → Xs i st → (st.1 ≠ 1 → st.2.2.1 = z0) →
  ∃ y, E5 m f n first w (st.1 == 1) st.2.2.1 st.2.1 i d.1 d.2.1 b1 b2 st.2.2.2.2.1 st.2.2.2.2.2 r3 st.2.2.2.1 = some y ∧ Av9 y = Mk w first (seen d f i k) i st
 | 0, m + 1, i, st, hi, _, _, _ => by
  simp only [E5, K1]
  rw [decide_eq_false (show ¬ (i : Int) < (n : Int) by omega)]
  exact ⟨_, rfl, rfl⟩
 | k + 1, m + 1, i, st, hi, hm, hI, hz => by
  have h200 := hd.n200
  have e1 : IntKind.i64.wrap ((f : Int) + (i : Int)) = (f : Int) + (i : Int) := Ag (by omega) (by omega)
  have e2 : Mv (d.1, d.2.1, ()) ((f : Int) + (i : Int)) = some (Rd d ((f : Int) + (i : Int))) := if_pos ⟨Nat.le_trans hd.p300 (by decide), by omega, by show _ < (d.1.length : Int); omega⟩
  have e4 : IntKind.i64.wrap ((i : Int) + 1) = ((i + 1 : Nat) : Int) := wI (by omega)
  have es : seen d f i (k + 1) = Rd d ((f : Int) + (i : Int)) :: seen d f (i + 1) k := rfl
  simp only [E5, K1]
  rw [es, decide_eq_true (show (i : Int) < (n : Int) by omega)]
  simp only [e1, e2, e4, cond_true, Option.bind_some, Ab]
  unfold Mk Afi
  generalize hx : Rd d ((f : Int) + (i : Int)) = x
  obtain ⟨p, ok, hR⟩ : ∃ p ok, Cw x w = (p, ok) := ⟨_, _, rfl⟩
  simp only [hR]
  cases ok with
  | false => exact ⟨_, rfl, rfl⟩
  | true =>
   obtain ⟨q1, q2, q3⟩ := Ako hR
   have e5 : IntKind.i64.wrap (p.2.2.1 - (i : Int)) = p.2.2.1 - (i : Int) := Ag (by omega) (by omega)
   simp only [e5, Bool.not_true, cond_false, Bool.true_and, bne]
   cases hn : (p.2.2.1 - (i : Int) == first) with
   | false => exact ⟨_, rfl, rfl⟩
   | true =>
    simp only [Bool.not_true, cond_false, Bool.true_and]
    have hN := hI.next (p := p) (by omega) q3
    have e6 : decide (ByteArray.size st.2.2.1 + ByteArray.size p.2.2.2.1 ≤ 9223372036854775807) = true := decide_eq_true (by have := hI.2.1; omega)
    have e7 : decide ((List.length st.2.2.2.1 + 1) * 16 ≤ 140737488355328) = true := decide_eq_true (by have := hI.2.2; omega)
    simp only [e6, cond_true, List.length_singleton, e7]
    have ei : (i : Int) + 1 = ((i + 1 : Nat) : Int) := by omega
    have ih := fun hz => An8 hd f n hfn first w b1 b2 r3 k m (i + 1) (Kr i p st) (by omega) (by omega) hN hz
    unfold Kr at ih ⊢
    unfold Ama
    rw [ei]
    rw [ei] at ih
    have hk : p.1 = 1 ∨ p.1 = 2 ∨ p.1 = 3 ∨ p.1 = 4 := by omega
    cases hlt : decide (p.2.1 < st.2.1) with
    | true => exact ⟨_, rfl, rfl⟩
    | false =>
     simp only [cond_false]
     have eqc : (p.2.1 == st.2.1) = (st.2.1 == p.2.1) := by
      by_cases q : p.2.1 = st.2.1
      ·rw [q]
      ·rw [beq_eq_false_iff_ne.2 q, beq_eq_false_iff_ne.2 (Ne.symm q)]
     rw [eqc]
     rcases hk with hp | hp | hp | hp
     ·rw [hp] at ih ⊢
      have ih := ih (fun q => absurd rfl q)
      cases ho : (st.1 == 1) with
      | false =>
       have hb : (st.1 != 1) = true := by simp only [bne, ho, Bool.not_false]
       rw [hb]
       exact ih
      | true =>
       have hb : (st.1 != 1) = false := by simp only [bne, ho, Bool.not_true]
       rw [hb]
       cases (st.2.1 == p.2.1) with
       | false => exact ⟨_, rfl, rfl⟩
       | true => exact ih
     ·rw [hp] at ih ⊢
      have ih := ih (fun _ => rfl)
      cases ho : (st.1 == 1) with
      | false =>
       have hb : (st.1 != 1) = true := by simp only [bne, ho, Bool.not_false]
       rw [hb]
       exact ih
      | true =>
       have hb : (st.1 != 1) = false := by simp only [bne, ho, Bool.not_true]
       rw [hb]
       cases (st.2.1 == p.2.1) with
       | false => exact ⟨_, rfl, rfl⟩
       | true => exact ih
     ·rw [hp] at ih ⊢
      have ih := ih (fun _ => rfl)
      cases ho : (st.1 == 1) with
      | false =>
       have hb : (st.1 != 1) = true := by simp only [bne, ho, Bool.not_false]
       have hs := hz (fun q => by rw [q] at ho; cases ho)
       rw [hb, hs]
       exact ih
      | true =>
       have hb : (st.1 != 1) = false := by simp only [bne, ho, Bool.not_true]
       rw [hb]
       cases (st.2.1 == p.2.1) <;> exact ⟨_, rfl, rfl⟩
     ·rw [hp]
      cases ho : (st.1 == 1) with
      | false => exact ⟨_, rfl, rfl⟩
      | true =>
       cases (st.2.1 == p.2.1) <;> exact ⟨_, rfl, rfl⟩
theorem Ate (a0 : Dk) (a1 : Int) (a2 : Int) (a3 : Int) (a4 : Int) (a5 : Int) : Xj a0 a1 a2 a3 a4 a5 = some (((Eu a0 a1 a2 a3 a4 a5).1, (Eu a0 a1 a2 a3 a4 a5).2.1, (Eu a0 a1 a2 a3 a4 a5).2.2.1, ()), (())) := by
 unfold Xj Eu Tp
 show (bif !Bp a0 then _ else bif !Eo a5 1 8 then _ else _) = _
 cases hv : Bp a0 with
 | false => rfl
 | true =>
  have hd := l6 hv
  cases hw : Eo a5 1 8 with
  | false => rfl
  | true =>
   simp only [Bool.not_true, cond_false]
   have h200 := hd.n200
   by_cases h1 : a1 < 0
   ·rw [decide_eq_true h1, decide_eq_false (show ¬ 0 ≤ a1 by omega)]; rfl
   ·rw [decide_eq_false h1, decide_eq_true (show 0 ≤ a1 by omega)]
    by_cases h2 : a2 < 0
    ·rw [decide_eq_true h2, decide_eq_false (show ¬ 0 ≤ a2 by omega)]; rfl
    ·rw [decide_eq_false h2, decide_eq_true (show 0 ≤ a2 by omega)]
     by_cases h3 : a1 > nI a0.1.length
     ·rw [decide_eq_true h3, decide_eq_false (show ¬ a1 ≤ (a0.1.length : Int) by simp only [nI] at h3; omega)]; rfl
     ·have h3' : a1 ≤ (a0.1.length : Int) := by simp only [nI] at h3; omega
      rw [decide_eq_false h3, decide_eq_true h3']
      rw [Ag (n := nI a0.1.length - a1) (by simp only [nI]; omega) (by simp only [nI]; omega)]
      by_cases h4 : a2 > nI a0.1.length - a1
      ·rw [decide_eq_true h4, decide_eq_false (show ¬ a2 ≤ (a0.1.length : Int) - a1 by simp only [nI] at h4; omega)]; rfl
      ·have h4' : a2 ≤ (a0.1.length : Int) - a1 := by simp only [nI] at h4; omega
       rw [decide_eq_false h4, decide_eq_true h4']
       simp only [cond_false, cond_true, Bool.true_and, Bool.and_self]
       obtain ⟨f, rfl⟩ : ∃ f : Nat, a1 = (f : Int) := ⟨a1.toNat, by omega⟩
       obtain ⟨n, rfl⟩ : ∃ n : Nat, a2 = (n : Int) := ⟨a2.toNat, by omega⟩
       have hfu : n < Gf f n a3 a5 false (ByteArray.mk #[]) a4 0 a0.1 a0.2.1 0 0 0 a4 [] [] := by simp only [Gf]; omega
       obtain ⟨y, hy1, hy2⟩ := An8 hd f n (by omega) a3 a5 0 0 [] n (Gf f n a3 a5 false (ByteArray.mk #[]) a4 0 a0.1 a0.2.1 0 0 0 a4 [] []) 0 (0, a4, z0, [], 0, a4) (Nat.zero_add _) hfu (Xs.zero _ _ _ _) (fun _ => rfl)
       show (E5 (Gf f n a3 a5 false (ByteArray.mk #[]) a4 0 a0.1 a0.2.1 0 0 0 a4 [] []) f n a3 a5 false (ByteArray.mk #[]) a4 0 a0.1 a0.2.1 0 0 0 a4 [] []).bind _ = _
       have hy1' : E5 (Gf f n a3 a5 false (ByteArray.mk #[]) a4 0 a0.1 a0.2.1 0 0 0 a4 [] []) f n a3 a5 false (ByteArray.mk #[]) a4 0 a0.1 a0.2.1 0 0 0 a4 [] [] = some y := hy1
       rw [hy1', Int.toNat_natCast]
       simp only [Option.bind_some]
       have hy3 : Av9 y = Mk a5 a3 (seen a0 (f : Int) 0 n) 0 (0, a4, z0, [], 0, a4) := hy2
       rw [← hy3]
       rfl
noncomputable def f9 {R : Type} (k : Kt R) := (Hw (pa_impl_Scan 9) (.exit 0) 2 k)
noncomputable def Ah3 {R : Type} : Lt R pa_impl_Scan := (D5 (pat := pa_impl_Scan) 9 (fun d k => (E5 (Gf d.1 d.2.1 d.2.2.1 d.2.2.2.1 d.2.2.2.2.1 d.2.2.2.2.2.1 d.2.2.2.2.2.2.1 d.2.2.2.2.2.2.2.1 d.2.2.2.2.2.2.2.2.1 d.2.2.2.2.2.2.2.2.2.1 d.2.2.2.2.2.2.2.2.2.2.1 d.2.2.2.2.2.2.2.2.2.2.2.1 d.2.2.2.2.2.2.2.2.2.2.2.2.1 d.2.2.2.2.2.2.2.2.2.2.2.2.2.1 d.2.2.2.2.2.2.2.2.2.2.2.2.2.2.1 d.2.2.2.2.2.2.2.2.2.2.2.2.2.2.2.1) d.1 d.2.1 d.2.2.1 d.2.2.2.1 d.2.2.2.2.1 d.2.2.2.2.2.1 d.2.2.2.2.2.2.1 d.2.2.2.2.2.2.2.1 d.2.2.2.2.2.2.2.2.1 d.2.2.2.2.2.2.2.2.2.1 d.2.2.2.2.2.2.2.2.2.2.1 d.2.2.2.2.2.2.2.2.2.2.2.1 d.2.2.2.2.2.2.2.2.2.2.2.2.1 d.2.2.2.2.2.2.2.2.2.2.2.2.2.1 d.2.2.2.2.2.2.2.2.2.2.2.2.2.2.1 d.2.2.2.2.2.2.2.2.2.2.2.2.2.2.2.1).bind (f9 k)) Ff)
theorem Aec : Au Tryz.prog ta_impl_Scan := At ⟨Wa, Kf, Dq, Ah2, trivial⟩
theorem An9 {R : Type} : Aw Tryz.prog R 140 0 pa_impl_Scan Ah3 co_impl_Scan_9 :=
 B1 (cfg := ⟨ta_impl_Scan, 0, 140, pa_impl_Scan⟩) 9 [] (fun NX X (d : (Int) × (Int) × (Int) × (Int) × (Bool) × (ByteArray) × (Int) × (Int) × (List ByteArray) × (List Wr) × (Int) × (Int) × (Int) × (Int) × (List ByteArray) × (List ByteArray) × Unit) => K1  NX X d.1 d.2.1 d.2.2.1 d.2.2.2.1 d.2.2.2.2.1 d.2.2.2.2.2.1 d.2.2.2.2.2.2.1 d.2.2.2.2.2.2.2.1 d.2.2.2.2.2.2.2.2.1 d.2.2.2.2.2.2.2.2.2.1 d.2.2.2.2.2.2.2.2.2.2.1 d.2.2.2.2.2.2.2.2.2.2.2.1 d.2.2.2.2.2.2.2.2.2.2.2.2.1 d.2.2.2.2.2.2.2.2.2.2.2.2.2.1 d.2.2.2.2.2.2.2.2.2.2.2.2.2.2.1 d.2.2.2.2.2.2.2.2.2.2.2.2.2.2.2.1) (fun m d => E5 m d.1 d.2.1 d.2.2.1 d.2.2.2.1 d.2.2.2.2.1 d.2.2.2.2.2.1 d.2.2.2.2.2.2.1 d.2.2.2.2.2.2.2.1 d.2.2.2.2.2.2.2.2.1 d.2.2.2.2.2.2.2.2.2.1 d.2.2.2.2.2.2.2.2.2.2.1 d.2.2.2.2.2.2.2.2.2.2.2.1 d.2.2.2.2.2.2.2.2.2.2.2.2.1 d.2.2.2.2.2.2.2.2.2.2.2.2.2.1 d.2.2.2.2.2.2.2.2.2.2.2.2.2.2.1 d.2.2.2.2.2.2.2.2.2.2.2.2.2.2.2.1) (fun d => Gf d.1 d.2.1 d.2.2.1 d.2.2.2.1 d.2.2.2.2.1 d.2.2.2.2.2.1 d.2.2.2.2.2.2.1 d.2.2.2.2.2.2.2.1 d.2.2.2.2.2.2.2.2.1 d.2.2.2.2.2.2.2.2.2.1 d.2.2.2.2.2.2.2.2.2.2.1 d.2.2.2.2.2.2.2.2.2.2.2.1 d.2.2.2.2.2.2.2.2.2.2.2.2.1 d.2.2.2.2.2.2.2.2.2.2.2.2.2.1 d.2.2.2.2.2.2.2.2.2.2.2.2.2.2.1 d.2.2.2.2.2.2.2.2.2.2.2.2.2.2.2.1) f9 Aec trivial (fun f NX (d : (Int) × (Int) × (Int) × (Int) × (Bool) × (ByteArray) × (Int) × (Int) × (List ByteArray) × (List Wr) × (Int) × (Int) × (Int) × (Int) × (List ByteArray) × (List ByteArray) × Unit) => by unfold K1; simp only [Aj, Ap, Ai, Option.bind_assoc, Option.bind_none, Option.bind_some]) (fun _ _ _ => by kernel_rfl)
theorem Atf : Bf Tryz.prog 114 sd_impl_Scan :=
 Ar (pat := pa_impl_Scan) [co_impl_Scan_9] Ah3 Aec ⟨An9, trivial⟩ Tryz.func114 (de := fun x => Xj x.1 x.2.1 x.2.2.1 x.2.2.2.1 x.2.2.2.2.1 x.2.2.2.2.2.1) (fun x r h => (Ate x.1 x.2.1 x.2.2.1 x.2.2.2.1 x.2.2.2.2.1 x.2.2.2.2.2.1).trans h) fun _ => by kernel_rfl
def Ek (s : ByteArray) : (ByteArray × Bool) × ByteArray := (((A0 s).1, (A0 s).2.2), (A0 s).2.1)
def o7 : Sig := ⟨[.bx 9 .str], [none], [.rd .str, .rd .bool], [none, none]⟩
noncomputable def sd_impl_ReadBatch_1 : SD := ⟨o7, fun x => some (((Ek x.1).1.1, (Ek x.1).1.2, ()), ((Ek x.1).2, ()))⟩
noncomputable def Li (a0 : ByteArray) : Option ((((ByteArray) × (Bool) × Unit) × ((ByteArray) × Unit))) :=
 bif decide (nI a0.size < 1) then some ((ByteArray.mk #[], false, ()), a0, ()) else bif decide (0 < nI a0.size) then bif decide (nI a0.size < IntKind.i64.wrap (1 + IntKind.i64.wrap (Ae a0 0))) then some ((ByteArray.mk #[], false, ()), a0, ()) else bif decide (0 < nI a0.size) then bif decide (1 ≤ IntKind.i64.wrap (1 + IntKind.i64.wrap (Ae a0 0))) then bif decide (IntKind.i64.wrap (1 + IntKind.i64.wrap (Ae a0 0)) ≤ nI a0.size) then bif decide (0 < nI a0.size) then bif decide (0 ≤ IntKind.i64.wrap (1 + IntKind.i64.wrap (Ae a0 0))) then bif decide (IntKind.i64.wrap (1 + IntKind.i64.wrap (Ae a0 0)) ≤ nI a0.size) then some ((Ah a0 1 (IntKind.i64.wrap (1 + IntKind.i64.wrap (Ae a0 0))), true, ()), Ah a0 (IntKind.i64.wrap (1 + IntKind.i64.wrap (Ae a0 0))) (nI a0.size), ()) else none else none else none else none else none else none else none
theorem o8 (a0 : ByteArray) : Li a0 = some (((Ek a0).1.1, (Ek a0).1.2, ()), ((Ek a0).2, ())) := by
 unfold Li Ek A0
 obtain ⟨b0, b1⟩ := Gk a0 0
 have hw : IntKind.i64.wrap (1 + IntKind.i64.wrap (Ae a0 0)) = 1 + Ae a0 0 := by
  rw [Ag (n := Ae a0 0) (by omega) (by omega), Ag (by omega) (by omega)]
 rw [hw]
 by_cases h0 : (a0.size : Int) < 1
 ·rw [if_pos (Or.inl h0), decide_eq_true (show nI a0.size < 1 from h0)]
  rfl
 ·rw [decide_eq_false (show ¬ nI a0.size < 1 from h0), decide_eq_true (show 0 < nI a0.size by simp only [nI]; omega)]
  by_cases h1 : (a0.size : Int) < 1 + Ae a0 0
  ·rw [if_pos (Or.inr h1), decide_eq_true (show nI a0.size < 1 + Ae a0 0 from h1)]
   rfl
  ·rw [if_neg (by omega), decide_eq_false (show ¬ nI a0.size < 1 + Ae a0 0 from h1), decide_eq_true (show 1 ≤ 1 + Ae a0 0 by omega), decide_eq_true (show 0 ≤ 1 + Ae a0 0 by omega), decide_eq_true (show 1 + Ae a0 0 ≤ nI a0.size by simp only [nI]; omega)]
   rfl
theorem o9 : Bf Tryz.prog 187 sd_impl_ReadBatch_1 :=
 Ar (pat := Ci) [] Ff (At (l := []) trivial) trivial Tryz.func187 (de := fun x => Li x.1) (fun x r h => (o8 x.1).trans h) fun _ => by kernel_rfl
def Ev (s : ByteArray) : List Chg × Bool := Kb s
def Lj (r0 : List Chg) (b1 : ByteArray) : Nat := 22
def Aed : Sig := ⟨[.rd .str], [none], [.own 131 D8, .rd .bool], [none, none]⟩
noncomputable def sd_impl_ReadBatch : SD := ⟨Aed, fun x => some (((Ev x.1).1, (Ev x.1).2, ()), (()))⟩
noncomputable def ta_impl_ReadBatch : Tb := tb [(89, sd_impl_ValidBatch), (187, sd_impl_ReadBatch_1)]
def pa_impl_ReadBatch : Nat → Pat × (Nat → Pat) := Fj [(5, ⟨[.row 4 0 131 D8], [(4, .lf (.row 0)), (5, .lf (.ptr 1 0)), (6, .fn 187 [.ptr 1 0])], [.row 131 D8, .box 9 [.d .str]]⟩, [(2, ⟨[.row 4 0 131 D8], [(4, .lf (.row 0)), (5, .lf (.ptr 1 0))], [.row 131 D8, .box 9 [.d .str]]⟩), (1, ⟨[.row 2 0 131 D8], [(2, .lf (.row 0)), (3, .lf (.d .bool))], [.row 131 D8]⟩)])]
noncomputable def co_impl_ReadBatch_5 : Code := (Ao (A4 Tryz.f115)).getD 0 .skip
noncomputable def Iu {R : Type}  (NX : ((List Chg) × (ByteArray) × Unit) → Option R) (X2 : ((List Chg) × (ByteArray) × Unit) → Option R) (X1 : ((Bool) × (List Chg) × Unit) → Option R) (r0 : List Chg) (b1 : ByteArray) : Option R :=
 bif decide (nI b1.size > 0) then bif decide (nI r0.length ≤ 20) then bif decide (0 < nI b1.size) then bif decide (1 ≤ nI b1.size) then bif decide (Ae b1 0 > 1) then X1 (false, [], ()) else bif !(A0 (Ah b1 1 (nI b1.size))).2.2 then X1 (false, [], ()) else bif Ae b1 0 == 0 then bif !(A0 (A0 (Ah b1 1 (nI b1.size))).2.1).2.2 then X1 (false, [], ()) else bif decide ((r0.length + [((A0 (Ah b1 1 (nI b1.size))).1, (A0 (A0 (Ah b1 1 (nI b1.size))).2.1).1, Ae b1 0 == 1, ())].length) * 40 ≤ 140737488355328) then NX (r0 ++ [((A0 (Ah b1 1 (nI b1.size))).1, (A0 (A0 (Ah b1 1 (nI b1.size))).2.1).1, Ae b1 0 == 1, ())], (A0 (A0 (Ah b1 1 (nI b1.size))).2.1).2.1, ()) else none else bif decide ((r0.length + [((A0 (Ah b1 1 (nI b1.size))).1, ByteArray.mk #[], Ae b1 0 == 1, ())].length) * 40 ≤ 140737488355328) then NX (r0 ++ [((A0 (Ah b1 1 (nI b1.size))).1, ByteArray.mk #[], Ae b1 0 == 1, ())], (A0 (Ah b1 1 (nI b1.size))).2.1, ()) else none else none else none else X2 (r0, b1, ()) else X2 (r0, b1, ())
noncomputable def E9 : Nat → (List Chg) → (ByteArray) →  Option (((List Chg) × (ByteArray) × Unit) ⊕ ((Bool) × (List Chg) × Unit))
 | 0, _, _ => none
 | m + 1, r0, b1 => Iu  (fun d => E9 m d.1 d.2.1) (fun d => some (.inl (d))) (fun d => some (.inr (d))) r0 b1
noncomputable def Oi (a0 : ByteArray) : Option ((((List Chg) × (Bool) × Unit) × (Unit))) :=
 ((fun d => E9 (Lj d.1 d.2.1) d.1 d.2.1) ([], a0, ())).bind fun val => Be (fun val => bif decide (nI (ByteArray.size val.2.1) > 0) then some (([], false, ()), ()) else bif !Gn val.1 then some (([], false, ()), ()) else some ((val.1, true, ()), ())) (fun val => some ((val.2.1, val.1, ()), ())) val
def A5x (o : Option (List Chg × ByteArray)) : (List Chg × ByteArray × Unit) ⊕ (Bool × List Chg × Unit) := match o with
 | some (b, t) => .inl (b, t, ())
 | none => .inr (false, [], ())
theorem Aoa : ∀ (f m : Nat) (r : List Chg) (s : ByteArray), r.length + f = 22 → f ≤ m → 1 ≤ f → E9 m r s = some (A5x (Mf true f r s))
 | 0, _, _, _, _, _, h => by omega
 | f + 1, 0, _, _, _, h, _ => by omega
 | f + 1, m + 1, r, s, hf, hm, _ => by
  simp only [E9, Iu, Mf]
  by_cases hs : s.size > 0
  ·rw [decide_eq_true (show nI s.size > 0 by simp only [nI]; omega), decide_eq_true hs]
   by_cases hr : r.length ≤ 20
   ·rw [decide_eq_true (show nI r.length ≤ 20 by simp only [nI]; omega), decide_eq_true hr, decide_eq_true (show 1 ≤ nI s.size by simp only [nI]; omega)]
    unfold Ahh
    obtain ⟨b0, b1⟩ := Gk s 0
    generalize A0 (Ah s 1 (nI s.size)) = p
    simp only [List.length_singleton, Bool.true_and, cond_true, Bool.and_self]
    rw [decide_eq_true (show (r.length + 1) * 40 ≤ 140737488355328 by omega)]
    by_cases h1 : Ae s 0 > 1
    ·rw [decide_eq_true h1]; rfl
    ·rw [decide_eq_false h1]
     obtain ⟨k, t, o⟩ := p
     cases o
     ·rfl
     ·by_cases h2 : Ae s 0 = 0
      ·rw [h2]
       simp only [Bool.not_true, cond_false, cond_true]
       generalize A0 t = q
       obtain ⟨v, u, o⟩ := q
       cases o
       ·rfl
       ·exact Aoa f m (r ++ [(k, v, false, ())]) u (by rw [List.length_append, List.length_singleton]; omega) (by omega) (by omega)
      ·have h3 : Ae s 0 = 1 := by omega
       rw [h3]
       exact Aoa f m (r ++ [(k, ByteArray.mk #[], true, ())]) t (by rw [List.length_append, List.length_singleton]; omega) (by omega) (by omega)
   ·rw [decide_eq_false (show ¬ nI r.length ≤ 20 by simp only [nI]; omega), decide_eq_false hr]
    rfl
  ·rw [decide_eq_false (show ¬ nI s.size > 0 by simp only [nI]; omega), decide_eq_false hs]
   rfl
theorem Aee (a0 : ByteArray) : Oi a0 = some (((Ev a0).1, (Ev a0).2, ()), (())) := by
 unfold Oi Ev Kb
 have hL := Aoa 22 22 [] a0 rfl (Nat.le_refl _) (by omega)
 refine Xr hL ?_
 cases Mf true 22 [] a0 with
 | none => rfl
 | some bt =>
  obtain ⟨b, t⟩ := bt
  show (bif decide (nI t.size > 0) then _ else (bif !Bg b then _ else _)) = _
  have e : decide (nI t.size > 0) = decide (t.size > 0) := decide_eq_decide.2 (by simp only [nI]; omega)
  rw [e]
  simp only
  cases decide (t.size > 0) <;> cases Bg b <;> rfl
noncomputable def Q8 {R : Type} (k : Kt R) := (Be (Hw (pa_impl_ReadBatch 5) (.exit 0) 2 k) (Hw (pa_impl_ReadBatch 5) .ret 1 k))
noncomputable def Wc {R : Type} : Lt R pa_impl_ReadBatch := (D5 (pat := pa_impl_ReadBatch) 5 (fun d k => (E9 (Lj d.1 d.2.1) d.1 d.2.1).bind (Q8 k)) Ff)
theorem Ud : Au Tryz.prog ta_impl_ReadBatch := At ⟨Mt, o9, trivial⟩
theorem p7 {R : Type} : Aw Tryz.prog R 63 0 pa_impl_ReadBatch Wc co_impl_ReadBatch_5 :=
 B1 (cfg := ⟨ta_impl_ReadBatch, 0, 63, pa_impl_ReadBatch⟩) 5 [] (fun NX X d => Iu  NX (fun e => X (.inl (e))) (fun e => X (.inr (e))) d.1 d.2.1) (fun m d => E9 m d.1 d.2.1) (fun d => Lj d.1 d.2.1) Q8 Ud trivial (fun f NX d => by unfold Iu; simp only [Aj, Ap, Ai, Option.bind_assoc, Option.bind_none, Option.bind_some]) (fun _ _ _ => by kernel_rfl)
theorem Aef : Bf Tryz.prog 115 sd_impl_ReadBatch :=
 Ar (pat := pa_impl_ReadBatch) [co_impl_ReadBatch_5] Wc Ud ⟨p7, trivial⟩ Tryz.func115 (de := fun x => Oi x.1) (fun x r h => (Aee x.1).trans h) fun _ => by kernel_rfl
def S8 (e : ByteArray) (life first w : Int) : Option (List ByteArray) := if e.size ≤ 1048576 then some (Al2 e life first w) else none
def J8 (v0 : ByteArray) (v1 v2 v3 v9 v11 : Int) (r0 : List ByteArray) : Nat := (v9 - v11).toNat + 1
def Awa : Sig := ⟨[.rd .str, .rd tI, .rd tI, .rd tI], [none, none, none, none], [.own 9 .str], [none]⟩
noncomputable def sd_impl_Cut : SD := ⟨Awa, fun x => (S8 x.1 x.2.1 x.2.2.1 x.2.2.2.1).bind fun r => some ((r, ()), (()))⟩
noncomputable def ta_impl_Cut : Tb := tb [(112, sd_impl_in), (116, sd_impl_FormPage), (157, sd_impl_room), (173, sd_impl_Pages)]
def pa_impl_Cut : Nat → Pat × (Nat → Pat) := Fj [(7, ⟨[.row 10 0 9 .str], [(0, .lf (.d .str)), (1, .lf (.d tI)), (2, .lf (.d tI)), (3, .lf (.d tI)), (9, .lf (.d tI)), (10, .lf (.row 0)), (11, .lf (.d tI))], [.row 9 .str]⟩, [(2, ⟨[.row 10 0 9 .str], [(10, .lf (.row 0))], [.row 9 .str]⟩)])]
noncomputable def co_impl_Cut_7 : Code := (Ao (A4 Tryz.f93)).getD 0 .skip
noncomputable def L2 {R : Type}  (NX : ((ByteArray) × (Int) × (Int) × (Int) × (Int) × (Int) × (List ByteArray) × Unit) → Option R) (X2 : ((List ByteArray) × Unit) → Option R) (v0 : ByteArray) (v1 : Int) (v2 : Int) (v3 : Int) (v9 : Int) (v11 : Int) (r0 : List ByteArray) : Option R :=
 bif decide (v11 < v9) then bif v11 == IntKind.i64.wrap (v9 - 1) then bif decide ((r0.length + [Co (2, v1, IntKind.i64.wrap (v2 + v11), v0, ()) v3].length) * 16 ≤ 140737488355328) then NX (v0, v1, v2, v3, v9, IntKind.i64.wrap (v11 + 1), r0 ++ [Co (2, v1, IntKind.i64.wrap (v2 + v11), v0, ()) v3], ()) else none else bif decide (0 ≤ IntKind.i64.wrap (IntKind.i64.wrap (64 - v3) - 8)) then bif decide (IntKind.i64.wrap (IntKind.i64.wrap (64 - v3) - 8) ≤ nI v0.size) then bif decide (0 ≤ IntKind.i64.wrap (IntKind.i64.wrap (64 - v3) - 8)) then bif decide (IntKind.i64.wrap (IntKind.i64.wrap (64 - v3) - 8) ≤ nI v0.size) then bif decide ((r0.length + [Co (1, v1, IntKind.i64.wrap (v2 + v11), Ah v0 0 (IntKind.i64.wrap (IntKind.i64.wrap (64 - v3) - 8)), ()) v3].length) * 16 ≤ 140737488355328) then NX (Ah v0 (IntKind.i64.wrap (IntKind.i64.wrap (64 - v3) - 8)) (nI v0.size), v1, v2, v3, v9, IntKind.i64.wrap (v11 + 1), r0 ++ [Co (1, v1, IntKind.i64.wrap (v2 + v11), Ah v0 0 (IntKind.i64.wrap (IntKind.i64.wrap (64 - v3) - 8)), ()) v3], ()) else none else none else none else none else none else X2 (r0, ())
noncomputable def F3 : Nat → (ByteArray) → (Int) → (Int) → (Int) → (Int) → (Int) → (List ByteArray) →  Option ((List ByteArray) × Unit)
 | 0, _, _, _, _, _, _, _ => none
 | m + 1, v0, v1, v2, v3, v9, v11, r0 => L2  (fun d => F3 m d.1 d.2.1 d.2.2.1 d.2.2.2.1 d.2.2.2.2.1 d.2.2.2.2.2.1 d.2.2.2.2.2.2.1) (fun d => some (d)) v0 v1 v2 v3 v9 v11 r0
noncomputable def g5 (a0 : ByteArray) (a1 : Int) (a2 : Int) (a3 : Int) : Option ((((List ByteArray) × Unit) × (Unit))) :=
 ((Jp a0 a3).bind fun val => some ((val, ()), ())).bind fun val => bif val.1.1 == 0 then some (([], ()), ()) else bif !Bh a1 1 60000 then some (([], ()), ()) else bif decide (a2 < 1) then some (([], ()), ()) else bif decide (a2 > IntKind.i64.wrap (IntKind.i64.wrap (1000000000 - val.1.1) + 1)) then some (([], ()), ()) else ((fun d => F3 (J8 d.1 d.2.1 d.2.2.1 d.2.2.2.1 d.2.2.2.2.1 d.2.2.2.2.2.1 d.2.2.2.2.2.2.1) d.1 d.2.1 d.2.2.1 d.2.2.2.1 d.2.2.2.2.1 d.2.2.2.2.2.1 d.2.2.2.2.2.2.1) (a0, a1, a2, a3, val.1.1, 0, [], ())).bind fun val => some (val, ())
theorem A2c (life first w : Int) (n N : Nat) (hn : 56 - w = (n : Int)) (hw1 : 1 ≤ w) (hw8 : w ≤ 8) (hf1 : 1 ≤ first) (hf2 : first ≤ 1000000000) (hN : N ≤ 2000000) : ∀ (f m i : Nat) (s : ByteArray) (r : List ByteArray), s.size ≤ f → i + (Fi n f s).length = N → (Fi n f s).length < m → r.length = i →
  F3 m s life first w N i r = some (r ++ Aqy life w (first + (i : Int)) (Fi n f s), ()) := by
 have one : ∀ (m i : Nat) (s : ByteArray) (r : List ByteArray), i + 1 = N → 1 < m → r.length = i → F3 m s life first w N i r = some (r ++ Aqy life w (first + (i : Int)) [s], ()) := by
  intro m i s r hi hm hr
  obtain ⟨m, rfl⟩ : ∃ k, m = k + 2 := ⟨m - 2, by omega⟩
  simp only [F3, L2]
  rw [decide_eq_true (show (i : Int) < (N : Int) by omega), Ag (n := (N : Int) - 1) (by omega) (by omega), show (N : Int) - 1 = (i : Int) by omega, beq_self_eq_true, Ag (n := first + (i : Int)) (by omega) (by omega), Ag (n := (i : Int) + 1) (by omega) (by omega), List.length_singleton, decide_eq_true (show (r.length + 1) * 16 ≤ 140737488355328 by omega), decide_eq_false (show ¬ ((i : Int) + 1 < (N : Int)) by omega)]
  rfl
 intro f
 induction f with
 | zero =>
  intro m i s r hs hi hm hr
  exact one m i s r hi hm hr
 | succ f ih =>
  intro m i s r hs hi hm hr
  by_cases q : s.size > n
  ·simp only [Fi, if_pos q, List.length_cons] at hi hm ⊢
   have hc : (Ah s n (nI s.size)).size = s.size - n := by rw [Fp (by omega) (by simp only [nI]; omega) (by simp [nI])]; simp only [nI]; omega
   obtain ⟨m, rfl⟩ : ∃ k, m = k + 1 := ⟨m - 1, by omega⟩
   have hL : 1 ≤ (Fi n f (Ah s n (nI s.size))).length := by
    cases f with
    | zero => simp [Fi]
    | succ f => unfold Fi; split <;> simp
   have ih := ih m (i + 1) (Ah s n (nI s.size)) (r ++ [D1 (1, life, first + (i : Int), Ah s 0 n, ()) w]) (by omega) (by omega) (by omega) (by rw [List.length_append, List.length_singleton, hr])
   simp only [F3, L2]
   rw [decide_eq_true (show (i : Int) < (N : Int) by omega), Ag (n := (N : Int) - 1) (by omega) (by omega), beq_eq_false_iff_ne.2 (show (i : Int) ≠ (N : Int) - 1 by omega), Ag (n := first + (i : Int)) (by omega) (by omega), wI (show i < 4611686018427387904 by omega), Ag (n := 64 - w) (by omega) (by omega), Ag (n := 64 - w - 8) (by omega) (by omega), show 64 - w - 8 = (n : Int) by omega, decide_eq_true (show (0 : Int) ≤ (n : Int) by omega), decide_eq_true (show (n : Int) ≤ nI s.size by simp only [nI]; omega), List.length_singleton, List.length_singleton, decide_eq_true (show (r.length + 1) * 16 ≤ 140737488355328 by omega)]
   refine Eq.trans ih ?_
   rw [List.append_assoc, show first + ((i + 1 : Nat) : Int) = first + (i : Int) + 1 by omega]
   generalize Fi n f (Ah s n (nI s.size)) = L at *
   cases L with
   | nil => simp at hL
   | cons a b => rfl
  ·simp only [Fi, if_neg q, List.length_singleton] at hi hm ⊢
   exact one m i s r hi hm hr
theorem Awb (a0 : ByteArray) (a1 : Int) (a2 : Int) (a3 : Int) r (h : S8 a0 a1 a2 a3 = some r) : g5 a0 a1 a2 a3 = some ((r, ()), (())) := by
 unfold S8 at h
 split at h
 rotate_left
 ·cases h
 rename_i hc
 cases h
 have n1 : Jp a0 a3 = some (Fg a0.size a3) := if_pos (by omega)
 unfold g5 Al2
 refine Xr (Xr n1 rfl) ?_
 show (bif Fg a0.size a3 == 0 then _ else (bif !Eo a1 1 60000 then _ else _)) = _
 cases hw : Eo a3 1 8 with
 | false =>
  have : Fg a0.size a3 = 0 := by unfold Fg; rw [hw]; rfl
  rw [this]
  rfl
 | true =>
  obtain ⟨k1, k2⟩ := G4 hw
  have hp := Aav (s := a0) hw
  have hP : Fg a0.size a3 = ((Cs a0 a3).length : Int) := by unfold Fg; rw [hw]; exact hp.symm
  have hlen : (Cs a0 a3).length ≤ a0.size + 1 := Zn _ _ _
  have h1 : 1 ≤ (Cs a0 a3).length := by
   have : (1 : Int) ≤ ((Cs a0 a3).length : Int) := by rw [hp]; split <;> omega
   omega
  rw [hP, beq_eq_false_iff_ne.2 (show ((Cs a0 a3).length : Int) ≠ 0 by omega)]
  cases hl : Eo a1 1 60000 with
  | false => rfl
  | true =>
   show (bif decide (a2 < 1) then _ else (bif decide (a2 > IntKind.i64.wrap (IntKind.i64.wrap (1000000000 - ((Cs a0 a3).length : Int)) + 1)) then _ else (Option.bind (F3 (J8 a0 a1 a2 a3 ((Cs a0 a3).length : Int) 0 []) a0 a1 a2 a3 ((Cs a0 a3).length : Int) 0 []) _))) = _
   rw [Ag (n := 1000000000 - ((Cs a0 a3).length : Int)) (by omega) (by omega), Ag (n := 1000000000 - ((Cs a0 a3).length : Int) + 1) (by omega) (by omega)]
   by_cases q1 : a2 < 1
   ·rw [decide_eq_true q1, decide_eq_false (show ¬ 1 ≤ a2 by omega)]; rfl
   ·rw [decide_eq_false q1, decide_eq_true (show 1 ≤ a2 by omega)]
    by_cases q2 : a2 > 1000000000 - ((Cs a0 a3).length : Int) + 1
    ·rw [decide_eq_true q2, decide_eq_false (show ¬ a2 ≤ 1000000000 - ((Cs a0 a3).length : Int) + 1 by omega)]; rfl
    ·rw [decide_eq_false q2, decide_eq_true (show a2 ≤ 1000000000 - ((Cs a0 a3).length : Int) + 1 by omega)]
     obtain ⟨n, hn⟩ : ∃ n : Nat, 56 - a3 = (n : Int) := ⟨(56 - a3).toNat, by omega⟩
     have hS : Cs a0 a3 = Fi n a0.size a0 := by unfold Cs; rw [hn, Int.toNat_natCast]
     have hL := A2c a1 a2 a3 n (Cs a0 a3).length hn k1 k2 (by omega) (by omega) (by omega) a0.size (J8 a0 a1 a2 a3 ((Cs a0 a3).length : Int) 0 []) 0 a0 [] (Nat.le_refl _) (by rw [← hS]; omega) (by rw [← hS]; simp only [J8]; omega) rfl
     rw [← hS, List.nil_append, show a2 + ((0 : Nat) : Int) = a2 by omega] at hL
     exact Xr hL rfl
noncomputable def z6 {R : Type} (k : Kt R) := (Hw (pa_impl_Cut 7) (.exit 0) 2 k)
noncomputable def Aob {R : Type} : Lt R pa_impl_Cut := (D5 (pat := pa_impl_Cut) 7 (fun d k => (F3 (J8 d.1 d.2.1 d.2.2.1 d.2.2.2.1 d.2.2.2.2.1 d.2.2.2.2.2.1 d.2.2.2.2.2.2.1) d.1 d.2.1 d.2.2.1 d.2.2.2.1 d.2.2.2.2.1 d.2.2.2.2.2.1 d.2.2.2.2.2.2.1).bind (z6 k)) Ff)
theorem Ah4 : Au Tryz.prog ta_impl_Cut := At ⟨Dq, Jb, Rj, y6, trivial⟩
theorem Aps {R : Type} : Aw Tryz.prog R 67 0 pa_impl_Cut Aob co_impl_Cut_7 :=
 B1 (cfg := ⟨ta_impl_Cut, 0, 67, pa_impl_Cut⟩) 7 [] (fun NX X d => L2  NX X d.1 d.2.1 d.2.2.1 d.2.2.2.1 d.2.2.2.2.1 d.2.2.2.2.2.1 d.2.2.2.2.2.2.1) (fun m d => F3 m d.1 d.2.1 d.2.2.1 d.2.2.2.1 d.2.2.2.2.1 d.2.2.2.2.2.1 d.2.2.2.2.2.2.1) (fun d => J8 d.1 d.2.1 d.2.2.1 d.2.2.2.1 d.2.2.2.2.1 d.2.2.2.2.2.1 d.2.2.2.2.2.2.1) z6 Ah4 trivial (fun f NX d => by unfold L2; simp only [Aj, Ap, Ai, Option.bind_assoc, Option.bind_none, Option.bind_some]) (fun _ _ _ => by kernel_rfl)
theorem Awc : Bf Tryz.prog 93 sd_impl_Cut :=
 Ar (pat := pa_impl_Cut) [co_impl_Cut_7] Aob Ah4 ⟨Aps, trivial⟩ Tryz.func93 (de := fun x => g5 x.1 x.2.1 x.2.2.1 x.2.2.2.1) (fun x r h => A3 (Awb x.1 x.2.1 x.2.2.1 x.2.2.2.1) h) fun _ => by kernel_rfl
def Jc (s : Stt) : Option Stt := if s.1.length ≤ 1000000 then some (s.1, ()) else none
def Aeg : Sig := ⟨[.rd Bd], [some 1], [.own 167 Ak], [some 1]⟩
noncomputable def sd_impl_copyState : SD := ⟨Aeg, fun x => (Jc x.1).bind fun r => some ((r.1, ()), (()))⟩
noncomputable def Oj (a0 : Stt) : Option ((Stt × (Unit))) :=
 bif decide ((0 + List.length a0.1) * 32 ≤ 140737488355328) then some (([] ++ a0.1, ()), ()) else none
theorem Aeh (a0 : Stt) r (h : Jc a0 = some r) : Oj a0 = some ((r.1, ()), (())) := by
 unfold Jc at h
 split at h
 ·rename_i hc
  cases h
  unfold Oj
  rw [decide_eq_true (show (0 + a0.1.length) * 32 ≤ 140737488355328 by omega)]
  rfl
 ·cases h
theorem Aei : Bf Tryz.prog 139 sd_impl_copyState :=
 Ar (pat := Ci) [] Ff (At (l := []) trivial) trivial Tryz.func139 (de := fun x => Oj x.1) (fun x r h => A3 (Aeh x.1) h) fun _ => by kernel_rfl
def H4 (r : Rt) (w : Int) : ByteArray := Vd r w
def Agu : Sig := ⟨[.rd yRt, .rd tI], [some 4, none], [.rd .str], [none]⟩
noncomputable def sd_impl_RootPage : SD := ⟨Agu, fun x => some (((H4 x.1 x.2.1), ()), (()))⟩
noncomputable def Pp (a0 : Rt) (a1 : Int) : Option ((((ByteArray) × Unit) × (Unit))) :=
 bif !Fy a0 then some ((ByteArray.mk #[], ()), ()) else some ((Co (4, a0.2.2.2.1, a0.1, C1 a0.2.1 (Int.toNat 1) ++ C1 a0.2.2.1 (Int.toNat 4), ()) a1, ()), ())
theorem Agv (a0 : Rt) (a1 : Int) : Pp a0 a1 = some (((H4 a0 a1), ()), (())) := by
 unfold Pp H4 Vd
 show (bif !Me a0 then _ else _) = _
 cases Me a0 <;> rfl
theorem Agw : Bf Tryz.prog 191 sd_impl_RootPage :=
 Ar (pat := Ci) [] Ff (At (l := [(116, sd_impl_FormPage), (168, sd_impl_validRoot), (175, sd_impl_be)]) ⟨Jb, Oh, Xh, trivial⟩) trivial Tryz.func191 (de := fun x => Pp x.1 x.2.1) (fun x r h => (Agv x.1 x.2.1).trans h) fun _ => by kernel_rfl
def Qd (s : Sto) (life : Int) : Option (Sto × List Opn × Bool) := if Ask s then some (Ac2 s life) else none
def Atg : Sig := ⟨[.rd Il, .rd tI], [some 10, none], [.rd tI, .rd tI, .rd tI, .rd tI, .rd tI, .rd tI, .rd tI, .rd tI, .rd tI, .own 167 Ak, .own 126 Mb, .rd .bool], [some 10, none, none]⟩
noncomputable def sd_impl_move : SD := ⟨Atg, fun x => (Qd x.1 x.2.1).bind fun r => some ((r.1.1, r.1.2.1, r.1.2.2.1, r.1.2.2.2.1.1, r.1.2.2.2.1.2.1, r.1.2.2.2.1.2.2.1, r.1.2.2.2.1.2.2.2.1, r.1.2.2.2.2.1, r.1.2.2.2.2.2.1, r.1.2.2.2.2.2.2.1.1, r.2.1, r.2.2, ()), (()))⟩
noncomputable def ta_impl_move : Tb := tb [(91, sd_impl_Halves), (93, sd_impl_Cut), (94, sd_impl_FormBatch), (95, sd_impl_begin), (116, sd_impl_FormPage), (139, sd_impl_copyState), (172, sd_impl_Snapshot), (191, sd_impl_RootPage)]
def pa_impl_move : Nat → Pat × (Nat → Pat) := Fj [(8, ⟨[.row 9 0 9 .str, .sl 52 0 (.sl D8), .boxSl 2 9 Ak, .boxRow 4 9 167 Ak], [(1, .lf (.d tI)), (2, .lf (.ptr 0 0)), (4, .lf (.ptr 1 0)), (8, .lf (.ptr 2 0)), (9, .lf (.row 3)), (52, .lf (.d (.sl (.sl D8)))), (53, .lf (.d tI)), (54, .lf (.d tI))], [.box 33 [.d tI, .d tI, .d tI, .d tI, .d tI, .d tI, .d tI, .d tI, .d tI, .d (.sl Ak)], .box 33 [.d tI, .d tI, .d tI, .d tI, .d tI, .d tI, .d tI, .d tI, .d tI, .row 4], .box 28 [.d tI, .d tI, .d tI, .d tI], .row 9 .str, .row 167 Ak]⟩, [(2, ⟨[.row 9 0 9 .str, .boxSl 2 9 Ak, .boxRow 4 9 167 Ak], [(1, .lf (.d tI)), (2, .lf (.ptr 0 0)), (4, .lf (.ptr 1 0)), (8, .lf (.ptr 2 0)), (9, .lf (.row 3))], [.box 33 [.d tI, .d tI, .d tI, .d tI, .d tI, .d tI, .d tI, .d tI, .d tI, .d (.sl Ak)], .box 33 [.d tI, .d tI, .d tI, .d tI, .d tI, .d tI, .d tI, .d tI, .d tI, .row 4], .box 28 [.d tI, .d tI, .d tI, .d tI], .row 9 .str, .row 167 Ak]⟩)]), (14, ⟨[.sl 9 0 .str, .row 12 0 126 Mb, .sl 72 0 .str, .boxSl 2 9 Ak, .boxRow 4 9 167 Ak], [(1, .lf (.d tI)), (2, .lf (.ptr 0 0)), (4, .lf (.ptr 1 0)), (8, .lf (.ptr 2 0)), (9, .lf (.d (.sl .str))), (12, .lf (.row 3)), (72, .lf (.d (.sl .str))), (73, .lf (.d tI)), (74, .lf (.d tI))], [.box 33 [.d tI, .d tI, .d tI, .d tI, .d tI, .d tI, .d tI, .d tI, .d tI, .d (.sl Ak)], .box 33 [.d tI, .d tI, .d tI, .d tI, .d tI, .d tI, .d tI, .d tI, .d tI, .row 4], .box 28 [.d tI, .d tI, .d tI, .d tI], .row 126 Mb, .row 167 Ak]⟩, [(4, ⟨[.sl 9 0 .str, .row 12 0 126 Mb, .boxSl 2 9 Ak, .boxRow 4 9 167 Ak], [(1, .lf (.d tI)), (2, .lf (.ptr 0 0)), (4, .lf (.ptr 1 0)), (8, .lf (.ptr 2 0)), (9, .lf (.d (.sl .str))), (12, .lf (.row 3))], [.box 33 [.d tI, .d tI, .d tI, .d tI, .d tI, .d tI, .d tI, .d tI, .d tI, .d (.sl Ak)], .box 33 [.d tI, .d tI, .d tI, .d tI, .d tI, .d tI, .d tI, .d tI, .d tI, .row 4], .box 28 [.d tI, .d tI, .d tI, .d tI], .row 126 Mb, .row 167 Ak]⟩)])]
noncomputable def co_impl_move_8 : Code := (Ao (A4 Tryz.f117)).getD 0 .skip
noncomputable def co_impl_move_14 : Code := (Ao (A4 Tryz.f117)).getD 1 .skip
def H5 (v1 : Int) (v9 : List ByteArray) (v72 : List ByteArray) (v73 : Int) (v74 : Int) (b0_0 : Int) (b0_1 : Int) (b0_2 : Int) (b0_3 : Int) (b0_4 : Int) (b0_5 : Int) (b0_6 : Int) (b0_7 : Int) (b0_8 : Int) (b0_9 : List Pr2) (b1_0 : Int) (b1_1 : Int) (b1_2 : Int) (b1_3 : Int) (b1_4 : Int) (b1_5 : Int) (b1_6 : Int) (b1_7 : Int) (b1_8 : Int) (b2_0 : Int) (b2_1 : Int) (b2_2 : Int) (b2_3 : Int) (r3 : List Opn) (r4 : List Pr2) : Nat := (v73 - v74).toNat + 1
noncomputable def J2 {R : Type}  (NX : ((Int) × (List ByteArray) × (List ByteArray) × (Int) × (Int) × (Int) × (Int) × (Int) × (Int) × (Int) × (Int) × (Int) × (Int) × (Int) × (List Pr2) × (Int) × (Int) × (Int) × (Int) × (Int) × (Int) × (Int) × (Int) × (Int) × (Int) × (Int) × (Int) × (Int) × (List Opn) × (List Pr2) × Unit) → Option R) (X4 : ((Int) × (List ByteArray) × (Int) × (Int) × (Int) × (Int) × (Int) × (Int) × (Int) × (Int) × (Int) × (List Pr2) × (Int) × (Int) × (Int) × (Int) × (Int) × (Int) × (Int) × (Int) × (Int) × (Int) × (Int) × (Int) × (Int) × (List Opn) × (List Pr2) × Unit) → Option R) (v1 : Int) (v9 : List ByteArray) (v72 : List ByteArray) (v73 : Int) (v74 : Int) (b0_0 : Int) (b0_1 : Int) (b0_2 : Int) (b0_3 : Int) (b0_4 : Int) (b0_5 : Int) (b0_6 : Int) (b0_7 : Int) (b0_8 : Int) (b0_9 : List Pr2) (b1_0 : Int) (b1_1 : Int) (b1_2 : Int) (b1_3 : Int) (b1_4 : Int) (b1_5 : Int) (b1_6 : Int) (b1_7 : Int) (b1_8 : Int) (b2_0 : Int) (b2_1 : Int) (b2_2 : Int) (b2_3 : Int) (r3 : List Opn) (r4 : List Pr2) : Option R :=
 bif decide (v74 < v73) then bif decide (0 ≤ v74) then bif decide (v74 < nI v72.length) then bif decide ((r3.length + [(false, IntKind.i64.wrap (C3 b2_1 b0_1 + v74), v72.getD v74.toNat (ByteArray.mk #[]), ())].length) * 32 ≤ 140737488355328) then NX (v1, v9, v72, v73, IntKind.i64.wrap (v74 + 1), b0_0, b0_1, b0_2, b0_3, b0_4, b0_5, b0_6, b0_7, b0_8, b0_9, b1_0, b1_1, b1_2, b1_3, b1_4, b1_5, b1_6, b1_7, b1_8, b2_0, b2_1, b2_2, b2_3, r3 ++ [(false, IntKind.i64.wrap (C3 b2_1 b0_1 + v74), v72.getD v74.toNat (ByteArray.mk #[]), ())], r4, ()) else none else none else none else X4 (v1, v9, b0_0, b0_1, b0_2, b0_3, b0_4, b0_5, b0_6, b0_7, b0_8, b0_9, b1_0, b1_1, b1_2, b1_3, b1_4, b1_5, b1_6, b1_7, b1_8, b2_0, b2_1, b2_2, b2_3, r3, r4, ())
noncomputable def De : Nat → (Int) → (List ByteArray) → (List ByteArray) → (Int) → (Int) → (Int) → (Int) → (Int) → (Int) → (Int) → (Int) → (Int) → (Int) → (Int) → (List Pr2) → (Int) → (Int) → (Int) → (Int) → (Int) → (Int) → (Int) → (Int) → (Int) → (Int) → (Int) → (Int) → (Int) → (List Opn) → (List Pr2) →  Option ((Int) × (List ByteArray) × (Int) × (Int) × (Int) × (Int) × (Int) × (Int) × (Int) × (Int) × (Int) × (List Pr2) × (Int) × (Int) × (Int) × (Int) × (Int) × (Int) × (Int) × (Int) × (Int) × (Int) × (Int) × (Int) × (Int) × (List Opn) × (List Pr2) × Unit)
 | 0, _, _, _, _, _, _, _, _, _, _, _, _, _, _, _, _, _, _, _, _, _, _, _, _, _, _, _, _, _, _ => none
 | m + 1, v1, v9, v72, v73, v74, b0_0, b0_1, b0_2, b0_3, b0_4, b0_5, b0_6, b0_7, b0_8, b0_9, b1_0, b1_1, b1_2, b1_3, b1_4, b1_5, b1_6, b1_7, b1_8, b2_0, b2_1, b2_2, b2_3, r3, r4 => J2  (fun d => De m d.1 d.2.1 d.2.2.1 d.2.2.2.1 d.2.2.2.2.1 d.2.2.2.2.2.1 d.2.2.2.2.2.2.1 d.2.2.2.2.2.2.2.1 d.2.2.2.2.2.2.2.2.1 d.2.2.2.2.2.2.2.2.2.1 d.2.2.2.2.2.2.2.2.2.2.1 d.2.2.2.2.2.2.2.2.2.2.2.1 d.2.2.2.2.2.2.2.2.2.2.2.2.1 d.2.2.2.2.2.2.2.2.2.2.2.2.2.1 d.2.2.2.2.2.2.2.2.2.2.2.2.2.2.1 d.2.2.2.2.2.2.2.2.2.2.2.2.2.2.2.1 d.2.2.2.2.2.2.2.2.2.2.2.2.2.2.2.2.1 d.2.2.2.2.2.2.2.2.2.2.2.2.2.2.2.2.2.1 d.2.2.2.2.2.2.2.2.2.2.2.2.2.2.2.2.2.2.1 d.2.2.2.2.2.2.2.2.2.2.2.2.2.2.2.2.2.2.2.1 d.2.2.2.2.2.2.2.2.2.2.2.2.2.2.2.2.2.2.2.2.1 d.2.2.2.2.2.2.2.2.2.2.2.2.2.2.2.2.2.2.2.2.2.1 d.2.2.2.2.2.2.2.2.2.2.2.2.2.2.2.2.2.2.2.2.2.2.1 d.2.2.2.2.2.2.2.2.2.2.2.2.2.2.2.2.2.2.2.2.2.2.2.1 d.2.2.2.2.2.2.2.2.2.2.2.2.2.2.2.2.2.2.2.2.2.2.2.2.1 d.2.2.2.2.2.2.2.2.2.2.2.2.2.2.2.2.2.2.2.2.2.2.2.2.2.1 d.2.2.2.2.2.2.2.2.2.2.2.2.2.2.2.2.2.2.2.2.2.2.2.2.2.2.1 d.2.2.2.2.2.2.2.2.2.2.2.2.2.2.2.2.2.2.2.2.2.2.2.2.2.2.2.1 d.2.2.2.2.2.2.2.2.2.2.2.2.2.2.2.2.2.2.2.2.2.2.2.2.2.2.2.2.1 d.2.2.2.2.2.2.2.2.2.2.2.2.2.2.2.2.2.2.2.2.2.2.2.2.2.2.2.2.2.1) (fun d => some (d)) v1 v9 v72 v73 v74 b0_0 b0_1 b0_2 b0_3 b0_4 b0_5 b0_6 b0_7 b0_8 b0_9 b1_0 b1_1 b1_2 b1_3 b1_4 b1_5 b1_6 b1_7 b1_8 b2_0 b2_1 b2_2 b2_3 r3 r4
def Jd (v1 : Int) (v52 : List (List Chg)) (v53 : Int) (v54 : Int) (b0_0 : Int) (b0_1 : Int) (b0_2 : Int) (b0_3 : Int) (b0_4 : Int) (b0_5 : Int) (b0_6 : Int) (b0_7 : Int) (b0_8 : Int) (b0_9 : List Pr2) (b1_0 : Int) (b1_1 : Int) (b1_2 : Int) (b1_3 : Int) (b1_4 : Int) (b1_5 : Int) (b1_6 : Int) (b1_7 : Int) (b1_8 : Int) (b2_0 : Int) (b2_1 : Int) (b2_2 : Int) (b2_3 : Int) (r3 : List ByteArray) (r4 : List Pr2) : Nat := (v53 - v54).toNat + 1
noncomputable def K2 {R : Type}  (NX : ((Int) × (List (List Chg)) × (Int) × (Int) × (Int) × (Int) × (Int) × (Int) × (Int) × (Int) × (Int) × (Int) × (Int) × (List Pr2) × (Int) × (Int) × (Int) × (Int) × (Int) × (Int) × (Int) × (Int) × (Int) × (Int) × (Int) × (Int) × (Int) × (List ByteArray) × (List Pr2) × Unit) → Option R) (X2 : ((Int) × (Int) × (Int) × (Int) × (Int) × (Int) × (Int) × (Int) × (Int) × (Int) × (List Pr2) × (Int) × (Int) × (Int) × (Int) × (Int) × (Int) × (Int) × (Int) × (Int) × (Int) × (Int) × (Int) × (Int) × (List ByteArray) × (List Pr2) × Unit) → Option R) (v1 : Int) (v52 : List (List Chg)) (v53 : Int) (v54 : Int) (b0_0 : Int) (b0_1 : Int) (b0_2 : Int) (b0_3 : Int) (b0_4 : Int) (b0_5 : Int) (b0_6 : Int) (b0_7 : Int) (b0_8 : Int) (b0_9 : List Pr2) (b1_0 : Int) (b1_1 : Int) (b1_2 : Int) (b1_3 : Int) (b1_4 : Int) (b1_5 : Int) (b1_6 : Int) (b1_7 : Int) (b1_8 : Int) (b2_0 : Int) (b2_1 : Int) (b2_2 : Int) (b2_3 : Int) (r3 : List ByteArray) (r4 : List Pr2) : Option R :=
 bif decide (v54 < v53) then bif decide (0 ≤ v54) then bif decide (v54 < nI v52.length) then ((S8 (Fv (v52.getD v54.toNat [])) v1 (IntKind.i64.wrap (b2_2 + nI r3.length)) b0_0).bind fun val => some ((val, ()), ())).bind fun val => bif decide ((r3.length + List.length val.1.1) * 16 ≤ 140737488355328) then NX (v1, v52, v53, IntKind.i64.wrap (v54 + 1), b0_0, b0_1, b0_2, b0_3, b0_4, b0_5, b0_6, b0_7, b0_8, b0_9, b1_0, b1_1, b1_2, b1_3, b1_4, b1_5, b1_6, b1_7, b1_8, b2_0, b2_1, b2_2, b2_3, r3 ++ val.1.1, r4, ()) else none else none else none else X2 (v1, b0_0, b0_1, b0_2, b0_3, b0_4, b0_5, b0_6, b0_7, b0_8, b0_9, b1_0, b1_1, b1_2, b1_3, b1_4, b1_5, b1_6, b1_7, b1_8, b2_0, b2_1, b2_2, b2_3, r3, r4, ())
noncomputable def D4 : Nat → (Int) → (List (List Chg)) → (Int) → (Int) → (Int) → (Int) → (Int) → (Int) → (Int) → (Int) → (Int) → (Int) → (Int) → (List Pr2) → (Int) → (Int) → (Int) → (Int) → (Int) → (Int) → (Int) → (Int) → (Int) → (Int) → (Int) → (Int) → (Int) → (List ByteArray) → (List Pr2) →  Option ((Int) × (Int) × (Int) × (Int) × (Int) × (Int) × (Int) × (Int) × (Int) × (Int) × (List Pr2) × (Int) × (Int) × (Int) × (Int) × (Int) × (Int) × (Int) × (Int) × (Int) × (Int) × (Int) × (Int) × (Int) × (List ByteArray) × (List Pr2) × Unit)
 | 0, _, _, _, _, _, _, _, _, _, _, _, _, _, _, _, _, _, _, _, _, _, _, _, _, _, _, _, _, _ => none
 | m + 1, v1, v52, v53, v54, b0_0, b0_1, b0_2, b0_3, b0_4, b0_5, b0_6, b0_7, b0_8, b0_9, b1_0, b1_1, b1_2, b1_3, b1_4, b1_5, b1_6, b1_7, b1_8, b2_0, b2_1, b2_2, b2_3, r3, r4 => K2  (fun d => D4 m d.1 d.2.1 d.2.2.1 d.2.2.2.1 d.2.2.2.2.1 d.2.2.2.2.2.1 d.2.2.2.2.2.2.1 d.2.2.2.2.2.2.2.1 d.2.2.2.2.2.2.2.2.1 d.2.2.2.2.2.2.2.2.2.1 d.2.2.2.2.2.2.2.2.2.2.1 d.2.2.2.2.2.2.2.2.2.2.2.1 d.2.2.2.2.2.2.2.2.2.2.2.2.1 d.2.2.2.2.2.2.2.2.2.2.2.2.2.1 d.2.2.2.2.2.2.2.2.2.2.2.2.2.2.1 d.2.2.2.2.2.2.2.2.2.2.2.2.2.2.2.1 d.2.2.2.2.2.2.2.2.2.2.2.2.2.2.2.2.1 d.2.2.2.2.2.2.2.2.2.2.2.2.2.2.2.2.2.1 d.2.2.2.2.2.2.2.2.2.2.2.2.2.2.2.2.2.2.1 d.2.2.2.2.2.2.2.2.2.2.2.2.2.2.2.2.2.2.2.1 d.2.2.2.2.2.2.2.2.2.2.2.2.2.2.2.2.2.2.2.2.1 d.2.2.2.2.2.2.2.2.2.2.2.2.2.2.2.2.2.2.2.2.2.1 d.2.2.2.2.2.2.2.2.2.2.2.2.2.2.2.2.2.2.2.2.2.2.1 d.2.2.2.2.2.2.2.2.2.2.2.2.2.2.2.2.2.2.2.2.2.2.2.1 d.2.2.2.2.2.2.2.2.2.2.2.2.2.2.2.2.2.2.2.2.2.2.2.2.1 d.2.2.2.2.2.2.2.2.2.2.2.2.2.2.2.2.2.2.2.2.2.2.2.2.2.1 d.2.2.2.2.2.2.2.2.2.2.2.2.2.2.2.2.2.2.2.2.2.2.2.2.2.2.1 d.2.2.2.2.2.2.2.2.2.2.2.2.2.2.2.2.2.2.2.2.2.2.2.2.2.2.2.1 d.2.2.2.2.2.2.2.2.2.2.2.2.2.2.2.2.2.2.2.2.2.2.2.2.2.2.2.2.1) (fun d => some (d)) v1 v52 v53 v54 b0_0 b0_1 b0_2 b0_3 b0_4 b0_5 b0_6 b0_7 b0_8 b0_9 b1_0 b1_1 b1_2 b1_3 b1_4 b1_5 b1_6 b1_7 b1_8 b2_0 b2_1 b2_2 b2_3 r3 r4
noncomputable def Xk (a0 : Sto) (a1 : Int) : Option ((((Int) × (Int) × (Int) × (Int) × (Int) × (Int) × (Int) × (Int) × (Int) × (List Pr2) × (List Opn) × (Bool) × Unit) × (Unit))) :=
 bif decide (IntKind.i64.wrap (a0.2.2.2.1.1 + 1) > 1000000000) then some ((0, 0, 0, 0, 0, 0, 0, 0, 0, [], [], false, ()), ()) else bif decide (IntKind.i64.wrap (a0.2.2.2.1.2.2.1 + Bi a0.2.1) > 999999000) then some ((0, 0, 0, 0, 0, 0, 0, 0, 0, [], [], false, ()), ()) else ((fun d => D4 (Jd d.1 d.2.1 d.2.2.1 d.2.2.2.1 d.2.2.2.2.1 d.2.2.2.2.2.1 d.2.2.2.2.2.2.1 d.2.2.2.2.2.2.2.1 d.2.2.2.2.2.2.2.2.1 d.2.2.2.2.2.2.2.2.2.1 d.2.2.2.2.2.2.2.2.2.2.1 d.2.2.2.2.2.2.2.2.2.2.2.1 d.2.2.2.2.2.2.2.2.2.2.2.2.1 d.2.2.2.2.2.2.2.2.2.2.2.2.2.1 d.2.2.2.2.2.2.2.2.2.2.2.2.2.2.1 d.2.2.2.2.2.2.2.2.2.2.2.2.2.2.2.1 d.2.2.2.2.2.2.2.2.2.2.2.2.2.2.2.2.1 d.2.2.2.2.2.2.2.2.2.2.2.2.2.2.2.2.2.1 d.2.2.2.2.2.2.2.2.2.2.2.2.2.2.2.2.2.2.1 d.2.2.2.2.2.2.2.2.2.2.2.2.2.2.2.2.2.2.2.1 d.2.2.2.2.2.2.2.2.2.2.2.2.2.2.2.2.2.2.2.2.1 d.2.2.2.2.2.2.2.2.2.2.2.2.2.2.2.2.2.2.2.2.2.1 d.2.2.2.2.2.2.2.2.2.2.2.2.2.2.2.2.2.2.2.2.2.2.1 d.2.2.2.2.2.2.2.2.2.2.2.2.2.2.2.2.2.2.2.2.2.2.2.1 d.2.2.2.2.2.2.2.2.2.2.2.2.2.2.2.2.2.2.2.2.2.2.2.2.1 d.2.2.2.2.2.2.2.2.2.2.2.2.2.2.2.2.2.2.2.2.2.2.2.2.2.1 d.2.2.2.2.2.2.2.2.2.2.2.2.2.2.2.2.2.2.2.2.2.2.2.2.2.2.1 d.2.2.2.2.2.2.2.2.2.2.2.2.2.2.2.2.2.2.2.2.2.2.2.2.2.2.2.1 d.2.2.2.2.2.2.2.2.2.2.2.2.2.2.2.2.2.2.2.2.2.2.2.2.2.2.2.2.1) d.1 d.2.1 d.2.2.1 d.2.2.2.1 d.2.2.2.2.1 d.2.2.2.2.2.1 d.2.2.2.2.2.2.1 d.2.2.2.2.2.2.2.1 d.2.2.2.2.2.2.2.2.1 d.2.2.2.2.2.2.2.2.2.1 d.2.2.2.2.2.2.2.2.2.2.1 d.2.2.2.2.2.2.2.2.2.2.2.1 d.2.2.2.2.2.2.2.2.2.2.2.2.1 d.2.2.2.2.2.2.2.2.2.2.2.2.2.1 d.2.2.2.2.2.2.2.2.2.2.2.2.2.2.1 d.2.2.2.2.2.2.2.2.2.2.2.2.2.2.2.1 d.2.2.2.2.2.2.2.2.2.2.2.2.2.2.2.2.1 d.2.2.2.2.2.2.2.2.2.2.2.2.2.2.2.2.2.1 d.2.2.2.2.2.2.2.2.2.2.2.2.2.2.2.2.2.2.1 d.2.2.2.2.2.2.2.2.2.2.2.2.2.2.2.2.2.2.2.1 d.2.2.2.2.2.2.2.2.2.2.2.2.2.2.2.2.2.2.2.2.1 d.2.2.2.2.2.2.2.2.2.2.2.2.2.2.2.2.2.2.2.2.2.1 d.2.2.2.2.2.2.2.2.2.2.2.2.2.2.2.2.2.2.2.2.2.2.1 d.2.2.2.2.2.2.2.2.2.2.2.2.2.2.2.2.2.2.2.2.2.2.2.1 d.2.2.2.2.2.2.2.2.2.2.2.2.2.2.2.2.2.2.2.2.2.2.2.2.1 d.2.2.2.2.2.2.2.2.2.2.2.2.2.2.2.2.2.2.2.2.2.2.2.2.2.1 d.2.2.2.2.2.2.2.2.2.2.2.2.2.2.2.2.2.2.2.2.2.2.2.2.2.2.1 d.2.2.2.2.2.2.2.2.2.2.2.2.2.2.2.2.2.2.2.2.2.2.2.2.2.2.2.1 d.2.2.2.2.2.2.2.2.2.2.2.2.2.2.2.2.2.2.2.2.2.2.2.2.2.2.2.2.1) (a1, Fd a0.2.2.2.2.2.2.1, nI (Fd a0.2.2.2.2.2.2.1).length, 0, a0.1, a0.2.1, a0.2.2.1, a0.2.2.2.1.1, a0.2.2.2.1.2.1, a0.2.2.2.1.2.2.1, a0.2.2.2.1.2.2.2.1, a0.2.2.2.2.1, a0.2.2.2.2.2.1, a0.2.2.2.2.2.2.1.1, 0, 0, 0, 0, 0, 0, 0, 0, 0, IntKind.i64.wrap (a0.2.2.2.1.1 + 1), IntKind.i64.wrap (1 - a0.2.2.2.1.2.1), IntKind.i64.wrap (a0.2.2.2.1.2.2.1 + Bi a0.2.1), a1, [Co (3, a1, IntKind.i64.wrap (a0.2.2.2.1.2.2.1 + Bi a0.2.1), ByteArray.mk #[], ()) a0.1], [], ())).bind fun val => ((fun d => De (H5 d.1 d.2.1 d.2.2.1 d.2.2.2.1 d.2.2.2.2.1 d.2.2.2.2.2.1 d.2.2.2.2.2.2.1 d.2.2.2.2.2.2.2.1 d.2.2.2.2.2.2.2.2.1 d.2.2.2.2.2.2.2.2.2.1 d.2.2.2.2.2.2.2.2.2.2.1 d.2.2.2.2.2.2.2.2.2.2.2.1 d.2.2.2.2.2.2.2.2.2.2.2.2.1 d.2.2.2.2.2.2.2.2.2.2.2.2.2.1 d.2.2.2.2.2.2.2.2.2.2.2.2.2.2.1 d.2.2.2.2.2.2.2.2.2.2.2.2.2.2.2.1 d.2.2.2.2.2.2.2.2.2.2.2.2.2.2.2.2.1 d.2.2.2.2.2.2.2.2.2.2.2.2.2.2.2.2.2.1 d.2.2.2.2.2.2.2.2.2.2.2.2.2.2.2.2.2.2.1 d.2.2.2.2.2.2.2.2.2.2.2.2.2.2.2.2.2.2.2.1 d.2.2.2.2.2.2.2.2.2.2.2.2.2.2.2.2.2.2.2.2.1 d.2.2.2.2.2.2.2.2.2.2.2.2.2.2.2.2.2.2.2.2.2.1 d.2.2.2.2.2.2.2.2.2.2.2.2.2.2.2.2.2.2.2.2.2.2.1 d.2.2.2.2.2.2.2.2.2.2.2.2.2.2.2.2.2.2.2.2.2.2.2.1 d.2.2.2.2.2.2.2.2.2.2.2.2.2.2.2.2.2.2.2.2.2.2.2.2.1 d.2.2.2.2.2.2.2.2.2.2.2.2.2.2.2.2.2.2.2.2.2.2.2.2.2.1 d.2.2.2.2.2.2.2.2.2.2.2.2.2.2.2.2.2.2.2.2.2.2.2.2.2.2.1 d.2.2.2.2.2.2.2.2.2.2.2.2.2.2.2.2.2.2.2.2.2.2.2.2.2.2.2.1 d.2.2.2.2.2.2.2.2.2.2.2.2.2.2.2.2.2.2.2.2.2.2.2.2.2.2.2.2.1 d.2.2.2.2.2.2.2.2.2.2.2.2.2.2.2.2.2.2.2.2.2.2.2.2.2.2.2.2.2.1) d.1 d.2.1 d.2.2.1 d.2.2.2.1 d.2.2.2.2.1 d.2.2.2.2.2.1 d.2.2.2.2.2.2.1 d.2.2.2.2.2.2.2.1 d.2.2.2.2.2.2.2.2.1 d.2.2.2.2.2.2.2.2.2.1 d.2.2.2.2.2.2.2.2.2.2.1 d.2.2.2.2.2.2.2.2.2.2.2.1 d.2.2.2.2.2.2.2.2.2.2.2.2.1 d.2.2.2.2.2.2.2.2.2.2.2.2.2.1 d.2.2.2.2.2.2.2.2.2.2.2.2.2.2.1 d.2.2.2.2.2.2.2.2.2.2.2.2.2.2.2.1 d.2.2.2.2.2.2.2.2.2.2.2.2.2.2.2.2.1 d.2.2.2.2.2.2.2.2.2.2.2.2.2.2.2.2.2.1 d.2.2.2.2.2.2.2.2.2.2.2.2.2.2.2.2.2.2.1 d.2.2.2.2.2.2.2.2.2.2.2.2.2.2.2.2.2.2.2.1 d.2.2.2.2.2.2.2.2.2.2.2.2.2.2.2.2.2.2.2.2.1 d.2.2.2.2.2.2.2.2.2.2.2.2.2.2.2.2.2.2.2.2.2.1 d.2.2.2.2.2.2.2.2.2.2.2.2.2.2.2.2.2.2.2.2.2.2.1 d.2.2.2.2.2.2.2.2.2.2.2.2.2.2.2.2.2.2.2.2.2.2.2.1 d.2.2.2.2.2.2.2.2.2.2.2.2.2.2.2.2.2.2.2.2.2.2.2.2.1 d.2.2.2.2.2.2.2.2.2.2.2.2.2.2.2.2.2.2.2.2.2.2.2.2.2.1 d.2.2.2.2.2.2.2.2.2.2.2.2.2.2.2.2.2.2.2.2.2.2.2.2.2.2.1 d.2.2.2.2.2.2.2.2.2.2.2.2.2.2.2.2.2.2.2.2.2.2.2.2.2.2.2.1 d.2.2.2.2.2.2.2.2.2.2.2.2.2.2.2.2.2.2.2.2.2.2.2.2.2.2.2.2.1 d.2.2.2.2.2.2.2.2.2.2.2.2.2.2.2.2.2.2.2.2.2.2.2.2.2.2.2.2.2.1) (val.1, val.2.2.2.2.2.2.2.2.2.2.2.2.2.2.2.2.2.2.2.2.2.2.2.2.1, val.2.2.2.2.2.2.2.2.2.2.2.2.2.2.2.2.2.2.2.2.2.2.2.2.1, nI val.2.2.2.2.2.2.2.2.2.2.2.2.2.2.2.2.2.2.2.2.2.2.2.2.1.length, 0, val.2.1, val.2.2.1, val.2.2.2.1, val.2.2.2.2.1, val.2.2.2.2.2.1, val.2.2.2.2.2.2.1, val.2.2.2.2.2.2.2.1, val.2.2.2.2.2.2.2.2.1, val.2.2.2.2.2.2.2.2.2.1, val.2.2.2.2.2.2.2.2.2.2.1, val.2.2.2.2.2.2.2.2.2.2.2.1, val.2.2.2.2.2.2.2.2.2.2.2.2.1, val.2.2.2.2.2.2.2.2.2.2.2.2.2.1, val.2.2.2.2.2.2.2.2.2.2.2.2.2.2.1, val.2.2.2.2.2.2.2.2.2.2.2.2.2.2.2.1, val.2.2.2.2.2.2.2.2.2.2.2.2.2.2.2.2.1, val.2.2.2.2.2.2.2.2.2.2.2.2.2.2.2.2.2.1, val.2.2.2.2.2.2.2.2.2.2.2.2.2.2.2.2.2.2.1, val.2.2.2.2.2.2.2.2.2.2.2.2.2.2.2.2.2.2.2.1, val.2.2.2.2.2.2.2.2.2.2.2.2.2.2.2.2.2.2.2.2.1, val.2.2.2.2.2.2.2.2.2.2.2.2.2.2.2.2.2.2.2.2.2.1, val.2.2.2.2.2.2.2.2.2.2.2.2.2.2.2.2.2.2.2.2.2.2.1, val.2.2.2.2.2.2.2.2.2.2.2.2.2.2.2.2.2.2.2.2.2.2.2.1, [], val.2.2.2.2.2.2.2.2.2.2.2.2.2.2.2.2.2.2.2.2.2.2.2.2.2)).bind fun val => bif decide ((val.2.2.2.2.2.2.2.2.2.2.2.2.2.2.2.2.2.2.2.2.2.2.2.2.2.1.length + [(true, 0, ByteArray.mk #[], ()), (false, Int.tmod val.2.2.2.2.2.2.2.2.2.2.2.2.2.2.2.2.2.2.2.2.2.1 2, H4 (val.2.2.2.2.2.2.2.2.2.2.2.2.2.2.2.2.2.2.2.2.2.1, val.2.2.2.2.2.2.2.2.2.2.2.2.2.2.2.2.2.2.2.2.2.2.1, val.2.2.2.2.2.2.2.2.2.2.2.2.2.2.2.2.2.2.2.2.2.2.2.1, val.2.2.2.2.2.2.2.2.2.2.2.2.2.2.2.2.2.2.2.2.2.2.2.2.1, ()) val.2.2.1, ()), (true, 0, ByteArray.mk #[], ())].length) * 32 ≤ 140737488355328) then ((Jc (val.2.2.2.2.2.2.2.2.2.2.2.1, ())).bind fun val => some (val, ())).bind fun val_1 => some ((val.2.2.1, val.2.2.2.1, val.1, val.2.2.2.2.2.2.2.2.2.2.2.2.2.2.2.2.2.2.2.2.2.1, val.2.2.2.2.2.2.2.2.2.2.2.2.2.2.2.2.2.2.2.2.2.2.1, val.2.2.2.2.2.2.2.2.2.2.2.2.2.2.2.2.2.2.2.2.2.2.2.1, val.2.2.2.2.2.2.2.2.2.2.2.2.2.2.2.2.2.2.2.2.2.2.2.2.1, nI (List.length val.2.1), 0, val_1.1.1, val.2.2.2.2.2.2.2.2.2.2.2.2.2.2.2.2.2.2.2.2.2.2.2.2.2.1 ++ [(true, 0, ByteArray.mk #[], ()), (false, Int.tmod val.2.2.2.2.2.2.2.2.2.2.2.2.2.2.2.2.2.2.2.2.2.1 2, H4 (val.2.2.2.2.2.2.2.2.2.2.2.2.2.2.2.2.2.2.2.2.2.1, val.2.2.2.2.2.2.2.2.2.2.2.2.2.2.2.2.2.2.2.2.2.2.1, val.2.2.2.2.2.2.2.2.2.2.2.2.2.2.2.2.2.2.2.2.2.2.2.1, val.2.2.2.2.2.2.2.2.2.2.2.2.2.2.2.2.2.2.2.2.2.2.2.2.1, ()) val.2.2.1, ()), (true, 0, ByteArray.mk #[], ())], true, ()), ()) else none
theorem Axu (v1 b0 b1 b2 b3 b4 b5 b6 b7 b8 T H F l : Int) (b9 : List Pr2) (S : List (List Chg)) (L : List ByteArray) (hS : S.length ≤ 101) (hF : 0 ≤ F ∧ F ≤ 1000000099) (hL : L.length ≤ 1) :
  D4 (Jd v1 S (nI S.length) 0 b0 b1 b2 b3 b4 b5 b6 b7 b8 b9 0 0 0 0 0 0 0 0 0 T H F l L []) v1 S (nI S.length) 0 b0 b1 b2 b3 b4 b5 b6 b7 b8 b9 0 0 0 0 0 0 0 0 0 T H F l L [] =
  some (v1, b0, b1, b2, b3, b4, b5, b6, b7, b8, b9, 0, 0, 0, 0, 0, 0, 0, 0, 0, T, H, F, l, Fb (fun _ b L => W9 b0 v1 F b L) 0 S L, [], ()) := by
 have hL := Fq (xs := S) [] MvI (fun _ b L => W9 b0 v1 F b L) (g := fun m i L => D4 m v1 S (nI S.length) i b0 b1 b2 b3 b4 b5 b6 b7 b8 b9 0 0 0 0 0 0 0 0 0 T H F l L []) (ok := fun L => (v1, b0, b1, b2, b3, b4, b5, b6, b7, b8, b9, 0, 0, 0, 0, 0, 0, 0, 0, 0, T, H, F, l, L, [], ())) (fun m i L hi hI => by
   show D4 (m + 1) v1 S (nI S.length) i b0 b1 b2 b3 b4 b5 b6 b7 b8 b9 0 0 0 0 0 0 0 0 0 T H F l L [] = _
   simp only [D4, K2]
   obtain ⟨h1, h2⟩ := hI
   rw [Mg hi, Fh, wI (show i < 4611686018427387904 by omega), Int.toNat_natCast]
   have e0 : IntKind.i64.wrap (F + nI L.length) = F + (L.length : Int) := by simp only [nI]; exact Ag (by omega) (by omega)
   have e1 : S8 (Fv (List.getD S i [])) v1 (F + (L.length : Int)) b0 = some (Al2 (F4 (List.getD S i [])) v1 (F + (L.length : Int)) b0) := if_pos (Nat.le_trans (Mj _) (by decide))
   rw [e0, e1]
   simp only [cond_true, Option.bind_some]
   have e2 := Asl (List.getD S i []) v1 (F + (L.length : Int)) b0
   rw [decide_eq_true (show (L.length + (Al2 (F4 (List.getD S i [])) v1 (F + (L.length : Int)) b0).length) * 16 ≤ 140737488355328 by omega)]
   rfl) (fun i L hi hI => hI.step (by omega) _ _ _ _) (fun m L hI => by
   show D4 (m + 1) v1 S (nI S.length) (S.length : Int) b0 b1 b2 b3 b4 b5 b6 b7 b8 b9 0 0 0 0 0 0 0 0 0 T H F l L [] = _
   simp only [D4, K2]
   rw [Hx]
   rfl) (Jd v1 S (nI S.length) 0 b0 b1 b2 b3 b4 b5 b6 b7 b8 b9 0 0 0 0 0 0 0 0 0 T H F l L []) 0 L (by omega) (by simp [Jd, nI]) ⟨by omega, by omega⟩
 exact hL
theorem Awd (v1 b0 b1 b2 b3 b4 b5 b6 b7 b8 T H F l : Int) (b9 : List Pr2) (L : List ByteArray) (hL : L.length ≤ 500000) (hH : 0 ≤ H ∧ H ≤ 1) :
  De (H5 v1 L L (nI L.length) 0 b0 b1 b2 b3 b4 b5 b6 b7 b8 b9 0 0 0 0 0 0 0 0 0 T H F l [] []) v1 L L (nI L.length) 0 b0 b1 b2 b3 b4 b5 b6 b7 b8 b9 0 0 0 0 0 0 0 0 0 T H F l [] [] =
  some (v1, L, b0, b1, b2, b3, b4, b5, b6, b7, b8, b9, 0, 0, 0, 0, 0, 0, 0, 0, 0, T, H, F, l, Is (Bz H b1) L, [], ()) := by
 have hh := M5 b1
 have hm : 0 ≤ H * An b1 ∧ H * An b1 ≤ 99 := by
  have : H = 0 ∨ H = 1 := by omega
  rcases this with rfl | rfl <;> omega
 have e0 : C3 H b1 = Bz H b1 := by
  show IntKind.i64.wrap (2 + IntKind.i64.wrap (H * An b1)) = 2 + H * An b1
  rw [Ag (n := H * An b1) (by omega) (by omega), Ag (by omega) (by omega)]
 have hB : 0 ≤ Bz H b1 ∧ Bz H b1 ≤ 101 := by unfold Bz; omega
 have hL := Fq (xs := L) z0 (fun i (r : List Opn) => i ≤ 500000 ∧ r.length = i) (fun (i : Nat) x r => r ++ [Afh (Bz H b1 + (i : Int)) x]) (g := fun m i r => De m v1 L L (nI L.length) i b0 b1 b2 b3 b4 b5 b6 b7 b8 b9 0 0 0 0 0 0 0 0 0 T H F l r []) (ok := fun r => (v1, L, b0, b1, b2, b3, b4, b5, b6, b7, b8, b9, 0, 0, 0, 0, 0, 0, 0, 0, 0, T, H, F, l, r, [], ())) (fun m i r hi hI => by
   show De (m + 1) v1 L L (nI L.length) i b0 b1 b2 b3 b4 b5 b6 b7 b8 b9 0 0 0 0 0 0 0 0 0 T H F l r [] = _
   simp only [De, J2]
   obtain ⟨h1, h2⟩ := hI
   rw [Mg hi, Fh, wI (show i < 4611686018427387904 by omega), Int.toNat_natCast, e0, Ag (n := Bz H b1 + (i : Int)) (by omega) (by omega), List.length_singleton, decide_eq_true (show (r.length + 1) * 32 ≤ 140737488355328 by omega)]
   rfl) (fun i r hi hI => ⟨by omega, by rw [List.length_append, List.length_singleton, hI.2]⟩) (fun m r hI => by
   show De (m + 1) v1 L L (nI L.length) (L.length : Int) b0 b1 b2 b3 b4 b5 b6 b7 b8 b9 0 0 0 0 0 0 0 0 0 T H F l r [] = _
   simp only [De, J2]
   rw [Hx]
   rfl) (H5 v1 L L (nI L.length) 0 b0 b1 b2 b3 b4 b5 b6 b7 b8 b9 0 0 0 0 0 0 0 0 0 T H F l [] []) 0 [] (by omega) (by simp [H5, nI]) ⟨by omega, rfl⟩
 rw [Aq7, List.drop_zero, List.nil_append, show Bz H b1 + ((0 : Nat) : Int) = Bz H b1 by omega] at hL
 exact hL
theorem Ath (a0 : Sto) (a1 : Int) r (h : Qd a0 a1 = some r) : Xk a0 a1 = some ((r.1.1, r.1.2.1, r.1.2.2.1, r.1.2.2.2.1.1, r.1.2.2.2.1.2.1, r.1.2.2.2.1.2.2.1, r.1.2.2.2.1.2.2.2.1, r.1.2.2.2.2.1, r.1.2.2.2.2.2.1, r.1.2.2.2.2.2.2.1.1, r.2.1, r.2.2, ()), (())) := by
 unfold Qd at h
 split at h
 rotate_left
 ·cases h
 rename_i hk
 cases h
 obtain ⟨⟨t0, t1⟩, ⟨h0, h1⟩, ⟨f0, f1⟩, hp⟩ := hk
 have hh := M5 a0.2.1
 unfold Xk Ac2
 simp only [Bi, Fd, Co, H4]
 show (bif decide (IntKind.i64.wrap (a0.2.2.2.1.1 + 1) > 1000000000) then _ else bif decide (IntKind.i64.wrap (a0.2.2.2.1.2.2.1 + An a0.2.1) > 999999000) then _ else _) = _
 rw [Ag (n := a0.2.2.2.1.1 + 1) (by omega) (by omega), Ag (n := a0.2.2.2.1.2.2.1 + An a0.2.1) (by omega) (by omega), Ag (n := 1 - a0.2.2.2.1.2.1) (by omega) (by omega)]
 cases hc1 : decide (a0.2.2.2.1.1 + 1 > 1000000000) with
 | true => rfl
 | false =>
  cases hc2 : decide (a0.2.2.2.1.2.2.1 + An a0.2.1 > 999999000) with
  | true => rfl
  | false =>
   simp only [cond_false]
   have hL1 := Axu a1 a0.1 a0.2.1 a0.2.2.1 a0.2.2.2.1.1 a0.2.2.2.1.2.1 a0.2.2.2.1.2.2.1 a0.2.2.2.1.2.2.2.1 a0.2.2.2.2.1 a0.2.2.2.2.2.1 (a0.2.2.2.1.1 + 1) (1 - a0.2.2.2.1.2.1) (a0.2.2.2.1.2.2.1 + An a0.2.1) a1 a0.2.2.2.2.2.2.1.1 (Dg a0.2.2.2.2.2.2.1) [D1 (3, a1, a0.2.2.2.1.2.2.1 + An a0.2.1, z0, ()) a0.1] (Rn _) ⟨by omega, by omega⟩ (Nat.le_refl 1)
   have hL2 := Awd a1 a0.1 a0.2.1 a0.2.2.1 a0.2.2.2.1.1 a0.2.2.2.1.2.1 a0.2.2.2.1.2.2.1 a0.2.2.2.1.2.2.2.1 a0.2.2.2.2.1 a0.2.2.2.2.2.1 (a0.2.2.2.1.1 + 1) (1 - a0.2.2.2.1.2.1) (a0.2.2.2.1.2.2.1 + An a0.2.1) a1 a0.2.2.2.2.2.2.1.1 (mvL a0 a1) (Asm a0 a1) ⟨by omega, by omega⟩
   have hl := Asm a0 a1
   have e1 : Jc (a0.2.2.2.2.2.2.1.1, ()) = some (a0.2.2.2.2.2.2.1.1, ()) := if_pos hp
   have e2 : decide (((Is (Bz (1 - a0.2.2.2.1.2.1) a0.2.1) (mvL a0 a1)).length + 3) * 32 ≤ 140737488355328) = true := decide_eq_true (by rw [m5]; omega)
   refine Nl hL1 ?_
   dsimp only
   refine Nl hL2 ?_
   dsimp only
   simp only [List.length_cons, List.length_nil, Nat.zero_add, Nat.reduceAdd]
   rw [e2, e1]
   rfl
noncomputable def g6 {R : Type} (k : Kt R) := (Hw (pa_impl_move 8) (.exit 0) 2 k)
noncomputable def Yl {R : Type} (k : Kt R) := (Hw (pa_impl_move 14) (.exit 2) 4 k)
noncomputable def g7 {R : Type} : Lt R pa_impl_move := (D5 (pat := pa_impl_move) 8 (fun d k => (D4 (Jd d.1 d.2.1 d.2.2.1 d.2.2.2.1 d.2.2.2.2.1 d.2.2.2.2.2.1 d.2.2.2.2.2.2.1 d.2.2.2.2.2.2.2.1 d.2.2.2.2.2.2.2.2.1 d.2.2.2.2.2.2.2.2.2.1 d.2.2.2.2.2.2.2.2.2.2.1 d.2.2.2.2.2.2.2.2.2.2.2.1 d.2.2.2.2.2.2.2.2.2.2.2.2.1 d.2.2.2.2.2.2.2.2.2.2.2.2.2.1 d.2.2.2.2.2.2.2.2.2.2.2.2.2.2.1 d.2.2.2.2.2.2.2.2.2.2.2.2.2.2.2.1 d.2.2.2.2.2.2.2.2.2.2.2.2.2.2.2.2.1 d.2.2.2.2.2.2.2.2.2.2.2.2.2.2.2.2.2.1 d.2.2.2.2.2.2.2.2.2.2.2.2.2.2.2.2.2.2.1 d.2.2.2.2.2.2.2.2.2.2.2.2.2.2.2.2.2.2.2.1 d.2.2.2.2.2.2.2.2.2.2.2.2.2.2.2.2.2.2.2.2.1 d.2.2.2.2.2.2.2.2.2.2.2.2.2.2.2.2.2.2.2.2.2.1 d.2.2.2.2.2.2.2.2.2.2.2.2.2.2.2.2.2.2.2.2.2.2.1 d.2.2.2.2.2.2.2.2.2.2.2.2.2.2.2.2.2.2.2.2.2.2.2.1 d.2.2.2.2.2.2.2.2.2.2.2.2.2.2.2.2.2.2.2.2.2.2.2.2.1 d.2.2.2.2.2.2.2.2.2.2.2.2.2.2.2.2.2.2.2.2.2.2.2.2.2.1 d.2.2.2.2.2.2.2.2.2.2.2.2.2.2.2.2.2.2.2.2.2.2.2.2.2.2.1 d.2.2.2.2.2.2.2.2.2.2.2.2.2.2.2.2.2.2.2.2.2.2.2.2.2.2.2.1 d.2.2.2.2.2.2.2.2.2.2.2.2.2.2.2.2.2.2.2.2.2.2.2.2.2.2.2.2.1) d.1 d.2.1 d.2.2.1 d.2.2.2.1 d.2.2.2.2.1 d.2.2.2.2.2.1 d.2.2.2.2.2.2.1 d.2.2.2.2.2.2.2.1 d.2.2.2.2.2.2.2.2.1 d.2.2.2.2.2.2.2.2.2.1 d.2.2.2.2.2.2.2.2.2.2.1 d.2.2.2.2.2.2.2.2.2.2.2.1 d.2.2.2.2.2.2.2.2.2.2.2.2.1 d.2.2.2.2.2.2.2.2.2.2.2.2.2.1 d.2.2.2.2.2.2.2.2.2.2.2.2.2.2.1 d.2.2.2.2.2.2.2.2.2.2.2.2.2.2.2.1 d.2.2.2.2.2.2.2.2.2.2.2.2.2.2.2.2.1 d.2.2.2.2.2.2.2.2.2.2.2.2.2.2.2.2.2.1 d.2.2.2.2.2.2.2.2.2.2.2.2.2.2.2.2.2.2.1 d.2.2.2.2.2.2.2.2.2.2.2.2.2.2.2.2.2.2.2.1 d.2.2.2.2.2.2.2.2.2.2.2.2.2.2.2.2.2.2.2.2.1 d.2.2.2.2.2.2.2.2.2.2.2.2.2.2.2.2.2.2.2.2.2.1 d.2.2.2.2.2.2.2.2.2.2.2.2.2.2.2.2.2.2.2.2.2.2.1 d.2.2.2.2.2.2.2.2.2.2.2.2.2.2.2.2.2.2.2.2.2.2.2.1 d.2.2.2.2.2.2.2.2.2.2.2.2.2.2.2.2.2.2.2.2.2.2.2.2.1 d.2.2.2.2.2.2.2.2.2.2.2.2.2.2.2.2.2.2.2.2.2.2.2.2.2.1 d.2.2.2.2.2.2.2.2.2.2.2.2.2.2.2.2.2.2.2.2.2.2.2.2.2.2.1 d.2.2.2.2.2.2.2.2.2.2.2.2.2.2.2.2.2.2.2.2.2.2.2.2.2.2.2.1 d.2.2.2.2.2.2.2.2.2.2.2.2.2.2.2.2.2.2.2.2.2.2.2.2.2.2.2.2.1).bind (g6 k)) (D5 (pat := pa_impl_move) 14 (fun d k => (De (H5 d.1 d.2.1 d.2.2.1 d.2.2.2.1 d.2.2.2.2.1 d.2.2.2.2.2.1 d.2.2.2.2.2.2.1 d.2.2.2.2.2.2.2.1 d.2.2.2.2.2.2.2.2.1 d.2.2.2.2.2.2.2.2.2.1 d.2.2.2.2.2.2.2.2.2.2.1 d.2.2.2.2.2.2.2.2.2.2.2.1 d.2.2.2.2.2.2.2.2.2.2.2.2.1 d.2.2.2.2.2.2.2.2.2.2.2.2.2.1 d.2.2.2.2.2.2.2.2.2.2.2.2.2.2.1 d.2.2.2.2.2.2.2.2.2.2.2.2.2.2.2.1 d.2.2.2.2.2.2.2.2.2.2.2.2.2.2.2.2.1 d.2.2.2.2.2.2.2.2.2.2.2.2.2.2.2.2.2.1 d.2.2.2.2.2.2.2.2.2.2.2.2.2.2.2.2.2.2.1 d.2.2.2.2.2.2.2.2.2.2.2.2.2.2.2.2.2.2.2.1 d.2.2.2.2.2.2.2.2.2.2.2.2.2.2.2.2.2.2.2.2.1 d.2.2.2.2.2.2.2.2.2.2.2.2.2.2.2.2.2.2.2.2.2.1 d.2.2.2.2.2.2.2.2.2.2.2.2.2.2.2.2.2.2.2.2.2.2.1 d.2.2.2.2.2.2.2.2.2.2.2.2.2.2.2.2.2.2.2.2.2.2.2.1 d.2.2.2.2.2.2.2.2.2.2.2.2.2.2.2.2.2.2.2.2.2.2.2.2.1 d.2.2.2.2.2.2.2.2.2.2.2.2.2.2.2.2.2.2.2.2.2.2.2.2.2.1 d.2.2.2.2.2.2.2.2.2.2.2.2.2.2.2.2.2.2.2.2.2.2.2.2.2.2.1 d.2.2.2.2.2.2.2.2.2.2.2.2.2.2.2.2.2.2.2.2.2.2.2.2.2.2.2.1 d.2.2.2.2.2.2.2.2.2.2.2.2.2.2.2.2.2.2.2.2.2.2.2.2.2.2.2.2.1 d.2.2.2.2.2.2.2.2.2.2.2.2.2.2.2.2.2.2.2.2.2.2.2.2.2.2.2.2.2.1) d.1 d.2.1 d.2.2.1 d.2.2.2.1 d.2.2.2.2.1 d.2.2.2.2.2.1 d.2.2.2.2.2.2.1 d.2.2.2.2.2.2.2.1 d.2.2.2.2.2.2.2.2.1 d.2.2.2.2.2.2.2.2.2.1 d.2.2.2.2.2.2.2.2.2.2.1 d.2.2.2.2.2.2.2.2.2.2.2.1 d.2.2.2.2.2.2.2.2.2.2.2.2.1 d.2.2.2.2.2.2.2.2.2.2.2.2.2.1 d.2.2.2.2.2.2.2.2.2.2.2.2.2.2.1 d.2.2.2.2.2.2.2.2.2.2.2.2.2.2.2.1 d.2.2.2.2.2.2.2.2.2.2.2.2.2.2.2.2.1 d.2.2.2.2.2.2.2.2.2.2.2.2.2.2.2.2.2.1 d.2.2.2.2.2.2.2.2.2.2.2.2.2.2.2.2.2.2.1 d.2.2.2.2.2.2.2.2.2.2.2.2.2.2.2.2.2.2.2.1 d.2.2.2.2.2.2.2.2.2.2.2.2.2.2.2.2.2.2.2.2.1 d.2.2.2.2.2.2.2.2.2.2.2.2.2.2.2.2.2.2.2.2.2.1 d.2.2.2.2.2.2.2.2.2.2.2.2.2.2.2.2.2.2.2.2.2.2.1 d.2.2.2.2.2.2.2.2.2.2.2.2.2.2.2.2.2.2.2.2.2.2.2.1 d.2.2.2.2.2.2.2.2.2.2.2.2.2.2.2.2.2.2.2.2.2.2.2.2.1 d.2.2.2.2.2.2.2.2.2.2.2.2.2.2.2.2.2.2.2.2.2.2.2.2.2.1 d.2.2.2.2.2.2.2.2.2.2.2.2.2.2.2.2.2.2.2.2.2.2.2.2.2.2.1 d.2.2.2.2.2.2.2.2.2.2.2.2.2.2.2.2.2.2.2.2.2.2.2.2.2.2.2.1 d.2.2.2.2.2.2.2.2.2.2.2.2.2.2.2.2.2.2.2.2.2.2.2.2.2.2.2.2.1 d.2.2.2.2.2.2.2.2.2.2.2.2.2.2.2.2.2.2.2.2.2.2.2.2.2.2.2.2.2.1).bind (Yl k)) Ff))
theorem Xl : Au Tryz.prog ta_impl_move := At ⟨N7, Awc, Uc, y8, Jb, Aei, V9, Agw, trivial⟩
theorem Ajk {R : Type} : Aw Tryz.prog R 119 0 pa_impl_move g7 co_impl_move_14 :=
 B1 (cfg := ⟨ta_impl_move, 0, 119, pa_impl_move⟩) 14 [] (fun NX X d => J2  NX X d.1 d.2.1 d.2.2.1 d.2.2.2.1 d.2.2.2.2.1 d.2.2.2.2.2.1 d.2.2.2.2.2.2.1 d.2.2.2.2.2.2.2.1 d.2.2.2.2.2.2.2.2.1 d.2.2.2.2.2.2.2.2.2.1 d.2.2.2.2.2.2.2.2.2.2.1 d.2.2.2.2.2.2.2.2.2.2.2.1 d.2.2.2.2.2.2.2.2.2.2.2.2.1 d.2.2.2.2.2.2.2.2.2.2.2.2.2.1 d.2.2.2.2.2.2.2.2.2.2.2.2.2.2.1 d.2.2.2.2.2.2.2.2.2.2.2.2.2.2.2.1 d.2.2.2.2.2.2.2.2.2.2.2.2.2.2.2.2.1 d.2.2.2.2.2.2.2.2.2.2.2.2.2.2.2.2.2.1 d.2.2.2.2.2.2.2.2.2.2.2.2.2.2.2.2.2.2.1 d.2.2.2.2.2.2.2.2.2.2.2.2.2.2.2.2.2.2.2.1 d.2.2.2.2.2.2.2.2.2.2.2.2.2.2.2.2.2.2.2.2.1 d.2.2.2.2.2.2.2.2.2.2.2.2.2.2.2.2.2.2.2.2.2.1 d.2.2.2.2.2.2.2.2.2.2.2.2.2.2.2.2.2.2.2.2.2.2.1 d.2.2.2.2.2.2.2.2.2.2.2.2.2.2.2.2.2.2.2.2.2.2.2.1 d.2.2.2.2.2.2.2.2.2.2.2.2.2.2.2.2.2.2.2.2.2.2.2.2.1 d.2.2.2.2.2.2.2.2.2.2.2.2.2.2.2.2.2.2.2.2.2.2.2.2.2.1 d.2.2.2.2.2.2.2.2.2.2.2.2.2.2.2.2.2.2.2.2.2.2.2.2.2.2.1 d.2.2.2.2.2.2.2.2.2.2.2.2.2.2.2.2.2.2.2.2.2.2.2.2.2.2.2.1 d.2.2.2.2.2.2.2.2.2.2.2.2.2.2.2.2.2.2.2.2.2.2.2.2.2.2.2.2.1 d.2.2.2.2.2.2.2.2.2.2.2.2.2.2.2.2.2.2.2.2.2.2.2.2.2.2.2.2.2.1) (fun m d => De m d.1 d.2.1 d.2.2.1 d.2.2.2.1 d.2.2.2.2.1 d.2.2.2.2.2.1 d.2.2.2.2.2.2.1 d.2.2.2.2.2.2.2.1 d.2.2.2.2.2.2.2.2.1 d.2.2.2.2.2.2.2.2.2.1 d.2.2.2.2.2.2.2.2.2.2.1 d.2.2.2.2.2.2.2.2.2.2.2.1 d.2.2.2.2.2.2.2.2.2.2.2.2.1 d.2.2.2.2.2.2.2.2.2.2.2.2.2.1 d.2.2.2.2.2.2.2.2.2.2.2.2.2.2.1 d.2.2.2.2.2.2.2.2.2.2.2.2.2.2.2.1 d.2.2.2.2.2.2.2.2.2.2.2.2.2.2.2.2.1 d.2.2.2.2.2.2.2.2.2.2.2.2.2.2.2.2.2.1 d.2.2.2.2.2.2.2.2.2.2.2.2.2.2.2.2.2.2.1 d.2.2.2.2.2.2.2.2.2.2.2.2.2.2.2.2.2.2.2.1 d.2.2.2.2.2.2.2.2.2.2.2.2.2.2.2.2.2.2.2.2.1 d.2.2.2.2.2.2.2.2.2.2.2.2.2.2.2.2.2.2.2.2.2.1 d.2.2.2.2.2.2.2.2.2.2.2.2.2.2.2.2.2.2.2.2.2.2.1 d.2.2.2.2.2.2.2.2.2.2.2.2.2.2.2.2.2.2.2.2.2.2.2.1 d.2.2.2.2.2.2.2.2.2.2.2.2.2.2.2.2.2.2.2.2.2.2.2.2.1 d.2.2.2.2.2.2.2.2.2.2.2.2.2.2.2.2.2.2.2.2.2.2.2.2.2.1 d.2.2.2.2.2.2.2.2.2.2.2.2.2.2.2.2.2.2.2.2.2.2.2.2.2.2.1 d.2.2.2.2.2.2.2.2.2.2.2.2.2.2.2.2.2.2.2.2.2.2.2.2.2.2.2.1 d.2.2.2.2.2.2.2.2.2.2.2.2.2.2.2.2.2.2.2.2.2.2.2.2.2.2.2.2.1 d.2.2.2.2.2.2.2.2.2.2.2.2.2.2.2.2.2.2.2.2.2.2.2.2.2.2.2.2.2.1) (fun d => H5 d.1 d.2.1 d.2.2.1 d.2.2.2.1 d.2.2.2.2.1 d.2.2.2.2.2.1 d.2.2.2.2.2.2.1 d.2.2.2.2.2.2.2.1 d.2.2.2.2.2.2.2.2.1 d.2.2.2.2.2.2.2.2.2.1 d.2.2.2.2.2.2.2.2.2.2.1 d.2.2.2.2.2.2.2.2.2.2.2.1 d.2.2.2.2.2.2.2.2.2.2.2.2.1 d.2.2.2.2.2.2.2.2.2.2.2.2.2.1 d.2.2.2.2.2.2.2.2.2.2.2.2.2.2.1 d.2.2.2.2.2.2.2.2.2.2.2.2.2.2.2.1 d.2.2.2.2.2.2.2.2.2.2.2.2.2.2.2.2.1 d.2.2.2.2.2.2.2.2.2.2.2.2.2.2.2.2.2.1 d.2.2.2.2.2.2.2.2.2.2.2.2.2.2.2.2.2.2.1 d.2.2.2.2.2.2.2.2.2.2.2.2.2.2.2.2.2.2.2.1 d.2.2.2.2.2.2.2.2.2.2.2.2.2.2.2.2.2.2.2.2.1 d.2.2.2.2.2.2.2.2.2.2.2.2.2.2.2.2.2.2.2.2.2.1 d.2.2.2.2.2.2.2.2.2.2.2.2.2.2.2.2.2.2.2.2.2.2.1 d.2.2.2.2.2.2.2.2.2.2.2.2.2.2.2.2.2.2.2.2.2.2.2.1 d.2.2.2.2.2.2.2.2.2.2.2.2.2.2.2.2.2.2.2.2.2.2.2.2.1 d.2.2.2.2.2.2.2.2.2.2.2.2.2.2.2.2.2.2.2.2.2.2.2.2.2.1 d.2.2.2.2.2.2.2.2.2.2.2.2.2.2.2.2.2.2.2.2.2.2.2.2.2.2.1 d.2.2.2.2.2.2.2.2.2.2.2.2.2.2.2.2.2.2.2.2.2.2.2.2.2.2.2.1 d.2.2.2.2.2.2.2.2.2.2.2.2.2.2.2.2.2.2.2.2.2.2.2.2.2.2.2.2.1 d.2.2.2.2.2.2.2.2.2.2.2.2.2.2.2.2.2.2.2.2.2.2.2.2.2.2.2.2.2.1) Yl Xl trivial (fun f NX d => by unfold J2; simp only [Aj, Ap, Ai, Option.bind_assoc, Option.bind_none, Option.bind_some]) (fun _ _ _ => by kernel_rfl)
theorem Aoc {R : Type} : Aw Tryz.prog R 119 0 pa_impl_move g7 co_impl_move_8 :=
 B1 (cfg := ⟨ta_impl_move, 0, 119, pa_impl_move⟩) 8 [] (fun NX X d => K2  NX X d.1 d.2.1 d.2.2.1 d.2.2.2.1 d.2.2.2.2.1 d.2.2.2.2.2.1 d.2.2.2.2.2.2.1 d.2.2.2.2.2.2.2.1 d.2.2.2.2.2.2.2.2.1 d.2.2.2.2.2.2.2.2.2.1 d.2.2.2.2.2.2.2.2.2.2.1 d.2.2.2.2.2.2.2.2.2.2.2.1 d.2.2.2.2.2.2.2.2.2.2.2.2.1 d.2.2.2.2.2.2.2.2.2.2.2.2.2.1 d.2.2.2.2.2.2.2.2.2.2.2.2.2.2.1 d.2.2.2.2.2.2.2.2.2.2.2.2.2.2.2.1 d.2.2.2.2.2.2.2.2.2.2.2.2.2.2.2.2.1 d.2.2.2.2.2.2.2.2.2.2.2.2.2.2.2.2.2.1 d.2.2.2.2.2.2.2.2.2.2.2.2.2.2.2.2.2.2.1 d.2.2.2.2.2.2.2.2.2.2.2.2.2.2.2.2.2.2.2.1 d.2.2.2.2.2.2.2.2.2.2.2.2.2.2.2.2.2.2.2.2.1 d.2.2.2.2.2.2.2.2.2.2.2.2.2.2.2.2.2.2.2.2.2.1 d.2.2.2.2.2.2.2.2.2.2.2.2.2.2.2.2.2.2.2.2.2.2.1 d.2.2.2.2.2.2.2.2.2.2.2.2.2.2.2.2.2.2.2.2.2.2.2.1 d.2.2.2.2.2.2.2.2.2.2.2.2.2.2.2.2.2.2.2.2.2.2.2.2.1 d.2.2.2.2.2.2.2.2.2.2.2.2.2.2.2.2.2.2.2.2.2.2.2.2.2.1 d.2.2.2.2.2.2.2.2.2.2.2.2.2.2.2.2.2.2.2.2.2.2.2.2.2.2.1 d.2.2.2.2.2.2.2.2.2.2.2.2.2.2.2.2.2.2.2.2.2.2.2.2.2.2.2.1 d.2.2.2.2.2.2.2.2.2.2.2.2.2.2.2.2.2.2.2.2.2.2.2.2.2.2.2.2.1) (fun m d => D4 m d.1 d.2.1 d.2.2.1 d.2.2.2.1 d.2.2.2.2.1 d.2.2.2.2.2.1 d.2.2.2.2.2.2.1 d.2.2.2.2.2.2.2.1 d.2.2.2.2.2.2.2.2.1 d.2.2.2.2.2.2.2.2.2.1 d.2.2.2.2.2.2.2.2.2.2.1 d.2.2.2.2.2.2.2.2.2.2.2.1 d.2.2.2.2.2.2.2.2.2.2.2.2.1 d.2.2.2.2.2.2.2.2.2.2.2.2.2.1 d.2.2.2.2.2.2.2.2.2.2.2.2.2.2.1 d.2.2.2.2.2.2.2.2.2.2.2.2.2.2.2.1 d.2.2.2.2.2.2.2.2.2.2.2.2.2.2.2.2.1 d.2.2.2.2.2.2.2.2.2.2.2.2.2.2.2.2.2.1 d.2.2.2.2.2.2.2.2.2.2.2.2.2.2.2.2.2.2.1 d.2.2.2.2.2.2.2.2.2.2.2.2.2.2.2.2.2.2.2.1 d.2.2.2.2.2.2.2.2.2.2.2.2.2.2.2.2.2.2.2.2.1 d.2.2.2.2.2.2.2.2.2.2.2.2.2.2.2.2.2.2.2.2.2.1 d.2.2.2.2.2.2.2.2.2.2.2.2.2.2.2.2.2.2.2.2.2.2.1 d.2.2.2.2.2.2.2.2.2.2.2.2.2.2.2.2.2.2.2.2.2.2.2.1 d.2.2.2.2.2.2.2.2.2.2.2.2.2.2.2.2.2.2.2.2.2.2.2.2.1 d.2.2.2.2.2.2.2.2.2.2.2.2.2.2.2.2.2.2.2.2.2.2.2.2.2.1 d.2.2.2.2.2.2.2.2.2.2.2.2.2.2.2.2.2.2.2.2.2.2.2.2.2.2.1 d.2.2.2.2.2.2.2.2.2.2.2.2.2.2.2.2.2.2.2.2.2.2.2.2.2.2.2.1 d.2.2.2.2.2.2.2.2.2.2.2.2.2.2.2.2.2.2.2.2.2.2.2.2.2.2.2.2.1) (fun d => Jd d.1 d.2.1 d.2.2.1 d.2.2.2.1 d.2.2.2.2.1 d.2.2.2.2.2.1 d.2.2.2.2.2.2.1 d.2.2.2.2.2.2.2.1 d.2.2.2.2.2.2.2.2.1 d.2.2.2.2.2.2.2.2.2.1 d.2.2.2.2.2.2.2.2.2.2.1 d.2.2.2.2.2.2.2.2.2.2.2.1 d.2.2.2.2.2.2.2.2.2.2.2.2.1 d.2.2.2.2.2.2.2.2.2.2.2.2.2.1 d.2.2.2.2.2.2.2.2.2.2.2.2.2.2.1 d.2.2.2.2.2.2.2.2.2.2.2.2.2.2.2.1 d.2.2.2.2.2.2.2.2.2.2.2.2.2.2.2.2.1 d.2.2.2.2.2.2.2.2.2.2.2.2.2.2.2.2.2.1 d.2.2.2.2.2.2.2.2.2.2.2.2.2.2.2.2.2.2.1 d.2.2.2.2.2.2.2.2.2.2.2.2.2.2.2.2.2.2.2.1 d.2.2.2.2.2.2.2.2.2.2.2.2.2.2.2.2.2.2.2.2.1 d.2.2.2.2.2.2.2.2.2.2.2.2.2.2.2.2.2.2.2.2.2.1 d.2.2.2.2.2.2.2.2.2.2.2.2.2.2.2.2.2.2.2.2.2.2.1 d.2.2.2.2.2.2.2.2.2.2.2.2.2.2.2.2.2.2.2.2.2.2.2.1 d.2.2.2.2.2.2.2.2.2.2.2.2.2.2.2.2.2.2.2.2.2.2.2.2.1 d.2.2.2.2.2.2.2.2.2.2.2.2.2.2.2.2.2.2.2.2.2.2.2.2.2.1 d.2.2.2.2.2.2.2.2.2.2.2.2.2.2.2.2.2.2.2.2.2.2.2.2.2.2.1 d.2.2.2.2.2.2.2.2.2.2.2.2.2.2.2.2.2.2.2.2.2.2.2.2.2.2.2.1 d.2.2.2.2.2.2.2.2.2.2.2.2.2.2.2.2.2.2.2.2.2.2.2.2.2.2.2.2.1) g6 Xl trivial (fun f NX d => by unfold K2; simp only [Aj, Ap, Ai, Option.bind_assoc, Option.bind_none, Option.bind_some]) (fun _ _ _ => by kernel_rfl)
theorem Ati : Bf Tryz.prog 117 sd_impl_move :=
 Ar (pat := pa_impl_move) [co_impl_move_8, co_impl_move_14] g7 Xl ⟨Aoc, Ajk, trivial⟩ Tryz.func117 (de := fun x => Xk x.1 x.2.1) (fun x r h => A3 (Ath x.1 x.2.1) h) fun _ => by kernel_rfl
def A9 (d : Dk) (w : Int) : Don := Ac3 d w
def Atj : Sig := ⟨[.rd P3, .rd tI], [some 2, none], [.rd tI, .rd tI, .rd tI, .rd tI, .rd tI, .rd tI, .rd tI, .rd tI, .rd tI, .rd tI, .own 167 Ak, .own 126 Mb], [some 12]⟩
noncomputable def sd_impl_Open : SD := ⟨Atj, fun x => some (((A9 x.1 x.2.1).1, (A9 x.1 x.2.1).2.1.1, (A9 x.1 x.2.1).2.1.2.1, (A9 x.1 x.2.1).2.1.2.2.1, (A9 x.1 x.2.1).2.1.2.2.2.1.1, (A9 x.1 x.2.1).2.1.2.2.2.1.2.1, (A9 x.1 x.2.1).2.1.2.2.2.1.2.2.1, (A9 x.1 x.2.1).2.1.2.2.2.1.2.2.2.1, (A9 x.1 x.2.1).2.1.2.2.2.2.1, (A9 x.1 x.2.1).2.1.2.2.2.2.2.1, (A9 x.1 x.2.1).2.1.2.2.2.2.2.2.1.1, (A9 x.1 x.2.1).2.2.1, ()), (()))⟩
noncomputable def ta_impl_Open : Tb := tb [(90, sd_impl_Apply), (91, sd_impl_Halves), (92, sd_impl_Room), (95, sd_impl_begin), (111, sd_impl_ValidDisk), (112, sd_impl_in), (113, sd_impl_FindRoot), (114, sd_impl_Scan), (115, sd_impl_ReadBatch), (116, sd_impl_FormPage), (117, sd_impl_move)]
def pa_impl_Open : Nat → Pat × (Nat → Pat) := Fj [(10, ⟨[.sl 50 0 .str, .boxRow 4 10 167 Ak, .boxRow 4 11 126 Mb, .boxSl 8 0 .str, .boxRow 9 0 167 Ak], [(1, .lf (.d tI)), (4, .lf (.ptr 0 0)), (5, .lf (.d tI)), (6, .lf (.d tI)), (7, .lf (.ptr 1 0)), (8, .lf (.ptr 2 0)), (9, .lf (.ptr 3 0)), (50, .lf (.d (.sl .str))), (51, .lf (.d tI)), (52, .lf (.d tI))], [.box 56 [.d tI, .d tI, .d tI, .d tI, .d tI, .d tI, .d tI, .d tI, .d tI, .d tI, .row 4, .row 5], .box 28 [.d tI, .d tI, .d tI, .d tI], .box 142 [.d (.sl .str), .d tI, .d tI], .box 31 [.row 6], .row 167 Ak, .row 126 Mb, .row 167 Ak]⟩, [(2, ⟨[.boxRow 4 10 167 Ak, .boxRow 4 11 126 Mb, .boxSl 8 0 .str, .boxRow 9 0 167 Ak], [(1, .lf (.d tI)), (4, .lf (.ptr 0 0)), (5, .lf (.d tI)), (6, .lf (.d tI)), (7, .lf (.ptr 1 0)), (8, .lf (.ptr 2 0)), (9, .lf (.ptr 3 0))], [.box 56 [.d tI, .d tI, .d tI, .d tI, .d tI, .d tI, .d tI, .d tI, .d tI, .d tI, .row 4, .row 5], .box 28 [.d tI, .d tI, .d tI, .d tI], .box 142 [.d (.sl .str), .d tI, .d tI], .box 31 [.row 6], .row 167 Ak, .row 126 Mb, .row 167 Ak]⟩), (1, ⟨[.boxRow 4 10 167 Ak, .boxRow 4 11 126 Mb], [(4, .lf (.ptr 0 0))], [.box 56 [.d tI, .d tI, .d tI, .d tI, .d tI, .d tI, .d tI, .d tI, .d tI, .d tI, .row 1, .row 2], .row 167 Ak, .row 126 Mb]⟩)])]
noncomputable def co_impl_Open_10 : Code := (Ao (A4 Tryz.f31)).getD 0 .skip
def H6 (v1 : Int) (v5 : Int) (v6 : Int) (v50 : List ByteArray) (v51 : Int) (v52 : Int) (b0_0 : Int) (b0_1 : Int) (b0_2 : Int) (b0_3 : Int) (b0_4 : Int) (b0_5 : Int) (b0_6 : Int) (b0_7 : Int) (b0_8 : Int) (b0_9 : Int) (b1_0 : Int) (b1_1 : Int) (b1_2 : Int) (b1_3 : Int) (b2_0 : List ByteArray) (b2_1 : Int) (b2_2 : Int) (r4 : List Pr2) (r5 : List Opn) (r6 : List Pr2) : Nat := (v51 - v52).toNat + 1
noncomputable def J3 {R : Type}  (NX : ((Int) × (Int) × (Int) × (List ByteArray) × (Int) × (Int) × (Int) × (Int) × (Int) × (Int) × (Int) × (Int) × (Int) × (Int) × (Int) × (Int) × (Int) × (Int) × (Int) × (Int) × (List ByteArray) × (Int) × (Int) × (List Pr2) × (List Opn) × (List Pr2) × Unit) → Option R) (X2 : ((Int) × (Int) × (Int) × (Int) × (Int) × (Int) × (Int) × (Int) × (Int) × (Int) × (Int) × (Int) × (Int) × (Int) × (Int) × (Int) × (Int) × (List ByteArray) × (Int) × (Int) × (List Pr2) × (List Opn) × (List Pr2) × Unit) → Option R) (X1 : ((Int) × (Int) × (Int) × (Int) × (Int) × (Int) × (Int) × (Int) × (Int) × (Int) × (List Pr2) × (List Opn) × Unit) → Option R) (v1 : Int) (v5 : Int) (v6 : Int) (v50 : List ByteArray) (v51 : Int) (v52 : Int) (b0_0 : Int) (b0_1 : Int) (b0_2 : Int) (b0_3 : Int) (b0_4 : Int) (b0_5 : Int) (b0_6 : Int) (b0_7 : Int) (b0_8 : Int) (b0_9 : Int) (b1_0 : Int) (b1_1 : Int) (b1_2 : Int) (b1_3 : Int) (b2_0 : List ByteArray) (b2_1 : Int) (b2_2 : Int) (r4 : List Pr2) (r5 : List Opn) (r6 : List Pr2) : Option R :=
 bif decide (v52 < v51) then bif decide (0 ≤ v52) then bif decide (v52 < nI v50.length) then bif !(Ev (v50.getD v52.toNat (ByteArray.mk #[]))).2 then X1 (2, 0, 0, 0, 0, 0, 0, 0, 0, 0, [], [], ()) else bif (Jn (r6, ()) (Ev (v50.getD v52.toNat (ByteArray.mk #[]))).1).2 != 0 then X1 (2, 0, 0, 0, 0, 0, 0, 0, 0, 0, [], [], ()) else NX (v1, v5, v6, v50, v51, IntKind.i64.wrap (v52 + 1), b0_0, b0_1, b0_2, b0_3, b0_4, b0_5, b0_6, b0_7, b0_8, b0_9, b1_0, b1_1, b1_2, b1_3, b2_0, b2_1, b2_2, r4, r5, (Jn (r6, ()) (Ev (v50.getD v52.toNat (ByteArray.mk #[]))).1).1) else none else none else X2 (v1, v5, v6, b0_0, b0_1, b0_2, b0_3, b0_4, b0_5, b0_6, b0_7, b0_8, b0_9, b1_0, b1_1, b1_2, b1_3, b2_0, b2_1, b2_2, r4, r5, r6, ())
noncomputable def Df : Nat → (Int) → (Int) → (Int) → (List ByteArray) → (Int) → (Int) → (Int) → (Int) → (Int) → (Int) → (Int) → (Int) → (Int) → (Int) → (Int) → (Int) → (Int) → (Int) → (Int) → (Int) → (List ByteArray) → (Int) → (Int) → (List Pr2) → (List Opn) → (List Pr2) →  Option (((Int) × (Int) × (Int) × (Int) × (Int) × (Int) × (Int) × (Int) × (Int) × (Int) × (Int) × (Int) × (Int) × (Int) × (Int) × (Int) × (Int) × (List ByteArray) × (Int) × (Int) × (List Pr2) × (List Opn) × (List Pr2) × Unit) ⊕ ((Int) × (Int) × (Int) × (Int) × (Int) × (Int) × (Int) × (Int) × (Int) × (Int) × (List Pr2) × (List Opn) × Unit))
 | 0, _, _, _, _, _, _, _, _, _, _, _, _, _, _, _, _, _, _, _, _, _, _, _, _, _, _ => none
 | m + 1, v1, v5, v6, v50, v51, v52, b0_0, b0_1, b0_2, b0_3, b0_4, b0_5, b0_6, b0_7, b0_8, b0_9, b1_0, b1_1, b1_2, b1_3, b2_0, b2_1, b2_2, r4, r5, r6 => J3  (fun d => Df m d.1 d.2.1 d.2.2.1 d.2.2.2.1 d.2.2.2.2.1 d.2.2.2.2.2.1 d.2.2.2.2.2.2.1 d.2.2.2.2.2.2.2.1 d.2.2.2.2.2.2.2.2.1 d.2.2.2.2.2.2.2.2.2.1 d.2.2.2.2.2.2.2.2.2.2.1 d.2.2.2.2.2.2.2.2.2.2.2.1 d.2.2.2.2.2.2.2.2.2.2.2.2.1 d.2.2.2.2.2.2.2.2.2.2.2.2.2.1 d.2.2.2.2.2.2.2.2.2.2.2.2.2.2.1 d.2.2.2.2.2.2.2.2.2.2.2.2.2.2.2.1 d.2.2.2.2.2.2.2.2.2.2.2.2.2.2.2.2.1 d.2.2.2.2.2.2.2.2.2.2.2.2.2.2.2.2.2.1 d.2.2.2.2.2.2.2.2.2.2.2.2.2.2.2.2.2.2.1 d.2.2.2.2.2.2.2.2.2.2.2.2.2.2.2.2.2.2.2.1 d.2.2.2.2.2.2.2.2.2.2.2.2.2.2.2.2.2.2.2.2.1 d.2.2.2.2.2.2.2.2.2.2.2.2.2.2.2.2.2.2.2.2.2.1 d.2.2.2.2.2.2.2.2.2.2.2.2.2.2.2.2.2.2.2.2.2.2.1 d.2.2.2.2.2.2.2.2.2.2.2.2.2.2.2.2.2.2.2.2.2.2.2.1 d.2.2.2.2.2.2.2.2.2.2.2.2.2.2.2.2.2.2.2.2.2.2.2.2.1 d.2.2.2.2.2.2.2.2.2.2.2.2.2.2.2.2.2.2.2.2.2.2.2.2.2.1) (fun d => some (.inl (d))) (fun d => some (.inr (d))) v1 v5 v6 v50 v51 v52 b0_0 b0_1 b0_2 b0_3 b0_4 b0_5 b0_6 b0_7 b0_8 b0_9 b1_0 b1_1 b1_2 b1_3 b2_0 b2_1 b2_2 r4 r5 r6
noncomputable def Xm (a0 : Dk) (a1 : Int) : Option ((((Int) × (Int) × (Int) × (Int) × (Int) × (Int) × (Int) × (Int) × (Int) × (Int) × (List Pr2) × (List Opn) × Unit) × (Unit))) :=
 bif !Fw a0 then some ((1, 0, 0, 0, 0, 0, 0, 0, 0, 0, [], [], ()), ()) else bif !Bh a1 1 8 then some ((1, 0, 0, 0, 0, 0, 0, 0, 0, 0, [], [], ()), ()) else ((fun d => Df (H6 d.1 d.2.1 d.2.2.1 d.2.2.2.1 d.2.2.2.2.1 d.2.2.2.2.2.1 d.2.2.2.2.2.2.1 d.2.2.2.2.2.2.2.1 d.2.2.2.2.2.2.2.2.1 d.2.2.2.2.2.2.2.2.2.1 d.2.2.2.2.2.2.2.2.2.2.1 d.2.2.2.2.2.2.2.2.2.2.2.1 d.2.2.2.2.2.2.2.2.2.2.2.2.1 d.2.2.2.2.2.2.2.2.2.2.2.2.2.1 d.2.2.2.2.2.2.2.2.2.2.2.2.2.2.1 d.2.2.2.2.2.2.2.2.2.2.2.2.2.2.2.1 d.2.2.2.2.2.2.2.2.2.2.2.2.2.2.2.2.1 d.2.2.2.2.2.2.2.2.2.2.2.2.2.2.2.2.2.1 d.2.2.2.2.2.2.2.2.2.2.2.2.2.2.2.2.2.2.1 d.2.2.2.2.2.2.2.2.2.2.2.2.2.2.2.2.2.2.2.1 d.2.2.2.2.2.2.2.2.2.2.2.2.2.2.2.2.2.2.2.2.1 d.2.2.2.2.2.2.2.2.2.2.2.2.2.2.2.2.2.2.2.2.2.1 d.2.2.2.2.2.2.2.2.2.2.2.2.2.2.2.2.2.2.2.2.2.2.1 d.2.2.2.2.2.2.2.2.2.2.2.2.2.2.2.2.2.2.2.2.2.2.2.1 d.2.2.2.2.2.2.2.2.2.2.2.2.2.2.2.2.2.2.2.2.2.2.2.2.1 d.2.2.2.2.2.2.2.2.2.2.2.2.2.2.2.2.2.2.2.2.2.2.2.2.2.1) d.1 d.2.1 d.2.2.1 d.2.2.2.1 d.2.2.2.2.1 d.2.2.2.2.2.1 d.2.2.2.2.2.2.1 d.2.2.2.2.2.2.2.1 d.2.2.2.2.2.2.2.2.1 d.2.2.2.2.2.2.2.2.2.1 d.2.2.2.2.2.2.2.2.2.2.1 d.2.2.2.2.2.2.2.2.2.2.2.1 d.2.2.2.2.2.2.2.2.2.2.2.2.1 d.2.2.2.2.2.2.2.2.2.2.2.2.2.1 d.2.2.2.2.2.2.2.2.2.2.2.2.2.2.1 d.2.2.2.2.2.2.2.2.2.2.2.2.2.2.2.1 d.2.2.2.2.2.2.2.2.2.2.2.2.2.2.2.2.1 d.2.2.2.2.2.2.2.2.2.2.2.2.2.2.2.2.2.1 d.2.2.2.2.2.2.2.2.2.2.2.2.2.2.2.2.2.2.1 d.2.2.2.2.2.2.2.2.2.2.2.2.2.2.2.2.2.2.2.1 d.2.2.2.2.2.2.2.2.2.2.2.2.2.2.2.2.2.2.2.2.1 d.2.2.2.2.2.2.2.2.2.2.2.2.2.2.2.2.2.2.2.2.2.1 d.2.2.2.2.2.2.2.2.2.2.2.2.2.2.2.2.2.2.2.2.2.2.1 d.2.2.2.2.2.2.2.2.2.2.2.2.2.2.2.2.2.2.2.2.2.2.2.1 d.2.2.2.2.2.2.2.2.2.2.2.2.2.2.2.2.2.2.2.2.2.2.2.2.1 d.2.2.2.2.2.2.2.2.2.2.2.2.2.2.2.2.2.2.2.2.2.2.2.2.2.1) (a1, nI (List.length a0.1), Bi (nI (List.length a0.1)), (Eu a0 (C3 (As a0 a1).2.1 (nI (List.length a0.1))) (Bi (nI (List.length a0.1))) (As a0 a1).2.2.1 (As a0 a1).2.2.2.1 a1).1, nI (Eu a0 (C3 (As a0 a1).2.1 (nI (List.length a0.1))) (Bi (nI (List.length a0.1))) (As a0 a1).2.2.1 (As a0 a1).2.2.2.1 a1).1.length, 0, 0, 0, 0, 0, 0, 0, 0, 0, 0, 0, (As a0 a1).1, (As a0 a1).2.1, (As a0 a1).2.2.1, (As a0 a1).2.2.2.1, (Eu a0 (C3 (As a0 a1).2.1 (nI (List.length a0.1))) (Bi (nI (List.length a0.1))) (As a0 a1).2.2.1 (As a0 a1).2.2.2.1 a1).1, (Eu a0 (C3 (As a0 a1).2.1 (nI (List.length a0.1))) (Bi (nI (List.length a0.1))) (As a0 a1).2.2.1 (As a0 a1).2.2.2.1 a1).2.1, (Eu a0 (C3 (As a0 a1).2.1 (nI (List.length a0.1))) (Bi (nI (List.length a0.1))) (As a0 a1).2.2.1 (As a0 a1).2.2.2.1 a1).2.2.1, [], [], [], ())).bind fun val => Be (fun val => bif decide (IntKind.i64.wrap (val.2.2.2.2.2.2.2.2.2.2.2.2.2.2.2.2.2.2.2.1 + 1) > 60000) then some ((3, 0, 0, 0, 0, 0, 0, 0, 0, 0, [], [], ()), ()) else bif decide (M8 val.2.2.2.2.2.2.2.2.2.2.2.2.2.2.2.2.2.2.2.2.2.2 val.1 > IntKind.i64.wrap (val.2.2.1 - 1)) then some ((4, 0, 0, 0, 0, 0, 0, 0, 0, 0, [], [], ()), ()) else bif decide (val.2.2.2.2.2.2.2.2.2.2.2.2.2.2.2.2.2.2.1 < val.2.2.1) then some ((0, val.1, val.2.1, IntKind.i64.wrap (val.2.2.2.2.2.2.2.2.2.2.2.2.2.2.2.2.2.2.2.1 + 1), val.2.2.2.2.2.2.2.2.2.2.2.2.2.1, val.2.2.2.2.2.2.2.2.2.2.2.2.2.2.1, val.2.2.2.2.2.2.2.2.2.2.2.2.2.2.2.1, val.2.2.2.2.2.2.2.2.2.2.2.2.2.2.2.2.1, IntKind.i64.wrap (val.2.2.2.2.2.2.2.2.2.2.2.2.2.2.2.2.2.2.1 + 1), 0, val.2.2.2.2.2.2.2.2.2.2.2.2.2.2.2.2.2.2.2.2.2.2.1, [(false, IntKind.i64.wrap (C3 val.2.2.2.2.2.2.2.2.2.2.2.2.2.2.1 val.2.1 + val.2.2.2.2.2.2.2.2.2.2.2.2.2.2.2.2.2.2.1), Co (3, IntKind.i64.wrap (val.2.2.2.2.2.2.2.2.2.2.2.2.2.2.2.2.2.2.2.1 + 1), IntKind.i64.wrap (val.2.2.2.2.2.2.2.2.2.2.2.2.2.2.2.1 + val.2.2.2.2.2.2.2.2.2.2.2.2.2.2.2.2.2.2.1), ByteArray.mk #[], ()) val.1, ()), (true, 0, ByteArray.mk #[], ())], ()), ()) else ((Qd (val.1, val.2.1, IntKind.i64.wrap (val.2.2.2.2.2.2.2.2.2.2.2.2.2.2.2.2.2.2.2.1 + 1), (val.2.2.2.2.2.2.2.2.2.2.2.2.2.1, val.2.2.2.2.2.2.2.2.2.2.2.2.2.2.1, val.2.2.2.2.2.2.2.2.2.2.2.2.2.2.2.1, val.2.2.2.2.2.2.2.2.2.2.2.2.2.2.2.2.1, ()), val.2.2.2.2.2.2.2.2.2.2.2.2.2.2.2.2.2.2.1, 0, val.2.2.2.2.2.2.2.2.2.2.2.2.2.2.2.2.2.2.2.2.2.2, ()) (IntKind.i64.wrap (val.2.2.2.2.2.2.2.2.2.2.2.2.2.2.2.2.2.2.2.1 + 1))).bind fun val => some ((val.1.1, val.1.2.1, val.1.2.2.1, val.1.2.2.2.1.1, val.1.2.2.2.1.2.1, val.1.2.2.2.1.2.2.1, val.1.2.2.2.1.2.2.2.1, val.1.2.2.2.2.1, val.1.2.2.2.2.2.1, val.1.2.2.2.2.2.2.1.1, val.2.1, val.2.2, ()), ())).bind fun val => bif !val.1.2.2.2.2.2.2.2.2.2.2.2.1 then some ((4, 0, 0, 0, 0, 0, 0, 0, 0, 0, [], [], ()), ()) else some ((0, val.1.1, val.1.2.1, val.1.2.2.1, val.1.2.2.2.1, val.1.2.2.2.2.1, val.1.2.2.2.2.2.1, val.1.2.2.2.2.2.2.1, val.1.2.2.2.2.2.2.2.1, val.1.2.2.2.2.2.2.2.2.1, val.1.2.2.2.2.2.2.2.2.2.1, val.1.2.2.2.2.2.2.2.2.2.2.1, ()), ())) (fun val => some (val, ())) val
theorem Awe (w n h : Int) (r : Rt) (x : Scd) (hx : x.1.length ≤ 1073741824) :
  Df (H6 w n h x.1 (nI x.1.length) 0 0 0 0 0 0 0 0 0 0 0 r.1 r.2.1 r.2.2.1 r.2.2.2.1 x.1 x.2.1 x.2.2.1 [] [] []) w n h x.1 (nI x.1.length) 0 0 0 0 0 0 0 0 0 0 0 r.1 r.2.1 r.2.2.1 r.2.2.2.1 x.1 x.2.1 x.2.2.1 [] [] [] = some (match O3 x.1 Ys with
   | some st => .inl (w, n, h, 0, 0, 0, 0, 0, 0, 0, 0, 0, 0, r.1, r.2.1, r.2.2.1, r.2.2.2.1, x.1, x.2.1, x.2.2.1, [], [], st.1, ())
   | none => .inr (2, 0, 0, 0, 0, 0, 0, 0, 0, 0, [], [], ())) := by
 have hL := Afk (xs := x.1) (g := fun m i q => Df m w n h x.1 (nI x.1.length) i 0 0 0 0 0 0 0 0 0 0 r.1 r.2.1 r.2.2.1 r.2.2.2.1 x.1 x.2.1 x.2.2.1 [] [] q) (ok := fun q => .inl (w, n, h, 0, 0, 0, 0, 0, 0, 0, 0, 0, 0, r.1, r.2.1, r.2.2.1, r.2.2.2.1, x.1, x.2.1, x.2.2.1, [], [], q, ())) (bad := .inr (2, 0, 0, 0, 0, 0, 0, 0, 0, 0, [], [], ())) (fun m i q hi => by
   show Df (m + 1) w n h x.1 (nI x.1.length) i 0 0 0 0 0 0 0 0 0 0 r.1 r.2.1 r.2.2.1 r.2.2.2.1 x.1 x.2.1 x.2.2.1 [] [] q = _
   simp only [Df, J3]
   rw [Mg hi, Fh, wI (show i < 4611686018427387904 by omega), Int.toNat_natCast]
   rfl) (fun m q => by
   show Df (m + 1) w n h x.1 (nI x.1.length) (x.1.length : Int) 0 0 0 0 0 0 0 0 0 0 r.1 r.2.1 r.2.2.1 r.2.2.2.1 x.1 x.2.1 x.2.2.1 [] [] q = _
   simp only [Df, J3]
   rw [Hx]
   rfl) (H6 w n h x.1 (nI x.1.length) 0 0 0 0 0 0 0 0 0 0 0 r.1 r.2.1 r.2.2.1 r.2.2.2.1 x.1 x.2.1 x.2.2.1 [] [] []) 0 [] (by omega) (by simp [H6, nI])
 rw [List.drop_zero] at hL
 exact hL
theorem Atk (a0 : Dk) (a1 : Int) : Xm a0 a1 = some (((A9 a0 a1).1, (A9 a0 a1).2.1.1, (A9 a0 a1).2.1.2.1, (A9 a0 a1).2.1.2.2.1, (A9 a0 a1).2.1.2.2.2.1.1, (A9 a0 a1).2.1.2.2.2.1.2.1, (A9 a0 a1).2.1.2.2.2.1.2.2.1, (A9 a0 a1).2.1.2.2.2.1.2.2.2.1, (A9 a0 a1).2.1.2.2.2.2.1, (A9 a0 a1).2.1.2.2.2.2.2.1, (A9 a0 a1).2.1.2.2.2.2.2.2.1.1, (A9 a0 a1).2.2.1, ()), (())) := by
 unfold Xm A9 Ac3
 show (bif !Bp a0 then _ else bif !Eo a1 1 8 then _ else _) = _
 cases hv : Bp a0 with
 | false => rfl
 | true =>
  cases hw : Eo a1 1 8 with
  | false => rfl
  | true =>
   simp only [Bool.not_true, cond_false]
   have hr := Ahr hv hw
   have hm := Akp (n := nI a0.1.length) hr.2.1
   have hh := M5 (nI a0.1.length)
   have eb : C3 (A7 a0 a1).2.1 (nI a0.1.length) = Bz (A7 a0 a1).2.1 (nI a0.1.length) := by
    show IntKind.i64.wrap (2 + IntKind.i64.wrap ((A7 a0 a1).2.1 * An (nI a0.1.length))) = 2 + (A7 a0 a1).2.1 * An (nI a0.1.length)
    rw [Ag (n := (A7 a0 a1).2.1 * An (nI a0.1.length)) (by omega) (by omega), Ag (by omega) (by omega)]
   have ex : Eu a0 (C3 (As a0 a1).2.1 (nI a0.1.length)) (Bi (nI a0.1.length)) (As a0 a1).2.2.1 (As a0 a1).2.2.2.1 a1 = Hz a0 a1 := by
    show Tp a0 (C3 (A7 a0 a1).2.1 (nI a0.1.length)) (An (nI a0.1.length)) (A7 a0 a1).2.2.1 (A7 a0 a1).2.2.2.1 a1 = _
    rw [eb]
    rfl
   simp only [ex]
   have hx : (Hz a0 a1).1.length ≤ 1073741824 := of_decide_eq_true (Cj (Cj (Amc a0 (Bz (A7 a0 a1).2.1 (nI a0.1.length)) (An (nI a0.1.length)) (A7 a0 a1).2.2.1 (A7 a0 a1).2.2.2.1 a1)).1).1
   have hs := Avm a0 (Bz (A7 a0 a1).2.1 (nI a0.1.length)) (An (nI a0.1.length)) (A7 a0 a1).2.2.1 (A7 a0 a1).2.2.2.1 a1 hh.1 hr.2.2.2
   refine Nl (Awe a1 (nI a0.1.length) (An (nI a0.1.length)) (A7 a0 a1) (Hz a0 a1) hx) ?_
   cases ho : O3 (Hz a0 a1).1 Ys with
   | none => rfl
   | some st =>
    have hst := Rh rfl ho
    replace hs : (0 ≤ (Hz a0 a1).2.1 ∧ (Hz a0 a1).2.1 ≤ An (nI a0.1.length)) ∧ (0 ≤ (Hz a0 a1).2.2.1 ∧ (Hz a0 a1).2.2.1 ≤ 60000) := hs
    clear ho hx ex
    generalize Hz a0 a1 = x at *
    generalize A7 a0 a1 = r at *
    show (bif decide (IntKind.i64.wrap (x.2.2.1 + 1) > 60000) then _ else bif decide (R5 st a1 > IntKind.i64.wrap (An (nI a0.1.length) - 1)) then _ else bif decide (x.2.1 < An (nI a0.1.length)) then _ else _) = _
    dsimp only
    rw [Ag (n := x.2.2.1 + 1) (by omega) (by omega), To]
    by_cases h1 : x.2.2.1 + 1 > 60000
    ·rw [decide_eq_true h1, Ay6 h1]; rfl
    by_cases h2 : R5 st a1 > An (nI a0.1.length) - 1
    ·rw [decide_eq_false h1, decide_eq_true h2, Ay7 h1 h2]; rfl
    by_cases h3 : x.2.1 < An (nI a0.1.length)
    ·rw [decide_eq_false h1, decide_eq_false h2, decide_eq_true h3, Ay8 h1 h2 h3]
     simp only [cond_true, cond_false]
     obtain ⟨_, hr1, hr2, hr3⟩ := hr
     have hB : 0 ≤ Bz r.2.1 (nI a0.1.length) ∧ Bz r.2.1 (nI a0.1.length) ≤ 101 := by unfold Bz; omega
     rw [eb, Ag (n := x.2.1 + 1) (by omega) (by omega), Ag (n := Bz r.2.1 (nI a0.1.length) + x.2.1) (by omega) (by omega), Ag (n := r.2.2.1 + x.2.1) (by omega) (by omega)]
     rfl
    ·rw [decide_eq_false h1, decide_eq_false h2, decide_eq_false h3, Ay9 h1 h2 h3]
     simp only [cond_true, cond_false]
     have e1 : Qd (a1, nI a0.1.length, x.2.2.1 + 1, r, x.2.1, 0, st, ()) (x.2.2.1 + 1) = some (Ac2 (a1, nI a0.1.length, x.2.2.1 + 1, r, x.2.1, 0, st, ()) (x.2.2.1 + 1)) := if_pos ⟨hr.1, hr.2.1, ⟨Int.le_trans (by decide) hr.2.2.1.1, Int.le_trans hr.2.2.1.2 (by decide)⟩, Nat.le_trans (D2 hst) (by decide)⟩
     refine (congrArg (fun q => Option.bind (Option.bind q _) _) e1).trans ?_
     unfold Ahn
     generalize Ac2 (a1, nI a0.1.length, x.2.2.1 + 1, r, x.2.1, 0, st, ()) (x.2.2.1 + 1) = q
     obtain ⟨s, ops, b⟩ := q
     cases b <;> rfl
noncomputable def Ym {R : Type} (k : Kt R) := (Be (Hw (pa_impl_Open 10) (.exit 0) 2 k) (Hw (pa_impl_Open 10) .ret 1 k))
noncomputable def Ah5 {R : Type} : Lt R pa_impl_Open := (D5 (pat := pa_impl_Open) 10 (fun d k => (Df (H6 d.1 d.2.1 d.2.2.1 d.2.2.2.1 d.2.2.2.2.1 d.2.2.2.2.2.1 d.2.2.2.2.2.2.1 d.2.2.2.2.2.2.2.1 d.2.2.2.2.2.2.2.2.1 d.2.2.2.2.2.2.2.2.2.1 d.2.2.2.2.2.2.2.2.2.2.1 d.2.2.2.2.2.2.2.2.2.2.2.1 d.2.2.2.2.2.2.2.2.2.2.2.2.1 d.2.2.2.2.2.2.2.2.2.2.2.2.2.1 d.2.2.2.2.2.2.2.2.2.2.2.2.2.2.1 d.2.2.2.2.2.2.2.2.2.2.2.2.2.2.2.1 d.2.2.2.2.2.2.2.2.2.2.2.2.2.2.2.2.1 d.2.2.2.2.2.2.2.2.2.2.2.2.2.2.2.2.2.1 d.2.2.2.2.2.2.2.2.2.2.2.2.2.2.2.2.2.2.1 d.2.2.2.2.2.2.2.2.2.2.2.2.2.2.2.2.2.2.2.1 d.2.2.2.2.2.2.2.2.2.2.2.2.2.2.2.2.2.2.2.2.1 d.2.2.2.2.2.2.2.2.2.2.2.2.2.2.2.2.2.2.2.2.2.1 d.2.2.2.2.2.2.2.2.2.2.2.2.2.2.2.2.2.2.2.2.2.2.1 d.2.2.2.2.2.2.2.2.2.2.2.2.2.2.2.2.2.2.2.2.2.2.2.1 d.2.2.2.2.2.2.2.2.2.2.2.2.2.2.2.2.2.2.2.2.2.2.2.2.1 d.2.2.2.2.2.2.2.2.2.2.2.2.2.2.2.2.2.2.2.2.2.2.2.2.2.1) d.1 d.2.1 d.2.2.1 d.2.2.2.1 d.2.2.2.2.1 d.2.2.2.2.2.1 d.2.2.2.2.2.2.1 d.2.2.2.2.2.2.2.1 d.2.2.2.2.2.2.2.2.1 d.2.2.2.2.2.2.2.2.2.1 d.2.2.2.2.2.2.2.2.2.2.1 d.2.2.2.2.2.2.2.2.2.2.2.1 d.2.2.2.2.2.2.2.2.2.2.2.2.1 d.2.2.2.2.2.2.2.2.2.2.2.2.2.1 d.2.2.2.2.2.2.2.2.2.2.2.2.2.2.1 d.2.2.2.2.2.2.2.2.2.2.2.2.2.2.2.1 d.2.2.2.2.2.2.2.2.2.2.2.2.2.2.2.2.1 d.2.2.2.2.2.2.2.2.2.2.2.2.2.2.2.2.2.1 d.2.2.2.2.2.2.2.2.2.2.2.2.2.2.2.2.2.2.1 d.2.2.2.2.2.2.2.2.2.2.2.2.2.2.2.2.2.2.2.1 d.2.2.2.2.2.2.2.2.2.2.2.2.2.2.2.2.2.2.2.2.1 d.2.2.2.2.2.2.2.2.2.2.2.2.2.2.2.2.2.2.2.2.2.1 d.2.2.2.2.2.2.2.2.2.2.2.2.2.2.2.2.2.2.2.2.2.2.1 d.2.2.2.2.2.2.2.2.2.2.2.2.2.2.2.2.2.2.2.2.2.2.2.1 d.2.2.2.2.2.2.2.2.2.2.2.2.2.2.2.2.2.2.2.2.2.2.2.2.1 d.2.2.2.2.2.2.2.2.2.2.2.2.2.2.2.2.2.2.2.2.2.2.2.2.2.1).bind (Ym k)) Ff)
theorem Aej : Au Tryz.prog ta_impl_Open := At ⟨Apk, N7, Ad2, y8, Kf, Dq, Agt, Atf, Aef, Jb, Ati, trivial⟩
theorem Ajl {R : Type} : Aw Tryz.prog R 137 0 pa_impl_Open Ah5 co_impl_Open_10 :=
 B1 (cfg := ⟨ta_impl_Open, 0, 137, pa_impl_Open⟩) 10 [] (fun NX X d => J3  NX (fun e => X (.inl (e))) (fun e => X (.inr (e))) d.1 d.2.1 d.2.2.1 d.2.2.2.1 d.2.2.2.2.1 d.2.2.2.2.2.1 d.2.2.2.2.2.2.1 d.2.2.2.2.2.2.2.1 d.2.2.2.2.2.2.2.2.1 d.2.2.2.2.2.2.2.2.2.1 d.2.2.2.2.2.2.2.2.2.2.1 d.2.2.2.2.2.2.2.2.2.2.2.1 d.2.2.2.2.2.2.2.2.2.2.2.2.1 d.2.2.2.2.2.2.2.2.2.2.2.2.2.1 d.2.2.2.2.2.2.2.2.2.2.2.2.2.2.1 d.2.2.2.2.2.2.2.2.2.2.2.2.2.2.2.1 d.2.2.2.2.2.2.2.2.2.2.2.2.2.2.2.2.1 d.2.2.2.2.2.2.2.2.2.2.2.2.2.2.2.2.2.1 d.2.2.2.2.2.2.2.2.2.2.2.2.2.2.2.2.2.2.1 d.2.2.2.2.2.2.2.2.2.2.2.2.2.2.2.2.2.2.2.1 d.2.2.2.2.2.2.2.2.2.2.2.2.2.2.2.2.2.2.2.2.1 d.2.2.2.2.2.2.2.2.2.2.2.2.2.2.2.2.2.2.2.2.2.1 d.2.2.2.2.2.2.2.2.2.2.2.2.2.2.2.2.2.2.2.2.2.2.1 d.2.2.2.2.2.2.2.2.2.2.2.2.2.2.2.2.2.2.2.2.2.2.2.1 d.2.2.2.2.2.2.2.2.2.2.2.2.2.2.2.2.2.2.2.2.2.2.2.2.1 d.2.2.2.2.2.2.2.2.2.2.2.2.2.2.2.2.2.2.2.2.2.2.2.2.2.1) (fun m d => Df m d.1 d.2.1 d.2.2.1 d.2.2.2.1 d.2.2.2.2.1 d.2.2.2.2.2.1 d.2.2.2.2.2.2.1 d.2.2.2.2.2.2.2.1 d.2.2.2.2.2.2.2.2.1 d.2.2.2.2.2.2.2.2.2.1 d.2.2.2.2.2.2.2.2.2.2.1 d.2.2.2.2.2.2.2.2.2.2.2.1 d.2.2.2.2.2.2.2.2.2.2.2.2.1 d.2.2.2.2.2.2.2.2.2.2.2.2.2.1 d.2.2.2.2.2.2.2.2.2.2.2.2.2.2.1 d.2.2.2.2.2.2.2.2.2.2.2.2.2.2.2.1 d.2.2.2.2.2.2.2.2.2.2.2.2.2.2.2.2.1 d.2.2.2.2.2.2.2.2.2.2.2.2.2.2.2.2.2.1 d.2.2.2.2.2.2.2.2.2.2.2.2.2.2.2.2.2.2.1 d.2.2.2.2.2.2.2.2.2.2.2.2.2.2.2.2.2.2.2.1 d.2.2.2.2.2.2.2.2.2.2.2.2.2.2.2.2.2.2.2.2.1 d.2.2.2.2.2.2.2.2.2.2.2.2.2.2.2.2.2.2.2.2.2.1 d.2.2.2.2.2.2.2.2.2.2.2.2.2.2.2.2.2.2.2.2.2.2.1 d.2.2.2.2.2.2.2.2.2.2.2.2.2.2.2.2.2.2.2.2.2.2.2.1 d.2.2.2.2.2.2.2.2.2.2.2.2.2.2.2.2.2.2.2.2.2.2.2.2.1 d.2.2.2.2.2.2.2.2.2.2.2.2.2.2.2.2.2.2.2.2.2.2.2.2.2.1) (fun d => H6 d.1 d.2.1 d.2.2.1 d.2.2.2.1 d.2.2.2.2.1 d.2.2.2.2.2.1 d.2.2.2.2.2.2.1 d.2.2.2.2.2.2.2.1 d.2.2.2.2.2.2.2.2.1 d.2.2.2.2.2.2.2.2.2.1 d.2.2.2.2.2.2.2.2.2.2.1 d.2.2.2.2.2.2.2.2.2.2.2.1 d.2.2.2.2.2.2.2.2.2.2.2.2.1 d.2.2.2.2.2.2.2.2.2.2.2.2.2.1 d.2.2.2.2.2.2.2.2.2.2.2.2.2.2.1 d.2.2.2.2.2.2.2.2.2.2.2.2.2.2.2.1 d.2.2.2.2.2.2.2.2.2.2.2.2.2.2.2.2.1 d.2.2.2.2.2.2.2.2.2.2.2.2.2.2.2.2.2.1 d.2.2.2.2.2.2.2.2.2.2.2.2.2.2.2.2.2.2.1 d.2.2.2.2.2.2.2.2.2.2.2.2.2.2.2.2.2.2.2.1 d.2.2.2.2.2.2.2.2.2.2.2.2.2.2.2.2.2.2.2.2.1 d.2.2.2.2.2.2.2.2.2.2.2.2.2.2.2.2.2.2.2.2.2.1 d.2.2.2.2.2.2.2.2.2.2.2.2.2.2.2.2.2.2.2.2.2.2.1 d.2.2.2.2.2.2.2.2.2.2.2.2.2.2.2.2.2.2.2.2.2.2.2.1 d.2.2.2.2.2.2.2.2.2.2.2.2.2.2.2.2.2.2.2.2.2.2.2.2.1 d.2.2.2.2.2.2.2.2.2.2.2.2.2.2.2.2.2.2.2.2.2.2.2.2.2.1) Ym Aej trivial (fun f NX d => by unfold J3; simp only [Aj, Ap, Ai, Option.bind_assoc, Option.bind_none, Option.bind_some]) (fun _ _ _ => by kernel_rfl)
theorem Atl : Bf Tryz.prog 31 sd_impl_Open :=
 Ar (pat := pa_impl_Open) [co_impl_Open_10] Ah5 Aej ⟨Ajl, trivial⟩ Tryz.func31 (de := fun x => Xm x.1 x.2.1) (fun x r h => (Atk x.1 x.2.1).trans h) fun _ => by kernel_rfl
def Kg (s : Sto) : Bool := Ji s
def Abp : Sig := ⟨[.rd Il], [some 10], [.rd .bool], [none]⟩
noncomputable def sd_impl_ValidStore : SD := ⟨Abp, fun x => some (((Kg x.1), ()), (()))⟩
noncomputable def Mx (a0 : Sto) : Option ((((Bool) × Unit) × (Unit))) :=
 bif decide (Bi a0.2.1 > 0) then bif Bh a0.1 1 8 then bif Bh a0.2.2.1 1 60000 then bif Bh a0.2.2.2.1.1 0 1000000000 then bif Fy a0.2.2.2.1 then bif Bh a0.2.2.2.1.2.2.2.1 0 60000 then bif Bh a0.2.2.2.2.1 0 (Bi a0.2.1) then bif Bh a0.2.2.2.2.2.1 0 a0.2.2.2.2.1 then bif Dw a0.2.2.2.2.2.2.1 then some ((decide (M8 a0.2.2.2.2.2.2.1 a0.1 ≤ IntKind.i64.wrap (Bi a0.2.1 - 1)), ()), ()) else some ((false, ()), ()) else some ((false, ()), ()) else some ((false, ()), ()) else some ((false, ()), ()) else some ((false, ()), ()) else some ((false, ()), ()) else some ((false, ()), ()) else some ((false, ()), ()) else some ((false, ()), ())
theorem Abq (a0 : Sto) : Mx a0 = some (((Kg a0), ()), (())) := by
 unfold Mx Kg Ji
 simp only [Bi, Bh, Fy, Dw, M8, gt_iff_lt, To, A3f]
theorem Abr : Bf Tryz.prog 88 sd_impl_ValidStore :=
 Ar (pat := Ci) [] Ff (At (l := [(91, sd_impl_Halves), (92, sd_impl_Room), (112, sd_impl_in), (156, sd_impl_ValidState), (168, sd_impl_validRoot)]) ⟨N7, Ad2, Dq, Jm, Oh, trivial⟩) trivial Tryz.func88 (de := fun x => Mx x.1) (fun x r h => (Abq x.1).trans h) fun _ => by kernel_rfl
def K3 (s : Sto) : Bool := Rg s
def Ajm : Sig := ⟨[.rd Il], [some 10], [.rd .bool], [none]⟩
noncomputable def sd_impl_noStore : SD := ⟨Ajm, fun x => some (((K3 x.1), ()), (()))⟩
noncomputable def Qv (a0 : Sto) : Option ((((Bool) × Unit) × (Unit))) :=
 bif a0.1 == 0 then bif a0.2.1 == 0 then bif a0.2.2.1 == 0 then bif a0.2.2.2.1.1 == 0 && (a0.2.2.2.1.2.1 == 0 && (a0.2.2.2.1.2.2.1 == 0 && (a0.2.2.2.1.2.2.2.1 == 0 && true))) then bif a0.2.2.2.2.1 == 0 then bif a0.2.2.2.2.2.1 == 0 then some ((nI (List.length a0.2.2.2.2.2.2.1.1) == 0, ()), ()) else some ((false, ()), ()) else some ((false, ()), ()) else some ((false, ()), ()) else some ((false, ()), ()) else some ((false, ()), ()) else some ((false, ()), ())
theorem Ajn (a0 : Sto) : Qv a0 = some (((K3 a0), ()), (())) := by
 unfold Qv K3 Rg
 simp only [A3f, Bool.and_true]
theorem Ajo : Bf Tryz.prog 155 sd_impl_noStore :=
 Ar (pat := Ci) [] Ff (At (l := []) trivial) trivial Tryz.func155 (de := fun x => Qv x.1) (fun x r h => (Ajn x.1).trans h) fun _ => by kernel_rfl
def Kh (w : Wld) : Bool := D9 w
def Abs : Sig := ⟨[.rd Un], [some 16], [.rd .bool], [none]⟩
noncomputable def sd_impl_ValidWorld : SD := ⟨Abs, fun x => some (((Kh x.1), ()), (()))⟩
noncomputable def ta_impl_ValidWorld : Tb := tb [(88, sd_impl_ValidStore), (111, sd_impl_ValidDisk), (112, sd_impl_in), (155, sd_impl_noStore), (156, sd_impl_ValidState)]
def pa_impl_ValidWorld : Nat → Pat × (Nat → Pat) := Fj [(7, ⟨[.sl 68 0 Bd, .boxSl 1 1 .str, .boxSl 1 2 Ey, .boxSl 1 13 Ak, .boxSl 1 14 Bd, .boxSl 1 15 .str], [(1, .lf (.ptr 0 0)), (68, .lf (.d (.sl Bd))), (69, .lf (.d tI)), (70, .lf (.d tI))], [.box 36 [.d tI, .d (.sl .str), .d (.sl Ey), .d .bool, .d tI, .d tI, .d tI, .d tI, .d tI, .d tI, .d tI, .d tI, .d tI, .d (.sl Ak), .d (.sl Bd), .d (.sl .str)]]⟩, [(2, ⟨[.boxSl 1 1 .str, .boxSl 1 2 Ey, .boxSl 1 13 Ak, .boxSl 1 14 Bd, .boxSl 1 15 .str], [(1, .lf (.ptr 0 0))], [.box 36 [.d tI, .d (.sl .str), .d (.sl Ey), .d .bool, .d tI, .d tI, .d tI, .d tI, .d tI, .d tI, .d tI, .d tI, .d tI, .d (.sl Ak), .d (.sl Bd), .d (.sl .str)]]⟩), (1, ⟨[], [(2, .lf (.d .bool))], []⟩)]), (13, ⟨[.sl 79 0 .str], [(79, .lf (.d (.sl .str))), (80, .lf (.d tI)), (81, .lf (.d tI))], []⟩, [(4, p0), (1, ⟨[], [(2, .lf (.d .bool))], []⟩)])]
noncomputable def co_impl_ValidWorld_7 : Code := (Ao (A4 Tryz.f67)).getD 0 .skip
noncomputable def co_impl_ValidWorld_13 : Code := (Ao (A4 Tryz.f67)).getD 1 .skip
def Bk (v79 : List ByteArray) (v80 : Int) (v81 : Int) : Nat := (v80 - v81).toNat + 1
noncomputable def Fl {R : Type}  (NX : ((List ByteArray) × (Int) × (Int) × Unit) → Option R) (X4 : (Unit) → Option R) (X1 : ((Bool) × Unit) → Option R) (v79 : List ByteArray) (v80 : Int) (v81 : Int) : Option R :=
 bif decide (v81 < v80) then bif decide (0 ≤ v81) then bif decide (v81 < nI v79.length) then bif nI (ByteArray.size (v79.getD v81.toNat (ByteArray.mk #[]))) != 64 then X1 (false, ()) else NX (v79, v80, IntKind.i64.wrap (v81 + 1), ()) else none else none else X4 PUnit.unit
noncomputable def Ay : Nat → (List ByteArray) → (Int) → (Int) →  Option ((Unit) ⊕ ((Bool) × Unit))
 | 0, _, _, _ => none
 | m + 1, v79, v80, v81 => Fl  (fun d => Ay m d.1 d.2.1 d.2.2.1) (fun d => some (.inl (d))) (fun d => some (.inr (d))) v79 v80 v81
def Cg (v68 : List Stt) (v69 : Int) (v70 : Int) (b0_0 : Int) (b0_1 : List ByteArray) (b0_2 : List Wr) (b0_3 : Bool) (b0_4 : Int) (b0_5 : Int) (b0_6 : Int) (b0_7 : Int) (b0_8 : Int) (b0_9 : Int) (b0_10 : Int) (b0_11 : Int) (b0_12 : Int) (b0_13 : List Pr2) (b0_14 : List Stt) (b0_15 : List ByteArray) : Nat := (v69 - v70).toNat + 1
noncomputable def Gg {R : Type}  (NX : ((List Stt) × (Int) × (Int) × (Int) × (List ByteArray) × (List Wr) × (Bool) × (Int) × (Int) × (Int) × (Int) × (Int) × (Int) × (Int) × (Int) × (Int) × (List Pr2) × (List Stt) × (List ByteArray) × Unit) → Option R) (X2 : ((Int) × (List ByteArray) × (List Wr) × (Bool) × (Int) × (Int) × (Int) × (Int) × (Int) × (Int) × (Int) × (Int) × (Int) × (List Pr2) × (List Stt) × (List ByteArray) × Unit) → Option R) (X1 : ((Bool) × Unit) → Option R) (v68 : List Stt) (v69 : Int) (v70 : Int) (b0_0 : Int) (b0_1 : List ByteArray) (b0_2 : List Wr) (b0_3 : Bool) (b0_4 : Int) (b0_5 : Int) (b0_6 : Int) (b0_7 : Int) (b0_8 : Int) (b0_9 : Int) (b0_10 : Int) (b0_11 : Int) (b0_12 : Int) (b0_13 : List Pr2) (b0_14 : List Stt) (b0_15 : List ByteArray) : Option R :=
 bif decide (v70 < v69) then bif decide (0 ≤ v70) then bif decide (v70 < nI v68.length) then bif !Dw (v68.getD v70.toNat ([], ())) then X1 (false, ()) else NX (v68, v69, IntKind.i64.wrap (v70 + 1), b0_0, b0_1, b0_2, b0_3, b0_4, b0_5, b0_6, b0_7, b0_8, b0_9, b0_10, b0_11, b0_12, b0_13, b0_14, b0_15, ()) else none else none else X2 (b0_0, b0_1, b0_2, b0_3, b0_4, b0_5, b0_6, b0_7, b0_8, b0_9, b0_10, b0_11, b0_12, b0_13, b0_14, b0_15, ())
noncomputable def Ba : Nat → (List Stt) → (Int) → (Int) → (Int) → (List ByteArray) → (List Wr) → (Bool) → (Int) → (Int) → (Int) → (Int) → (Int) → (Int) → (Int) → (Int) → (Int) → (List Pr2) → (List Stt) → (List ByteArray) →  Option (((Int) × (List ByteArray) × (List Wr) × (Bool) × (Int) × (Int) × (Int) × (Int) × (Int) × (Int) × (Int) × (Int) × (Int) × (List Pr2) × (List Stt) × (List ByteArray) × Unit) ⊕ ((Bool) × Unit))
 | 0, _, _, _, _, _, _, _, _, _, _, _, _, _, _, _, _, _, _, _ => none
 | m + 1, v68, v69, v70, b0_0, b0_1, b0_2, b0_3, b0_4, b0_5, b0_6, b0_7, b0_8, b0_9, b0_10, b0_11, b0_12, b0_13, b0_14, b0_15 => Gg  (fun d => Ba m d.1 d.2.1 d.2.2.1 d.2.2.2.1 d.2.2.2.2.1 d.2.2.2.2.2.1 d.2.2.2.2.2.2.1 d.2.2.2.2.2.2.2.1 d.2.2.2.2.2.2.2.2.1 d.2.2.2.2.2.2.2.2.2.1 d.2.2.2.2.2.2.2.2.2.2.1 d.2.2.2.2.2.2.2.2.2.2.2.1 d.2.2.2.2.2.2.2.2.2.2.2.2.1 d.2.2.2.2.2.2.2.2.2.2.2.2.2.1 d.2.2.2.2.2.2.2.2.2.2.2.2.2.2.1 d.2.2.2.2.2.2.2.2.2.2.2.2.2.2.2.1 d.2.2.2.2.2.2.2.2.2.2.2.2.2.2.2.2.1 d.2.2.2.2.2.2.2.2.2.2.2.2.2.2.2.2.2.1 d.2.2.2.2.2.2.2.2.2.2.2.2.2.2.2.2.2.2.1) (fun d => some (.inl (d))) (fun d => some (.inr (d))) v68 v69 v70 b0_0 b0_1 b0_2 b0_3 b0_4 b0_5 b0_6 b0_7 b0_8 b0_9 b0_10 b0_11 b0_12 b0_13 b0_14 b0_15
noncomputable def My (a0 : Wld) : Option ((((Bool) × Unit) × (Unit))) :=
 bif !Bh a0.1 1 8 then some ((false, ()), ()) else bif !Fw a0.2.1 then some ((false, ()), ()) else bif !Bh (nI (List.length a0.2.2.2.2.1)) 1 200 then some ((false, ()), ()) else bif decide (nI (List.length a0.2.2.2.2.2.1) > 2000) then some ((false, ()), ()) else bif a0.2.2.1 then bif !Kg a0.2.2.2.1 then some ((false, ()), ()) else bif a0.2.2.2.1.1 != a0.1 then some ((false, ()), ()) else bif a0.2.2.2.1.2.1 != nI (List.length a0.2.1.1) then some ((false, ()), ()) else bif !a0.2.2.1 then bif !K3 a0.2.2.2.1 then some ((false, ()), ()) else ((fun d => Ba (Cg d.1 d.2.1 d.2.2.1 d.2.2.2.1 d.2.2.2.2.1 d.2.2.2.2.2.1 d.2.2.2.2.2.2.1 d.2.2.2.2.2.2.2.1 d.2.2.2.2.2.2.2.2.1 d.2.2.2.2.2.2.2.2.2.1 d.2.2.2.2.2.2.2.2.2.2.1 d.2.2.2.2.2.2.2.2.2.2.2.1 d.2.2.2.2.2.2.2.2.2.2.2.2.1 d.2.2.2.2.2.2.2.2.2.2.2.2.2.1 d.2.2.2.2.2.2.2.2.2.2.2.2.2.2.1 d.2.2.2.2.2.2.2.2.2.2.2.2.2.2.2.1 d.2.2.2.2.2.2.2.2.2.2.2.2.2.2.2.2.1 d.2.2.2.2.2.2.2.2.2.2.2.2.2.2.2.2.2.1 d.2.2.2.2.2.2.2.2.2.2.2.2.2.2.2.2.2.2.1) d.1 d.2.1 d.2.2.1 d.2.2.2.1 d.2.2.2.2.1 d.2.2.2.2.2.1 d.2.2.2.2.2.2.1 d.2.2.2.2.2.2.2.1 d.2.2.2.2.2.2.2.2.1 d.2.2.2.2.2.2.2.2.2.1 d.2.2.2.2.2.2.2.2.2.2.1 d.2.2.2.2.2.2.2.2.2.2.2.1 d.2.2.2.2.2.2.2.2.2.2.2.2.1 d.2.2.2.2.2.2.2.2.2.2.2.2.2.1 d.2.2.2.2.2.2.2.2.2.2.2.2.2.2.1 d.2.2.2.2.2.2.2.2.2.2.2.2.2.2.2.1 d.2.2.2.2.2.2.2.2.2.2.2.2.2.2.2.2.1 d.2.2.2.2.2.2.2.2.2.2.2.2.2.2.2.2.2.1 d.2.2.2.2.2.2.2.2.2.2.2.2.2.2.2.2.2.2.1) (a0.2.2.2.2.1, nI (List.length a0.2.2.2.2.1), 0, a0.1, a0.2.1.1, a0.2.1.2.1, a0.2.2.1, a0.2.2.2.1.1, a0.2.2.2.1.2.1, a0.2.2.2.1.2.2.1, a0.2.2.2.1.2.2.2.1.1, a0.2.2.2.1.2.2.2.1.2.1, a0.2.2.2.1.2.2.2.1.2.2.1, a0.2.2.2.1.2.2.2.1.2.2.2.1, a0.2.2.2.1.2.2.2.2.1, a0.2.2.2.1.2.2.2.2.2.1, a0.2.2.2.1.2.2.2.2.2.2.1.1, a0.2.2.2.2)).bind fun val => Be (fun val => ((fun d => Ay (Bk d.1 d.2.1 d.2.2.1) d.1 d.2.1 d.2.2.1) (val.2.2.2.2.2.2.2.2.2.2.2.2.2.2.2.1, nI (List.length val.2.2.2.2.2.2.2.2.2.2.2.2.2.2.2.1), 0, ())).bind fun val => Be (fun val => some ((true, ()), ())) (fun val => some (val, ())) val) (fun val => some (val, ())) val else ((fun d => Ba (Cg d.1 d.2.1 d.2.2.1 d.2.2.2.1 d.2.2.2.2.1 d.2.2.2.2.2.1 d.2.2.2.2.2.2.1 d.2.2.2.2.2.2.2.1 d.2.2.2.2.2.2.2.2.1 d.2.2.2.2.2.2.2.2.2.1 d.2.2.2.2.2.2.2.2.2.2.1 d.2.2.2.2.2.2.2.2.2.2.2.1 d.2.2.2.2.2.2.2.2.2.2.2.2.1 d.2.2.2.2.2.2.2.2.2.2.2.2.2.1 d.2.2.2.2.2.2.2.2.2.2.2.2.2.2.1 d.2.2.2.2.2.2.2.2.2.2.2.2.2.2.2.1 d.2.2.2.2.2.2.2.2.2.2.2.2.2.2.2.2.1 d.2.2.2.2.2.2.2.2.2.2.2.2.2.2.2.2.2.1 d.2.2.2.2.2.2.2.2.2.2.2.2.2.2.2.2.2.2.1) d.1 d.2.1 d.2.2.1 d.2.2.2.1 d.2.2.2.2.1 d.2.2.2.2.2.1 d.2.2.2.2.2.2.1 d.2.2.2.2.2.2.2.1 d.2.2.2.2.2.2.2.2.1 d.2.2.2.2.2.2.2.2.2.1 d.2.2.2.2.2.2.2.2.2.2.1 d.2.2.2.2.2.2.2.2.2.2.2.1 d.2.2.2.2.2.2.2.2.2.2.2.2.1 d.2.2.2.2.2.2.2.2.2.2.2.2.2.1 d.2.2.2.2.2.2.2.2.2.2.2.2.2.2.1 d.2.2.2.2.2.2.2.2.2.2.2.2.2.2.2.1 d.2.2.2.2.2.2.2.2.2.2.2.2.2.2.2.2.1 d.2.2.2.2.2.2.2.2.2.2.2.2.2.2.2.2.2.1 d.2.2.2.2.2.2.2.2.2.2.2.2.2.2.2.2.2.2.1) (a0.2.2.2.2.1, nI (List.length a0.2.2.2.2.1), 0, a0.1, a0.2.1.1, a0.2.1.2.1, a0.2.2.1, a0.2.2.2.1.1, a0.2.2.2.1.2.1, a0.2.2.2.1.2.2.1, a0.2.2.2.1.2.2.2.1.1, a0.2.2.2.1.2.2.2.1.2.1, a0.2.2.2.1.2.2.2.1.2.2.1, a0.2.2.2.1.2.2.2.1.2.2.2.1, a0.2.2.2.1.2.2.2.2.1, a0.2.2.2.1.2.2.2.2.2.1, a0.2.2.2.1.2.2.2.2.2.2.1.1, a0.2.2.2.2)).bind fun val => Be (fun val => ((fun d => Ay (Bk d.1 d.2.1 d.2.2.1) d.1 d.2.1 d.2.2.1) (val.2.2.2.2.2.2.2.2.2.2.2.2.2.2.2.1, nI (List.length val.2.2.2.2.2.2.2.2.2.2.2.2.2.2.2.1), 0, ())).bind fun val => Be (fun val => some ((true, ()), ())) (fun val => some (val, ())) val) (fun val => some (val, ())) val else bif !a0.2.2.1 then bif !K3 a0.2.2.2.1 then some ((false, ()), ()) else ((fun d => Ba (Cg d.1 d.2.1 d.2.2.1 d.2.2.2.1 d.2.2.2.2.1 d.2.2.2.2.2.1 d.2.2.2.2.2.2.1 d.2.2.2.2.2.2.2.1 d.2.2.2.2.2.2.2.2.1 d.2.2.2.2.2.2.2.2.2.1 d.2.2.2.2.2.2.2.2.2.2.1 d.2.2.2.2.2.2.2.2.2.2.2.1 d.2.2.2.2.2.2.2.2.2.2.2.2.1 d.2.2.2.2.2.2.2.2.2.2.2.2.2.1 d.2.2.2.2.2.2.2.2.2.2.2.2.2.2.1 d.2.2.2.2.2.2.2.2.2.2.2.2.2.2.2.1 d.2.2.2.2.2.2.2.2.2.2.2.2.2.2.2.2.1 d.2.2.2.2.2.2.2.2.2.2.2.2.2.2.2.2.2.1 d.2.2.2.2.2.2.2.2.2.2.2.2.2.2.2.2.2.2.1) d.1 d.2.1 d.2.2.1 d.2.2.2.1 d.2.2.2.2.1 d.2.2.2.2.2.1 d.2.2.2.2.2.2.1 d.2.2.2.2.2.2.2.1 d.2.2.2.2.2.2.2.2.1 d.2.2.2.2.2.2.2.2.2.1 d.2.2.2.2.2.2.2.2.2.2.1 d.2.2.2.2.2.2.2.2.2.2.2.1 d.2.2.2.2.2.2.2.2.2.2.2.2.1 d.2.2.2.2.2.2.2.2.2.2.2.2.2.1 d.2.2.2.2.2.2.2.2.2.2.2.2.2.2.1 d.2.2.2.2.2.2.2.2.2.2.2.2.2.2.2.1 d.2.2.2.2.2.2.2.2.2.2.2.2.2.2.2.2.1 d.2.2.2.2.2.2.2.2.2.2.2.2.2.2.2.2.2.1 d.2.2.2.2.2.2.2.2.2.2.2.2.2.2.2.2.2.2.1) (a0.2.2.2.2.1, nI (List.length a0.2.2.2.2.1), 0, a0.1, a0.2.1.1, a0.2.1.2.1, a0.2.2.1, a0.2.2.2.1.1, a0.2.2.2.1.2.1, a0.2.2.2.1.2.2.1, a0.2.2.2.1.2.2.2.1.1, a0.2.2.2.1.2.2.2.1.2.1, a0.2.2.2.1.2.2.2.1.2.2.1, a0.2.2.2.1.2.2.2.1.2.2.2.1, a0.2.2.2.1.2.2.2.2.1, a0.2.2.2.1.2.2.2.2.2.1, a0.2.2.2.1.2.2.2.2.2.2.1.1, a0.2.2.2.2)).bind fun val => Be (fun val => ((fun d => Ay (Bk d.1 d.2.1 d.2.2.1) d.1 d.2.1 d.2.2.1) (val.2.2.2.2.2.2.2.2.2.2.2.2.2.2.2.1, nI (List.length val.2.2.2.2.2.2.2.2.2.2.2.2.2.2.2.1), 0, ())).bind fun val => Be (fun val => some ((true, ()), ())) (fun val => some (val, ())) val) (fun val => some (val, ())) val else ((fun d => Ba (Cg d.1 d.2.1 d.2.2.1 d.2.2.2.1 d.2.2.2.2.1 d.2.2.2.2.2.1 d.2.2.2.2.2.2.1 d.2.2.2.2.2.2.2.1 d.2.2.2.2.2.2.2.2.1 d.2.2.2.2.2.2.2.2.2.1 d.2.2.2.2.2.2.2.2.2.2.1 d.2.2.2.2.2.2.2.2.2.2.2.1 d.2.2.2.2.2.2.2.2.2.2.2.2.1 d.2.2.2.2.2.2.2.2.2.2.2.2.2.1 d.2.2.2.2.2.2.2.2.2.2.2.2.2.2.1 d.2.2.2.2.2.2.2.2.2.2.2.2.2.2.2.1 d.2.2.2.2.2.2.2.2.2.2.2.2.2.2.2.2.1 d.2.2.2.2.2.2.2.2.2.2.2.2.2.2.2.2.2.1 d.2.2.2.2.2.2.2.2.2.2.2.2.2.2.2.2.2.2.1) d.1 d.2.1 d.2.2.1 d.2.2.2.1 d.2.2.2.2.1 d.2.2.2.2.2.1 d.2.2.2.2.2.2.1 d.2.2.2.2.2.2.2.1 d.2.2.2.2.2.2.2.2.1 d.2.2.2.2.2.2.2.2.2.1 d.2.2.2.2.2.2.2.2.2.2.1 d.2.2.2.2.2.2.2.2.2.2.2.1 d.2.2.2.2.2.2.2.2.2.2.2.2.1 d.2.2.2.2.2.2.2.2.2.2.2.2.2.1 d.2.2.2.2.2.2.2.2.2.2.2.2.2.2.1 d.2.2.2.2.2.2.2.2.2.2.2.2.2.2.2.1 d.2.2.2.2.2.2.2.2.2.2.2.2.2.2.2.2.1 d.2.2.2.2.2.2.2.2.2.2.2.2.2.2.2.2.2.1 d.2.2.2.2.2.2.2.2.2.2.2.2.2.2.2.2.2.2.1) (a0.2.2.2.2.1, nI (List.length a0.2.2.2.2.1), 0, a0.1, a0.2.1.1, a0.2.1.2.1, a0.2.2.1, a0.2.2.2.1.1, a0.2.2.2.1.2.1, a0.2.2.2.1.2.2.1, a0.2.2.2.1.2.2.2.1.1, a0.2.2.2.1.2.2.2.1.2.1, a0.2.2.2.1.2.2.2.1.2.2.1, a0.2.2.2.1.2.2.2.1.2.2.2.1, a0.2.2.2.1.2.2.2.2.1, a0.2.2.2.1.2.2.2.2.2.1, a0.2.2.2.1.2.2.2.2.2.2.1.1, a0.2.2.2.2)).bind fun val => Be (fun val => ((fun d => Ay (Bk d.1 d.2.1 d.2.2.1) d.1 d.2.1 d.2.2.1) (val.2.2.2.2.2.2.2.2.2.2.2.2.2.2.2.1, nI (List.length val.2.2.2.2.2.2.2.2.2.2.2.2.2.2.2.1), 0, ())).bind fun val => Be (fun val => some ((true, ()), ())) (fun val => some (val, ())) val) (fun val => some (val, ())) val
theorem Axv (xs : List Stt) (h : xs.length ≤ 200) (b0 : Int) (b1 : List ByteArray) (b2 : List Wr) (b3 : Bool) (b4 b5 b6 b7 b8 b9 b10 b11 b12 : Int) (b13 : List Pr2) (b14 : List Stt) (b15 : List ByteArray) :
  Ba (Cg xs (nI xs.length) 0 b0 b1 b2 b3 b4 b5 b6 b7 b8 b9 b10 b11 b12 b13 b14 b15) xs (nI xs.length) 0 b0 b1 b2 b3 b4 b5 b6 b7 b8 b9 b10 b11 b12 b13 b14 b15 =
  some (bif (List.range' 0 xs.length).all (fun i => Aq (xs.getD i Ys)) then .inl (b0, b1, b2, b3, b4, b5, b6, b7, b8, b9, b10, b11, b12, b13, b14, b15, ()) else .inr (false, ())) := by
 have hL := Ix (n := xs.length) (fun i => Aq (xs.getD i Ys)) (g := fun m i => Ba m xs (nI xs.length) i b0 b1 b2 b3 b4 b5 b6 b7 b8 b9 b10 b11 b12 b13 b14 b15) (ok := .inl (b0, b1, b2, b3, b4, b5, b6, b7, b8, b9, b10, b11, b12, b13, b14, b15, ())) (bad := .inr (false, ())) (fun m i hi => by
  show Ba (m + 1) xs (nI xs.length) i b0 b1 b2 b3 b4 b5 b6 b7 b8 b9 b10 b11 b12 b13 b14 b15 = _
  simp only [Ba, Gg]
  rw [Mg hi, Fh, wI (show i < 4611686018427387904 by omega), Int.toNat_natCast]
  show (bif !Aq (xs.getD i Ys) then _ else _) = _
  cases Aq (xs.getD i Ys) <;> rfl) (fun m => by
  show Ba (m + 1) xs (nI xs.length) (xs.length : Int) b0 b1 b2 b3 b4 b5 b6 b7 b8 b9 b10 b11 b12 b13 b14 b15 = _
  simp only [Ba, Gg]
  rw [Hx]
  rfl) (Cg xs (nI xs.length) 0 b0 b1 b2 b3 b4 b5 b6 b7 b8 b9 b10 b11 b12 b13 b14 b15) 0 (by omega) (by simp [Cg, nI])
 exact hL
theorem Aod (xs : List ByteArray) (h : xs.length ≤ 2000) : Ay (Bk xs (nI xs.length) 0) xs (nI xs.length) 0 =
  some (bif (List.range' 0 xs.length).all (fun i => decide ((xs.getD i z0).size = 64)) then .inl () else .inr (false, ())) := by
 have hL := Ix (n := xs.length) (fun i => decide ((xs.getD i z0).size = 64)) (g := fun m i => Ay m xs (nI xs.length) i) (ok := .inl ()) (bad := .inr (false, ())) (fun m i hi => by
  show Ay (m + 1) xs (nI xs.length) i = _
  simp only [Ay, Fl]
  have e : (nI (ByteArray.size (List.getD xs i (ByteArray.mk #[]))) != 64) = !decide ((xs.getD i z0).size = 64) := Az3 (xs.getD i z0).size 64
  rw [Mg hi, Fh, wI (show i < 4611686018427387904 by omega), Int.toNat_natCast, e]
  cases decide ((xs.getD i z0).size = 64) <;> rfl) (fun m => by
  show Ay (m + 1) xs (nI xs.length) (xs.length : Int) = _
  simp only [Ay, Fl]
  rw [Hx]
  rfl) (Bk xs (nI xs.length) 0) 0 (by omega) (by simp [Bk, nI])
 exact hL
theorem Abt (a0 : Wld) : My a0 = some (((Kh a0), ()), (())) := by
 unfold My Kh D9
 show (bif !Eo a0.1 1 8 then _ else bif !Bp a0.2.1 then _ else bif !Eo (nI a0.2.2.2.2.1.length) 1 200 then _ else _) = _
 cases Eo a0.1 1 8 with
 | false => rfl
 | true =>
  cases Bp a0.2.1 with
  | false => rfl
  | true =>
   cases hp : Eo (nI a0.2.2.2.2.1.length) 1 200 with
   | false => rfl
   | true =>
    have hpl : a0.2.2.2.2.1.length ≤ 200 := by have := (G4 hp).2; simp only [nI] at this; omega
    have e1 : decide (nI a0.2.2.2.2.2.1.length > 2000) = !decide (a0.2.2.2.2.2.1.length ≤ 2000) := Zj _ 2000
    rw [e1]
    cases hw : decide (a0.2.2.2.2.2.1.length ≤ 2000) with
    | false => rfl
    | true =>
     have hwl := of_decide_eq_true hw
     simp only [Bool.not_true, Bool.true_and, cond_false]
     have key : ∀ b : Bool, (bif b then (bif R6 a0 then (bif Iz a0 then some ((true, ()), ()) else some ((false, ()), ())) else some ((false, ()), ())) else some ((false, ()), ())) = (some ((b && (R6 a0 && Iz a0), ()), ()) : Option ((Bool × Unit) × Unit)) := fun b => by
      cases b <;> cases R6 a0 <;> cases Iz a0 <;> rfl
     rw [← key]
     simp only [Axv _ hpl, Option.bind_some]
     show _ = (bif Vf a0 then (bif R6 a0 then (bif Iz a0 then _ else _) else _) else _)
     unfold Vf
     have hP : R6 a0 = (List.range' 0 a0.2.2.2.2.1.length).all (fun i => Aq (a0.2.2.2.2.1.getD i Ys)) := rfl
     have hW : Iz a0 = (List.range' 0 a0.2.2.2.2.2.1.length).all (fun i => decide ((a0.2.2.2.2.2.1.getD i z0).size = 64)) := rfl
     rw [hP, hW]
     cases hu : a0.2.2.1 with
     | true =>
      simp only [cond_true, Bool.not_true, cond_false]
      show (bif !Ji a0.2.2.2.1 then _ else _) = _
      have w1 : (a0.2.2.2.1.1 != a0.1) = !(a0.2.2.2.1.1 == a0.1) := rfl
      have w2 : (a0.2.2.2.1.2.1 != nI a0.2.1.1.length) = !(a0.2.2.2.1.2.1 == nI a0.2.1.1.length) := rfl
      rw [w1, w2]
      cases Ji a0.2.2.2.1 with
      | false => rfl
      | true =>
       cases (a0.2.2.2.1.1 == a0.1) with
       | false => rfl
       | true =>
        cases (a0.2.2.2.1.2.1 == nI a0.2.1.1.length) with
        | false => rfl
        | true =>
         cases (List.range' 0 a0.2.2.2.2.1.length).all (fun i => Aq (a0.2.2.2.2.1.getD i Ys)) with
         | false => rfl
         | true =>
          show (Ay (Bk a0.2.2.2.2.2.1 (nI a0.2.2.2.2.2.1.length) 0) a0.2.2.2.2.2.1 (nI a0.2.2.2.2.2.1.length) 0).bind _ = _
          rw [Aod _ hwl]
          cases (List.range' 0 a0.2.2.2.2.2.1.length).all (fun i => decide ((a0.2.2.2.2.2.1.getD i z0).size = 64)) <;> rfl
     | false =>
      simp only [cond_true, Bool.not_false, cond_false]
      show (bif !Rg a0.2.2.2.1 then _ else _) = _
      cases Rg a0.2.2.2.1 with
      | false => rfl
      | true =>
       cases (List.range' 0 a0.2.2.2.2.1.length).all (fun i => Aq (a0.2.2.2.2.1.getD i Ys)) with
       | false => rfl
       | true =>
        show (Ay (Bk a0.2.2.2.2.2.1 (nI a0.2.2.2.2.2.1.length) 0) a0.2.2.2.2.2.1 (nI a0.2.2.2.2.2.1.length) 0).bind _ = _
        rw [Aod _ hwl]
        cases (List.range' 0 a0.2.2.2.2.2.1.length).all (fun i => decide ((a0.2.2.2.2.2.1.getD i z0).size = 64)) <;> rfl
noncomputable def Qe {R : Type} (k : Kt R) := (Be (Hw (pa_impl_ValidWorld 7) (.exit 0) 2 k) (Hw (pa_impl_ValidWorld 7) .ret 1 k))
noncomputable def Oy {R : Type} (k : Kt R) := (Be (Hw (pa_impl_ValidWorld 13) (.exit 2) 4 k) (Hw (pa_impl_ValidWorld 13) .ret 1 k))
noncomputable def Ok {R : Type} : Lt R pa_impl_ValidWorld := (D5 (pat := pa_impl_ValidWorld) 7 (fun d k => (Ba (Cg d.1 d.2.1 d.2.2.1 d.2.2.2.1 d.2.2.2.2.1 d.2.2.2.2.2.1 d.2.2.2.2.2.2.1 d.2.2.2.2.2.2.2.1 d.2.2.2.2.2.2.2.2.1 d.2.2.2.2.2.2.2.2.2.1 d.2.2.2.2.2.2.2.2.2.2.1 d.2.2.2.2.2.2.2.2.2.2.2.1 d.2.2.2.2.2.2.2.2.2.2.2.2.1 d.2.2.2.2.2.2.2.2.2.2.2.2.2.1 d.2.2.2.2.2.2.2.2.2.2.2.2.2.2.1 d.2.2.2.2.2.2.2.2.2.2.2.2.2.2.2.1 d.2.2.2.2.2.2.2.2.2.2.2.2.2.2.2.2.1 d.2.2.2.2.2.2.2.2.2.2.2.2.2.2.2.2.2.1 d.2.2.2.2.2.2.2.2.2.2.2.2.2.2.2.2.2.2.1) d.1 d.2.1 d.2.2.1 d.2.2.2.1 d.2.2.2.2.1 d.2.2.2.2.2.1 d.2.2.2.2.2.2.1 d.2.2.2.2.2.2.2.1 d.2.2.2.2.2.2.2.2.1 d.2.2.2.2.2.2.2.2.2.1 d.2.2.2.2.2.2.2.2.2.2.1 d.2.2.2.2.2.2.2.2.2.2.2.1 d.2.2.2.2.2.2.2.2.2.2.2.2.1 d.2.2.2.2.2.2.2.2.2.2.2.2.2.1 d.2.2.2.2.2.2.2.2.2.2.2.2.2.2.1 d.2.2.2.2.2.2.2.2.2.2.2.2.2.2.2.1 d.2.2.2.2.2.2.2.2.2.2.2.2.2.2.2.2.1 d.2.2.2.2.2.2.2.2.2.2.2.2.2.2.2.2.2.1 d.2.2.2.2.2.2.2.2.2.2.2.2.2.2.2.2.2.2.1).bind (Qe k)) (D5 (pat := pa_impl_ValidWorld) 13 (fun d k => (Ay (Bk d.1 d.2.1 d.2.2.1) d.1 d.2.1 d.2.2.1).bind (Oy k)) Ff))
theorem Mz : Au Tryz.prog ta_impl_ValidWorld := At ⟨Abr, Kf, Dq, Ajo, Jm, trivial⟩
theorem Yu {R : Type} : Aw Tryz.prog R 89 0 pa_impl_ValidWorld Ok co_impl_ValidWorld_13 :=
 B1 (cfg := ⟨ta_impl_ValidWorld, 0, 89, pa_impl_ValidWorld⟩) 13 [] (fun NX X d => Fl  NX (fun e => X (.inl (e))) (fun e => X (.inr (e))) d.1 d.2.1 d.2.2.1) (fun m d => Ay m d.1 d.2.1 d.2.2.1) (fun d => Bk d.1 d.2.1 d.2.2.1) Oy Mz trivial (fun f NX d => by unfold Fl; simp only [Aj, Ap, Ai, Option.bind_assoc, Option.bind_none, Option.bind_some]) (fun _ _ _ => by kernel_rfl)
theorem g8 {R : Type} : Aw Tryz.prog R 89 0 pa_impl_ValidWorld Ok co_impl_ValidWorld_7 :=
 B1 (cfg := ⟨ta_impl_ValidWorld, 0, 89, pa_impl_ValidWorld⟩) 7 [] (fun NX X (d : (List Stt) × (Int) × (Int) × (Int) × (List ByteArray) × (List Wr) × (Bool) × (Int) × (Int) × (Int) × (Int) × (Int) × (Int) × (Int) × (Int) × (Int) × (List Pr2) × (List Stt) × (List ByteArray) × Unit) => Gg  NX (fun e => X (.inl (e))) (fun e => X (.inr (e))) d.1 d.2.1 d.2.2.1 d.2.2.2.1 d.2.2.2.2.1 d.2.2.2.2.2.1 d.2.2.2.2.2.2.1 d.2.2.2.2.2.2.2.1 d.2.2.2.2.2.2.2.2.1 d.2.2.2.2.2.2.2.2.2.1 d.2.2.2.2.2.2.2.2.2.2.1 d.2.2.2.2.2.2.2.2.2.2.2.1 d.2.2.2.2.2.2.2.2.2.2.2.2.1 d.2.2.2.2.2.2.2.2.2.2.2.2.2.1 d.2.2.2.2.2.2.2.2.2.2.2.2.2.2.1 d.2.2.2.2.2.2.2.2.2.2.2.2.2.2.2.1 d.2.2.2.2.2.2.2.2.2.2.2.2.2.2.2.2.1 d.2.2.2.2.2.2.2.2.2.2.2.2.2.2.2.2.2.1 d.2.2.2.2.2.2.2.2.2.2.2.2.2.2.2.2.2.2.1) (fun m d => Ba m d.1 d.2.1 d.2.2.1 d.2.2.2.1 d.2.2.2.2.1 d.2.2.2.2.2.1 d.2.2.2.2.2.2.1 d.2.2.2.2.2.2.2.1 d.2.2.2.2.2.2.2.2.1 d.2.2.2.2.2.2.2.2.2.1 d.2.2.2.2.2.2.2.2.2.2.1 d.2.2.2.2.2.2.2.2.2.2.2.1 d.2.2.2.2.2.2.2.2.2.2.2.2.1 d.2.2.2.2.2.2.2.2.2.2.2.2.2.1 d.2.2.2.2.2.2.2.2.2.2.2.2.2.2.1 d.2.2.2.2.2.2.2.2.2.2.2.2.2.2.2.1 d.2.2.2.2.2.2.2.2.2.2.2.2.2.2.2.2.1 d.2.2.2.2.2.2.2.2.2.2.2.2.2.2.2.2.2.1 d.2.2.2.2.2.2.2.2.2.2.2.2.2.2.2.2.2.2.1) (fun d => Cg d.1 d.2.1 d.2.2.1 d.2.2.2.1 d.2.2.2.2.1 d.2.2.2.2.2.1 d.2.2.2.2.2.2.1 d.2.2.2.2.2.2.2.1 d.2.2.2.2.2.2.2.2.1 d.2.2.2.2.2.2.2.2.2.1 d.2.2.2.2.2.2.2.2.2.2.1 d.2.2.2.2.2.2.2.2.2.2.2.1 d.2.2.2.2.2.2.2.2.2.2.2.2.1 d.2.2.2.2.2.2.2.2.2.2.2.2.2.1 d.2.2.2.2.2.2.2.2.2.2.2.2.2.2.1 d.2.2.2.2.2.2.2.2.2.2.2.2.2.2.2.1 d.2.2.2.2.2.2.2.2.2.2.2.2.2.2.2.2.1 d.2.2.2.2.2.2.2.2.2.2.2.2.2.2.2.2.2.1 d.2.2.2.2.2.2.2.2.2.2.2.2.2.2.2.2.2.2.1) Qe Mz trivial (fun f NX (d : (List Stt) × (Int) × (Int) × (Int) × (List ByteArray) × (List Wr) × (Bool) × (Int) × (Int) × (Int) × (Int) × (Int) × (Int) × (Int) × (Int) × (Int) × (List Pr2) × (List Stt) × (List ByteArray) × Unit) => by unfold Gg; simp only [Aj, Ap, Ai, Option.bind_assoc, Option.bind_none, Option.bind_some]) (fun _ _ _ => by kernel_rfl)
theorem Abu : Bf Tryz.prog 67 sd_impl_ValidWorld :=
 Ar (pat := pa_impl_ValidWorld) [co_impl_ValidWorld_7, co_impl_ValidWorld_13] Ok Mz ⟨g8, Yu, trivial⟩ Tryz.func67 (de := fun x => My x.1) (fun x r h => (Abt x.1).trans h) fun _ => by kernel_rfl
def Js (w : Wld) : Stt × Int := Ew w
def Apt : Sig := ⟨[.rd Un], [some 16], [.own 167 Ak, .rd tI], [some 1, none]⟩
noncomputable def sd_impl_Found : SD := ⟨Apt, fun x => some (((Js x.1).1.1, (Js x.1).2, ()), (()))⟩
noncomputable def Uy (a0 : Wld) : Option ((((List Pr2) × (Int) × Unit) × (Unit))) :=
 bif !Kh a0 then some (([], 1, ()), ()) else bif decide ((0 + List.length a0.2.1.1) * 16 ≤ 140737488355328) then some (((A9 ([] ++ a0.2.1.1, [], ()) a0.1).2.1.2.2.2.2.2.2.1.1, (A9 ([] ++ a0.2.1.1, [], ()) a0.1).1, ()), ()) else none
theorem Apu (a0 : Wld) : Uy a0 = some (((Js a0).1.1, (Js a0).2, ()), (())) := by
 unfold Uy Js Ew
 show (bif !D9 a0 then _ else _) = _
 cases hv : D9 a0 with
 | false => rfl
 | true =>
  simp only [Bool.not_true, cond_false]
  have hd := (l6 (Asn hv).1).n200
  rw [decide_eq_true (show (0 + List.length a0.2.1.1) * 16 ≤ 140737488355328 by omega)]
  rfl
theorem Apv : Bf Tryz.prog 40 sd_impl_Found :=
 Ar (pat := Ci) [] Ff (At (l := [(31, sd_impl_Open), (67, sd_impl_ValidWorld)]) ⟨Atl, Abu, trivial⟩) trivial Tryz.func40 (de := fun x => Uy x.1) (fun x r h => (Apu x.1).trans h) fun _ => by kernel_rfl
def Je (a b : Stt) : Option Bool := if a.1.length ≤ 1000000 then some (P5 a b) else none
def Aek : Sig := ⟨[.rd Bd, .rd Bd], [some 1, some 1], [.rd .bool], [none]⟩
noncomputable def sd_impl_sameState : SD := ⟨Aek, fun x => (Je x.1 x.2.1).bind fun r => some ((r, ()), (()))⟩
noncomputable def ta_impl_sameState : Tb := tb []
def pa_impl_sameState : Nat → Pat × (Nat → Pat) := Fj [(5, ⟨[.boxSl 2 0 Ak, .boxSl 3 0 Ak], [(2, .lf (.ptr 0 0)), (3, .lf (.ptr 1 0)), (15, .lf (.d tI)), (16, .lf (.d tI))], [.box 31 [.d (.sl Ak)], .box 31 [.d (.sl Ak)]]⟩, [(2, p0), (1, ⟨[], [(4, .lf (.d .bool))], []⟩)])]
noncomputable def co_impl_sameState_5 : Code := (Ao (A4 Tryz.f125)).getD 0 .skip
def G0 (v15 : Int) (v16 : Int) (b0_0 : List Pr2) (b1_0 : List Pr2) : Nat := (v15 - v16).toNat + 1
noncomputable def G1 {R : Type}  (NX : ((Int) × (Int) × (List Pr2) × (List Pr2) × Unit) → Option R) (X2 : (Unit) → Option R) (X1 : ((Bool) × Unit) → Option R) (v15 : Int) (v16 : Int) (b0_0 : List Pr2) (b1_0 : List Pr2) : Option R :=
 bif decide (v16 < v15) then bif decide (0 ≤ v16) then bif decide (v16 < nI b0_0.length) then bif decide (0 ≤ v16) then bif decide (v16 < nI b1_0.length) then bif !(ByteArray.toList (b0_0.getD v16.toNat (ByteArray.mk #[], ByteArray.mk #[], ())).1 == ByteArray.toList (b1_0.getD v16.toNat (ByteArray.mk #[], ByteArray.mk #[], ())).1 && (ByteArray.toList (b0_0.getD v16.toNat (ByteArray.mk #[], ByteArray.mk #[], ())).2.1 == ByteArray.toList (b1_0.getD v16.toNat (ByteArray.mk #[], ByteArray.mk #[], ())).2.1 && true)) then X1 (false, ()) else NX (v15, IntKind.i64.wrap (v16 + 1), b0_0, b1_0, ()) else none else none else none else none else X2 PUnit.unit
noncomputable def Cm : Nat → (Int) → (Int) → (List Pr2) → (List Pr2) →  Option ((Unit) ⊕ ((Bool) × Unit))
 | 0, _, _, _, _ => none
 | m + 1, v15, v16, b0_0, b1_0 => G1  (fun d => Cm m d.1 d.2.1 d.2.2.1 d.2.2.2.1) (fun d => some (.inl (d))) (fun d => some (.inr (d))) v15 v16 b0_0 b1_0
noncomputable def Ol (a0 : Stt) (a1 : Stt) : Option ((((Bool) × Unit) × (Unit))) :=
 bif nI (List.length a0.1) != nI (List.length a1.1) then some ((false, ()), ()) else ((fun d => Cm (G0 d.1 d.2.1 d.2.2.1 d.2.2.2.1) d.1 d.2.1 d.2.2.1 d.2.2.2.1) (nI (List.length a0.1), 0, a0.1, a1)).bind fun val => Be (fun val => some ((true, ()), ())) (fun val => some (val, ())) val
theorem Ael (a0 : Stt) (a1 : Stt) r (h : Je a0 a1 = some r) : Ol a0 a1 = some ((r, ()), (())) := by
 unfold Je at h
 split at h
 rotate_left
 ·cases h
 rename_i hlen
 cases h
 unfold Ol
 by_cases hl : a1.1.length = a0.1.length
 ·have c1 : (nI a0.1.length != nI a1.1.length) = false := by simp [nI, hl]
  rw [c1]
  have hL := W7 (xs := a0.1) (ys := a1.1) zP (fun x y : Pr2 => Mc Ak x y) (g := fun m i => Cm m (nI a0.1.length) i a0.1 a1.1) (ok := .inl ()) (bad := .inr (false, ())) hl (fun m i hi => by
   show Cm (m + 1) (nI a0.1.length) i a0.1 a1.1 = _
   simp only [Cm, G1]
   rw [Mg hi, Fh, Mg (show i < a1.1.length by omega), wI (by omega)]
   simp only [cond_true, Int.toNat_natCast]
   show (bif !(Mc Ak (a0.1.getD i zP) (a1.1.getD i zP)) then _ else _) = bif Mc Ak (a0.1.getD i zP) (a1.1.getD i zP) then _ else _
   cases Mc Ak (a0.1.getD i zP) (a1.1.getD i zP) <;> rfl) (fun m => by
   show Cm (m + 1) (nI a0.1.length) (a0.1.length : Int) a0.1 a1.1 = _
   simp only [Cm, G1]
   rw [Hx]
   rfl) (G0 (nI a0.1.length) 0 a0.1 a1.1) 0 (by omega) (by simp [G0, nI])
  refine Nl hL ?_
  rw [List.drop_zero, List.drop_zero]
  show Be _ _ (bif P5 a0 a1 then _ else _) = _
  cases P5 a0 a1 <;> rfl
 ·have c1 : (nI a0.1.length != nI a1.1.length) = true := by simp [nI]; omega
  rw [c1, show P5 a0 a1 = false from W6 fun q => hl q.symm]
  rfl
noncomputable def Q9 {R : Type} (k : Kt R) := (Be (Hw (pa_impl_sameState 5) (.exit 0) 2 k) (Hw (pa_impl_sameState 5) .ret 1 k))
noncomputable def Wd {R : Type} : Lt R pa_impl_sameState := (D5 (pat := pa_impl_sameState) 5 (fun d k => (Cm (G0 d.1 d.2.1 d.2.2.1 d.2.2.2.1) d.1 d.2.1 d.2.2.1 d.2.2.2.1).bind (Q9 k)) Ff)
theorem Ue : Au Tryz.prog ta_impl_sameState := At trivial
theorem p8 {R : Type} : Aw Tryz.prog R 31 0 pa_impl_sameState Wd co_impl_sameState_5 :=
 B1 (cfg := ⟨ta_impl_sameState, 0, 31, pa_impl_sameState⟩) 5 [] (fun NX X d => G1  NX (fun e => X (.inl (e))) (fun e => X (.inr (e))) d.1 d.2.1 d.2.2.1 d.2.2.2.1) (fun m d => Cm m d.1 d.2.1 d.2.2.1 d.2.2.2.1) (fun d => G0 d.1 d.2.1 d.2.2.1 d.2.2.2.1) Q9 Ue trivial (fun f NX d => by unfold G1; simp only [Aj, Ap, Ai, Option.bind_assoc, Option.bind_none, Option.bind_some]) (fun _ _ _ => by kernel_rfl)
theorem Aem : Bf Tryz.prog 125 sd_impl_sameState :=
 Ar (pat := pa_impl_sameState) [co_impl_sameState_5] Wd Ue ⟨p8, trivial⟩ Tryz.func125 (de := fun x => Ol x.1 x.2.1) (fun x r h => A3 (Ael x.1 x.2.1) h) fun _ => by kernel_rfl
def Om (w : Wld) : Bool := Asq w
def Apw : Sig := ⟨[.rd Un], [some 16], [.rd .bool], [none]⟩
noncomputable def sd_impl_Right : SD := ⟨Apw, fun x => some (((Om x.1), ()), (()))⟩
noncomputable def ta_impl_Right : Tb := tb [(40, sd_impl_Found), (125, sd_impl_sameState)]
def pa_impl_Right : Nat → Pat × (Nat → Pat) := Fj [(6, ⟨[.sl 15 0 Bd, .boxSl 3 0 Ak], [(3, .lf (.ptr 0 0)), (15, .lf (.d (.sl Bd))), (16, .lf (.d tI)), (17, .lf (.d tI))], [.box 31 [.d (.sl Ak)]]⟩, [(2, p0), (1, ⟨[], [(2, .lf (.d .bool))], []⟩)])]
noncomputable def co_impl_Right_6 : Code := (Ao (A4 Tryz.f37)).getD 0 .skip
def J4 (v15 : List Stt) (v16 : Int) (v17 : Int) (b0_0 : List Pr2) : Nat := (v16 - v17).toNat + 1
noncomputable def J5 {R : Type}  (NX : ((List Stt) × (Int) × (Int) × (List Pr2) × Unit) → Option R) (X2 : (Unit) → Option R) (X1 : ((Bool) × Unit) → Option R) (v15 : List Stt) (v16 : Int) (v17 : Int) (b0_0 : List Pr2) : Option R :=
 bif decide (v17 < v16) then bif decide (0 ≤ v17) then bif decide (v17 < nI v15.length) then ((Je (v15.getD v17.toNat ([], ())) (b0_0, ())).bind fun val => some ((val, ()), ())).bind fun val => bif val.1.1 then X1 (true, ()) else NX (v15, v16, IntKind.i64.wrap (v17 + 1), b0_0, ()) else none else none else X2 PUnit.unit
noncomputable def D7 : Nat → (List Stt) → (Int) → (Int) → (List Pr2) →  Option ((Unit) ⊕ ((Bool) × Unit))
 | 0, _, _, _, _ => none
 | m + 1, v15, v16, v17, b0_0 => J5  (fun d => D7 m d.1 d.2.1 d.2.2.1 d.2.2.2.1) (fun d => some (.inl (d))) (fun d => some (.inr (d))) v15 v16 v17 b0_0
noncomputable def Uz (a0 : Wld) : Option ((((Bool) × Unit) × (Unit))) :=
 bif (Js a0).2 != 0 then some ((false, ()), ()) else ((fun d => D7 (J4 d.1 d.2.1 d.2.2.1 d.2.2.2.1) d.1 d.2.1 d.2.2.1 d.2.2.2.1) (a0.2.2.2.2.1, nI (List.length a0.2.2.2.2.1), 0, (Js a0).1)).bind fun val => Be (fun val => some ((false, ()), ())) (fun val => some (val, ())) val
theorem Apx (a0 : Wld) : Uz a0 = some (((Om a0), ()), (())) := by
 unfold Uz Om Asq
 show (bif (Ew a0).2 != 0 then _ else _) = _
 cases hc : (Ew a0).2 != 0 with
 | true => rfl
 | false =>
  simp only [cond_false]
  have hv := Ahs hc
  have hP := (Asn hv).2.2
  have hL := Amn (xs := a0.2.2.2.2.1) Ys (fun p => P5 p (Ew a0).1) (g := fun m i => D7 m a0.2.2.2.2.1 (nI a0.2.2.2.2.1.length) i (Ew a0).1.1) (ok := .inl ()) (bad := .inr (true, ())) (fun m i hi => by
   show D7 (m + 1) a0.2.2.2.2.1 (nI a0.2.2.2.2.1.length) i (Ew a0).1.1 = _
   simp only [D7, J5]
   have e1 : Je (a0.2.2.2.2.1.getD i Ys) ((Ew a0).1.1, ()) = some (P5 (a0.2.2.2.2.1.getD i Ys) (Ew a0).1) := if_pos (Nat.le_trans (D2 (Amm hv hi)) (by decide))
   rw [Mg hi, Fh, wI (by omega)]
   simp only [cond_true, Int.toNat_natCast]
   refine (congrArg (fun q => Option.bind (Option.bind q _) _) e1).trans ?_
   cases P5 (a0.2.2.2.2.1.getD i Ys) (Ew a0).1 <;> rfl) (fun m => by
   show D7 (m + 1) a0.2.2.2.2.1 (nI a0.2.2.2.2.1.length) (a0.2.2.2.2.1.length : Int) (Ew a0).1.1 = _
   simp only [D7, J5]
   rw [Hx]
   rfl) (J4 a0.2.2.2.2.1 (nI a0.2.2.2.2.1.length) 0 (Ew a0).1.1) 0 (by omega) (by simp [J4, nI])
  refine Nl hL ?_
  rw [List.drop_zero]
  cases a0.2.2.2.2.1.any (fun p => P5 p (Ew a0).1) <;> rfl
noncomputable def Yn {R : Type} (k : Kt R) := (Be (Hw (pa_impl_Right 6) (.exit 0) 2 k) (Hw (pa_impl_Right 6) .ret 1 k))
noncomputable def Aen {R : Type} : Lt R pa_impl_Right := (D5 (pat := pa_impl_Right) 6 (fun d k => (D7 (J4 d.1 d.2.1 d.2.2.1 d.2.2.2.1) d.1 d.2.1 d.2.2.1 d.2.2.2.1).bind (Yn k)) Ff)
theorem z7 : Au Tryz.prog ta_impl_Right := At ⟨Apv, Aem, trivial⟩
theorem Ajp {R : Type} : Aw Tryz.prog R 25 0 pa_impl_Right Aen co_impl_Right_6 :=
 B1 (cfg := ⟨ta_impl_Right, 0, 25, pa_impl_Right⟩) 6 [] (fun NX X d => J5  NX (fun e => X (.inl (e))) (fun e => X (.inr (e))) d.1 d.2.1 d.2.2.1 d.2.2.2.1) (fun m d => D7 m d.1 d.2.1 d.2.2.1 d.2.2.2.1) (fun d => J4 d.1 d.2.1 d.2.2.1 d.2.2.2.1) Yn z7 trivial (fun f NX d => by unfold J5; simp only [Aj, Ap, Ai, Option.bind_assoc, Option.bind_none, Option.bind_some]) (fun _ _ _ => by kernel_rfl)
theorem Apy : Bf Tryz.prog 37 sd_impl_Right :=
 Ar (pat := pa_impl_Right) [co_impl_Right_6] Aen z7 ⟨Ajp, trivial⟩ Tryz.func37 (de := fun x => Uz x.1) (fun x r h => (Apx x.1).trans h) fun _ => by kernel_rfl
def P1 (a b : Pr2) : Option Bool := eqM Ak a b
def Aoe : Sig := ⟨[.rd Ak, .rd Ak], [some 2, some 2], [.rd .bool], [none]⟩
noncomputable def sd_laws_eqPair : SD := ⟨Aoe, fun x => (P1 x.1 x.2.1).bind fun r => some ((r, ()), (()))⟩
noncomputable def S9 (a0 : Pr2) (a1 : Pr2) : Option ((((Bool) × Unit) × (Unit))) :=
 bif !ByteArray.toList a0.1 == ByteArray.toList a1.1 then some ((false, ()), ()) else bif !ByteArray.toList a0.2.1 == ByteArray.toList a1.2.1 then some ((false, ()), ()) else some ((true, ()), ())
theorem Aof (a0 : Pr2) (a1 : Pr2) r (h : P1 a0 a1 = some r) : S9 a0 a1 = some ((r, ()), (())) := by
 obtain ⟨hc, hd, rfl⟩ := Kq (t := Ak) h
 obtain ⟨hc0, hc1, _⟩ : A2 .str a0.1 = true ∧ A2 .str a0.2.1 = true ∧ True := by
  have s := hc
  obtain ⟨h0, s⟩ := Af s
  obtain ⟨h1, s⟩ := Af s
  exact ⟨h0, h1, trivial⟩
 obtain ⟨hd0, hd1, _⟩ : A2 .str a1.1 = true ∧ A2 .str a1.2.1 = true ∧ True := by
  have s := hd
  obtain ⟨h0, s⟩ := Af s
  obtain ⟨h1, s⟩ := Af s
  exact ⟨h0, h1, trivial⟩
 unfold S9
 have e0 : (!(ByteArray.toList a0.1 == ByteArray.toList a1.1)) = !eqS a0.1 a1.1 := rfl
 have e1 : (!(ByteArray.toList a0.2.1 == ByteArray.toList a1.2.1)) = !eqS a0.2.1 a1.2.1 := rfl
 simp only [e0, e1, Option.bind_some]
 show _ = some (((eqS a0.1 a1.1 && (eqS a0.2.1 a1.2.1 && true)), ()), ())
 generalize eqS a0.1 a1.1 = p0
 generalize eqS a0.2.1 a1.2.1 = p1
 cases p0 <;> cases p1 <;> rfl
theorem Aog : Bf Tryz.prog 193 sd_laws_eqPair :=
 Ar (pat := Ci) [] Ff (At (l := []) trivial) trivial Tryz.func193 (de := fun x => S9 x.1 x.2.1) (fun x r h => A3 (Aof x.1 x.2.1) h) fun _ => by kernel_rfl
def On (a b : List Pr2) : Option Bool := eqM (.sl Ak) a b
def Ajq : Sig := ⟨[.rd (.sl Ak), .rd (.sl Ak)], [none, none], [.rd .bool], [none]⟩
noncomputable def sd_laws_eqPairS : SD := ⟨Ajq, fun x => (On x.1 x.2.1).bind fun r => some ((r, ()), (()))⟩
noncomputable def ta_laws_eqPairS : Tb := tb [(193, sd_laws_eqPair)]
def pa_laws_eqPairS : Nat → Pat × (Nat → Pat) := Fj [(5, ⟨[.sl 0 0 Ak, .sl 1 0 Ak], [(0, .lf (.d (.sl Ak))), (1, .lf (.d (.sl Ak))), (5, .lf (.d tI))], []⟩, [(2, p0), (1, ⟨[], [(4, .lf (.d .bool))], []⟩)])]
noncomputable def co_laws_eqPairS_5 : Code := (Ao (A4 Tryz.f128)).getD 0 .skip
def E6 (v0 : List Pr2) (v1 : List Pr2) (v5 : Int) : Nat := ((v0.length : Int) - v5).toNat + 1
noncomputable def Ii {R : Type}  (NX : ((List Pr2) × (List Pr2) × (Int) × Unit) → Option R) (X2 : (Unit) → Option R) (X1 : ((Bool) × Unit) → Option R) (v0 : List Pr2) (v1 : List Pr2) (v5 : Int) : Option R :=
 bif decide (v5 < nI v0.length) then bif decide (0 ≤ v5) then bif decide (v5 < nI v0.length) then bif decide (0 ≤ v5) then bif decide (v5 < nI v1.length) then ((P1 (v0.getD v5.toNat (ByteArray.mk #[], ByteArray.mk #[], ())) (v1.getD v5.toNat (ByteArray.mk #[], ByteArray.mk #[], ()))).bind fun val => some ((val, ()), ())).bind fun val => bif !val.1.1 then X1 (false, ()) else NX (v0, v1, IntKind.i64.wrap (v5 + 1), ()) else none else none else none else none else X2 PUnit.unit
noncomputable def Ch : Nat → (List Pr2) → (List Pr2) → (Int) →  Option ((Unit) ⊕ ((Bool) × Unit))
 | 0, _, _, _ => none
 | m + 1, v0, v1, v5 => Ii  (fun d => Ch m d.1 d.2.1 d.2.2.1) (fun d => some (.inl (d))) (fun d => some (.inr (d))) v0 v1 v5
noncomputable def Qw (a0 : List Pr2) (a1 : List Pr2) : Option ((((Bool) × Unit) × (Unit))) :=
 bif nI a0.length != nI a1.length then some ((false, ()), ()) else ((fun d => Ch (E6 d.1 d.2.1 d.2.2.1) d.1 d.2.1 d.2.2.1) (a0, a1, 0, ())).bind fun val => Be (fun val => some ((true, ()), ())) (fun val => some (val, ())) val
theorem Ajr (a0 : List Pr2) (a1 : List Pr2) r (h : On a0 a1 = some r) : Qw a0 a1 = some ((r, ()), (())) := by
 obtain ⟨hc, hd, rfl⟩ := Kq (t := .sl Ak) h
 obtain ⟨hlx0, hx⟩ := Ju hc
 obtain ⟨hly0, hy⟩ := Ju hd
 have hlx : a0.length < 1152921504606846976 := hlx0
 have hly : a1.length < 1152921504606846976 := hly0
 clear hlx0 hly0 hc hd h
 ·unfold Qw
  by_cases hl : a1.length = a0.length
  ·have c1 : (nI a0.length != nI a1.length) = false := by simp [nI, hl]
   have hL := W7 (xs := a0) (ys := a1) ((ByteArray.mk #[]), (ByteArray.mk #[]), ()) (fun x y : Pr2 => Mc Ak x y) (g := fun m i => Ch m a0 a1 i) (ok := .inl ()) (bad := .inr (false, ())) hl (fun m i hi => by
    show Ch (m + 1) a0 a1 i = _
    simp only [Ch, Ii]
    rw [Mg hi, Fh, Mg (show i < a1.length by omega), wI (by omega)]
    simp only [cond_true, Int.toNat_natCast]
    have f1 : A2 Ak (List.getD (α := Pr2) a0 i ((ByteArray.mk #[]), (ByteArray.mk #[]), ())) = true := hx _ (Kn ((ByteArray.mk #[]), (ByteArray.mk #[]), ()) hi)
    have f2 : A2 Ak (List.getD (α := Pr2) a1 i ((ByteArray.mk #[]), (ByteArray.mk #[]), ())) = true := hy _ (Kn ((ByteArray.mk #[]), (ByteArray.mk #[]), ()) (by omega))
    have hE : P1 (List.getD (α := Pr2) a0 i ((ByteArray.mk #[]), (ByteArray.mk #[]), ())) (List.getD (α := Pr2) a1 i ((ByteArray.mk #[]), (ByteArray.mk #[]), ())) = some (Mc Ak (List.getD (α := Pr2) a0 i ((ByteArray.mk #[]), (ByteArray.mk #[]), ())) (List.getD (α := Pr2) a1 i ((ByteArray.mk #[]), (ByteArray.mk #[]), ()))) := by
     exact Qi (t := Ak) (x := (List.getD (α := Pr2) a0 i ((ByteArray.mk #[]), (ByteArray.mk #[]), ()))) (y := (List.getD (α := Pr2) a1 i ((ByteArray.mk #[]), (ByteArray.mk #[]), ()))) f1 f2
    rw [hE]
    cases q : Mc Ak (List.getD (α := Pr2) a0 i ((ByteArray.mk #[]), (ByteArray.mk #[]), ())) (List.getD (α := Pr2) a1 i ((ByteArray.mk #[]), (ByteArray.mk #[]), ())) <;> simp only [Option.bind_some, q] <;> rfl) (fun m => by
    show Ch (m + 1) a0 a1 a0.length = _
    simp only [Ch, Ii]
    rw [Hx]
    rfl) (E6 a0 a1 0) 0 (by omega) (by simp [E6])
   rw [c1]
   have hL' : Ch (E6 a0 a1 0) a0 a1 0 = _ := hL
   show (Ch (E6 a0 a1 0) a0 a1 0).bind _ = some ((eqL (α := Pr2) (fun x y : Pr2 => Mc Ak x y) a0 a1, ()), ())
   rw [hL', List.drop_zero, List.drop_zero]
   cases eqL (α := Pr2) (fun x y : Pr2 => Mc Ak x y) a0 a1 <;> rfl
  ·have c1 : (nI a0.length != nI a1.length) = true := by simp [nI]; omega
   rw [c1]
   show _ = some ((eqL (α := Pr2) (fun x y : Pr2 => Mc Ak x y) a0 a1, ()), ())
   rw [W6 (fun q => hl q.symm)]
   rfl
noncomputable def Uf {R : Type} (k : Kt R) := (Be (Hw (pa_laws_eqPairS 5) (.exit 0) 2 k) (Hw (pa_laws_eqPairS 5) .ret 1 k))
noncomputable def g9 {R : Type} : Lt R pa_laws_eqPairS := (D5 (pat := pa_laws_eqPairS) 5 (fun d k => (Ch (E6 d.1 d.2.1 d.2.2.1) d.1 d.2.1 d.2.2.1).bind (Uf k)) Ff)
theorem Yo : Au Tryz.prog ta_laws_eqPairS := At ⟨Aog, trivial⟩
theorem Aeo {R : Type} : Aw Tryz.prog R 27 0 pa_laws_eqPairS g9 co_laws_eqPairS_5 :=
 B1 (cfg := ⟨ta_laws_eqPairS, 0, 27, pa_laws_eqPairS⟩) 5 [] (fun NX X d => Ii  NX (fun e => X (.inl (e))) (fun e => X (.inr (e))) d.1 d.2.1 d.2.2.1) (fun m d => Ch m d.1 d.2.1 d.2.2.1) (fun d => E6 d.1 d.2.1 d.2.2.1) Uf Yo trivial (fun f NX d => by unfold Ii; simp only [Aj, Ap, Ai, Option.bind_assoc, Option.bind_none, Option.bind_some]) (fun _ _ _ => by kernel_rfl)
theorem Ajs : Bf Tryz.prog 128 sd_laws_eqPairS :=
 Ar (pat := pa_laws_eqPairS) [co_laws_eqPairS_5] g9 Yo ⟨Aeo, trivial⟩ Tryz.func128 (de := fun x => Qw x.1 x.2.1) (fun x r h => A3 (Ajr x.1 x.2.1) h) fun _ => by kernel_rfl
def Ht (a b : Stt) : Option Bool := eqM Bd a b
def Ajt : Sig := ⟨[.rd Bd, .rd Bd], [some 1, some 1], [.rd .bool], [none]⟩
noncomputable def sd_laws_eqState : SD := ⟨Ajt, fun x => (Ht x.1 x.2.1).bind fun r => some ((r, ()), (()))⟩
noncomputable def Qx (a0 : Stt) (a1 : Stt) : Option ((((Bool) × Unit) × (Unit))) :=
 ((On a0.1 a1.1).bind fun val => some ((val, ()), ())).bind fun val => bif !val.1.1 then some ((false, ()), ()) else some ((true, ()), ())
theorem Aju (a0 : Stt) (a1 : Stt) r (h : Ht a0 a1 = some r) : Qx a0 a1 = some ((r, ()), (())) := by
 obtain ⟨hc, hd, rfl⟩ := Kq (t := Bd) h
 obtain ⟨hc0, _⟩ : A2 (.sl Ak) a0.1 = true ∧ True := by
  have s := hc
  obtain ⟨h0, s⟩ := Af s
  exact ⟨h0, trivial⟩
 obtain ⟨hd0, _⟩ : A2 (.sl Ak) a1.1 = true ∧ True := by
  have s := hd
  obtain ⟨h0, s⟩ := Af s
  exact ⟨h0, trivial⟩
 unfold Qx
 have e0 : On a0.1 a1.1 = some (Mc (.sl Ak) a0.1 a1.1) := Qi (t := (.sl Ak)) hc0 hd0
 simp only [e0, Option.bind_some]
 show _ = some (((Mc (.sl Ak) a0.1 a1.1 && true), ()), ())
 generalize Mc (.sl Ak) a0.1 a1.1 = p0
 cases p0 <;> rfl
theorem Yp : Bf Tryz.prog 41 sd_laws_eqState :=
 Ar (pat := Ci) [] Ff (At (l := [(128, sd_laws_eqPairS)]) ⟨Ajs, trivial⟩) trivial Tryz.func41 (de := fun x => Qx x.1 x.2.1) (fun x r h => A3 (Aju x.1 x.2.1) h) fun _ => by kernel_rfl
def z8 (a b : Rt) : Option Bool := eqM yRt a b
def Aoh : Sig := ⟨[.rd yRt, .rd yRt], [some 4, some 4], [.rd .bool], [none]⟩
noncomputable def sd_laws_eqRoot : SD := ⟨Aoh, fun x => (z8 x.1 x.2.1).bind fun r => some ((r, ()), (()))⟩
noncomputable def Ta (a0 : Rt) (a1 : Rt) : Option ((((Bool) × Unit) × (Unit))) :=
 bif a0.1 != a1.1 then some ((false, ()), ()) else bif a0.2.1 != a1.2.1 then some ((false, ()), ()) else bif a0.2.2.1 != a1.2.2.1 then some ((false, ()), ()) else bif a0.2.2.2.1 != a1.2.2.2.1 then some ((false, ()), ()) else some ((true, ()), ())
theorem Aoi (a0 : Rt) (a1 : Rt) r (h : z8 a0 a1 = some r) : Ta a0 a1 = some ((r, ()), (())) := by
 obtain ⟨hc, hd, rfl⟩ := Kq (t := yRt) h
 obtain ⟨hc0, hc1, hc2, hc3, _⟩ : A2 tI a0.1 = true ∧ A2 tI a0.2.1 = true ∧ A2 tI a0.2.2.1 = true ∧ A2 tI a0.2.2.2.1 = true ∧ True := by
  have s := hc
  obtain ⟨h0, s⟩ := Af s
  obtain ⟨h1, s⟩ := Af s
  obtain ⟨h2, s⟩ := Af s
  obtain ⟨h3, s⟩ := Af s
  exact ⟨h0, h1, h2, h3, trivial⟩
 obtain ⟨hd0, hd1, hd2, hd3, _⟩ : A2 tI a1.1 = true ∧ A2 tI a1.2.1 = true ∧ A2 tI a1.2.2.1 = true ∧ A2 tI a1.2.2.2.1 = true ∧ True := by
  have s := hd
  obtain ⟨h0, s⟩ := Af s
  obtain ⟨h1, s⟩ := Af s
  obtain ⟨h2, s⟩ := Af s
  obtain ⟨h3, s⟩ := Af s
  exact ⟨h0, h1, h2, h3, trivial⟩
 unfold Ta
 have e0 : (a0.1 != a1.1) = !Xq a0.1 a1.1 := Aid _ _
 have e1 : (a0.2.1 != a1.2.1) = !Xq a0.2.1 a1.2.1 := Aid _ _
 have e2 : (a0.2.2.1 != a1.2.2.1) = !Xq a0.2.2.1 a1.2.2.1 := Aid _ _
 have e3 : (a0.2.2.2.1 != a1.2.2.2.1) = !Xq a0.2.2.2.1 a1.2.2.2.1 := Aid _ _
 simp only [e0, e1, e2, e3, Option.bind_some]
 show _ = some (((Xq a0.1 a1.1 && (Xq a0.2.1 a1.2.1 && (Xq a0.2.2.1 a1.2.2.1 && (Xq a0.2.2.2.1 a1.2.2.2.1 && true)))), ()), ())
 generalize Xq a0.1 a1.1 = p0
 generalize Xq a0.2.1 a1.2.1 = p1
 generalize Xq a0.2.2.1 a1.2.2.1 = p2
 generalize Xq a0.2.2.2.1 a1.2.2.2.1 = p3
 cases p0 <;> cases p1 <;> cases p2 <;> cases p3 <;> rfl
theorem Aoj : Bf Tryz.prog 97 sd_laws_eqRoot :=
 Ar (pat := Ci) [] Ff (At (l := []) trivial) trivial Tryz.func97 (de := fun x => Ta x.1 x.2.1) (fun x r h => A3 (Aoi x.1 x.2.1) h) fun _ => by kernel_rfl
def K4 (a b : Sto) : Option Bool := eqM Il a b
def Ajv : Sig := ⟨[.rd Il, .rd Il], [some 10, some 10], [.rd .bool], [none]⟩
noncomputable def sd_laws_eqStore : SD := ⟨Ajv, fun x => (K4 x.1 x.2.1).bind fun r => some ((r, ()), (()))⟩
noncomputable def Qy (a0 : Sto) (a1 : Sto) : Option ((((Bool) × Unit) × (Unit))) :=
 bif a0.1 != a1.1 then some ((false, ()), ()) else bif a0.2.1 != a1.2.1 then some ((false, ()), ()) else bif a0.2.2.1 != a1.2.2.1 then some ((false, ()), ()) else bif !(decide (a0.2.2.2.1.1 = a1.2.2.2.1.1) && (decide (a0.2.2.2.1.2.1 = a1.2.2.2.1.2.1) && (decide (a0.2.2.2.1.2.2.1 = a1.2.2.2.1.2.2.1) && (decide (a0.2.2.2.1.2.2.2.1 = a1.2.2.2.1.2.2.2.1) && true)))) then some ((false, ()), ()) else bif a0.2.2.2.2.1 != a1.2.2.2.2.1 then some ((false, ()), ()) else bif a0.2.2.2.2.2.1 != a1.2.2.2.2.2.1 then some ((false, ()), ()) else ((Ht a0.2.2.2.2.2.2.1 a1.2.2.2.2.2.2.1).bind fun val => some ((val, ()), ())).bind fun val => bif !val.1.1 then some ((false, ()), ()) else some ((true, ()), ())
theorem Ajw (a0 : Sto) (a1 : Sto) r (h : K4 a0 a1 = some r) : Qy a0 a1 = some ((r, ()), (())) := by
 obtain ⟨hc, hd, rfl⟩ := Kq (t := Il) h
 obtain ⟨hc0, hc1, hc2, hc3, hc4, hc5, hc6, _⟩ : A2 tI a0.1 = true ∧ A2 tI a0.2.1 = true ∧ A2 tI a0.2.2.1 = true ∧ A2 yRt a0.2.2.2.1 = true ∧ A2 tI a0.2.2.2.2.1 = true ∧ A2 tI a0.2.2.2.2.2.1 = true ∧ A2 Bd a0.2.2.2.2.2.2.1 = true ∧ True := by
  have s := hc
  obtain ⟨h0, s⟩ := Af s
  obtain ⟨h1, s⟩ := Af s
  obtain ⟨h2, s⟩ := Af s
  obtain ⟨h3, s⟩ := Af s
  obtain ⟨h4, s⟩ := Af s
  obtain ⟨h5, s⟩ := Af s
  obtain ⟨h6, s⟩ := Af s
  exact ⟨h0, h1, h2, h3, h4, h5, h6, trivial⟩
 obtain ⟨hd0, hd1, hd2, hd3, hd4, hd5, hd6, _⟩ : A2 tI a1.1 = true ∧ A2 tI a1.2.1 = true ∧ A2 tI a1.2.2.1 = true ∧ A2 yRt a1.2.2.2.1 = true ∧ A2 tI a1.2.2.2.2.1 = true ∧ A2 tI a1.2.2.2.2.2.1 = true ∧ A2 Bd a1.2.2.2.2.2.2.1 = true ∧ True := by
  have s := hd
  obtain ⟨h0, s⟩ := Af s
  obtain ⟨h1, s⟩ := Af s
  obtain ⟨h2, s⟩ := Af s
  obtain ⟨h3, s⟩ := Af s
  obtain ⟨h4, s⟩ := Af s
  obtain ⟨h5, s⟩ := Af s
  obtain ⟨h6, s⟩ := Af s
  exact ⟨h0, h1, h2, h3, h4, h5, h6, trivial⟩
 unfold Qy
 have e0 : (a0.1 != a1.1) = !Xq a0.1 a1.1 := Aid _ _
 have e1 : (a0.2.1 != a1.2.1) = !Xq a0.2.1 a1.2.1 := Aid _ _
 have e2 : (a0.2.2.1 != a1.2.2.1) = !Xq a0.2.2.1 a1.2.2.1 := Aid _ _
 have e4 : (a0.2.2.2.2.1 != a1.2.2.2.2.1) = !Xq a0.2.2.2.2.1 a1.2.2.2.2.1 := Aid _ _
 have e5 : (a0.2.2.2.2.2.1 != a1.2.2.2.2.2.1) = !Xq a0.2.2.2.2.2.1 a1.2.2.2.2.2.1 := Aid _ _
 have e6 : Ht a0.2.2.2.2.2.2.1 a1.2.2.2.2.2.2.1 = some (Mc Bd a0.2.2.2.2.2.2.1 a1.2.2.2.2.2.2.1) := Qi (t := Bd) hc6 hd6
 have e6 : Ht a0.2.2.2.2.2.2.1 a1.2.2.2.2.2.2.1 = some (Mc Bd a0.2.2.2.2.2.2.1 a1.2.2.2.2.2.2.1) := e6
 simp only [e0, e1, e2, e4, e5, e6, Option.bind_some]
 show _ = some (((Xq a0.1 a1.1 && (Xq a0.2.1 a1.2.1 && (Xq a0.2.2.1 a1.2.2.1 && ((decide (a0.2.2.2.1.1 = a1.2.2.2.1.1) && (decide (a0.2.2.2.1.2.1 = a1.2.2.2.1.2.1) && (decide (a0.2.2.2.1.2.2.1 = a1.2.2.2.1.2.2.1) && (decide (a0.2.2.2.1.2.2.2.1 = a1.2.2.2.1.2.2.2.1) && true)))) && (Xq a0.2.2.2.2.1 a1.2.2.2.2.1 && (Xq a0.2.2.2.2.2.1 a1.2.2.2.2.2.1 && (Mc Bd a0.2.2.2.2.2.2.1 a1.2.2.2.2.2.2.1 && true))))))), ()), ())
 generalize Xq a0.1 a1.1 = p0
 generalize Xq a0.2.1 a1.2.1 = p1
 generalize Xq a0.2.2.1 a1.2.2.1 = p2
 generalize (decide (a0.2.2.2.1.1 = a1.2.2.2.1.1) && (decide (a0.2.2.2.1.2.1 = a1.2.2.2.1.2.1) && (decide (a0.2.2.2.1.2.2.1 = a1.2.2.2.1.2.2.1) && (decide (a0.2.2.2.1.2.2.2.1 = a1.2.2.2.1.2.2.2.1) && true)))) = p3
 generalize Xq a0.2.2.2.2.1 a1.2.2.2.2.1 = p4
 generalize Xq a0.2.2.2.2.2.1 a1.2.2.2.2.2.1 = p5
 generalize Mc Bd a0.2.2.2.2.2.2.1 a1.2.2.2.2.2.2.1 = p6
 cases p0 <;> cases p1 <;> cases p2 <;> cases p3 <;> cases p4 <;> cases p5 <;> cases p6 <;> rfl
theorem Ajx : Bf Tryz.prog 22 sd_laws_eqStore :=
 Ar (pat := Ci) [] Ff (At (l := [(41, sd_laws_eqState), (97, sd_laws_eqRoot)]) ⟨Yp, Aoj, trivial⟩) trivial Tryz.func22 (de := fun x => Qy x.1 x.2.1) (fun x r h => A3 (Ajw x.1 x.2.1) h) fun _ => by kernel_rfl
def G7 (a b : List ByteArray) : Option Bool := eqM (.sl .str) a b
def Aep : Sig := ⟨[.rd (.sl .str), .rd (.sl .str)], [none, none], [.rd .bool], [none]⟩
noncomputable def sd_laws_eqStringS : SD := ⟨Aep, fun x => (G7 x.1 x.2.1).bind fun r => some ((r, ()), (()))⟩
noncomputable def ta_laws_eqStringS : Tb := tb []
def pa_laws_eqStringS : Nat → Pat × (Nat → Pat) := Fj [(5, ⟨[.sl 0 0 .str, .sl 1 0 .str], [(0, .lf (.d (.sl .str))), (1, .lf (.d (.sl .str))), (5, .lf (.d tI))], []⟩, [(2, p0), (1, ⟨[], [(4, .lf (.d .bool))], []⟩)])]
noncomputable def co_laws_eqStringS_5 : Code := (Ao (A4 Tryz.f118)).getD 0 .skip
def Ds (v0 : List ByteArray) (v1 : List ByteArray) (v5 : Int) : Nat := ((v0.length : Int) - v5).toNat + 1
noncomputable def G2 {R : Type}  (NX : ((List ByteArray) × (List ByteArray) × (Int) × Unit) → Option R) (X2 : (Unit) → Option R) (X1 : ((Bool) × Unit) → Option R) (v0 : List ByteArray) (v1 : List ByteArray) (v5 : Int) : Option R :=
 bif decide (v5 < nI v0.length) then bif decide (0 ≤ v5) then bif decide (v5 < nI v0.length) then bif decide (0 ≤ v5) then bif decide (v5 < nI v1.length) then bif !ByteArray.toList (v0.getD v5.toNat (ByteArray.mk #[])) == ByteArray.toList (v1.getD v5.toNat (ByteArray.mk #[])) then X1 (false, ()) else NX (v0, v1, IntKind.i64.wrap (v5 + 1), ()) else none else none else none else none else X2 PUnit.unit
noncomputable def By : Nat → (List ByteArray) → (List ByteArray) → (Int) →  Option ((Unit) ⊕ ((Bool) × Unit))
 | 0, _, _, _ => none
 | m + 1, v0, v1, v5 => G2  (fun d => By m d.1 d.2.1 d.2.2.1) (fun d => some (.inl (d))) (fun d => some (.inr (d))) v0 v1 v5
noncomputable def Oo (a0 : List ByteArray) (a1 : List ByteArray) : Option ((((Bool) × Unit) × (Unit))) :=
 bif nI a0.length != nI a1.length then some ((false, ()), ()) else ((fun d => By (Ds d.1 d.2.1 d.2.2.1) d.1 d.2.1 d.2.2.1) (a0, a1, 0, ())).bind fun val => Be (fun val => some ((true, ()), ())) (fun val => some (val, ())) val
theorem Aeq (a0 : List ByteArray) (a1 : List ByteArray) r (h : G7 a0 a1 = some r) : Oo a0 a1 = some ((r, ()), (())) := by
 obtain ⟨hc, hd, rfl⟩ := Kq (t := .sl .str) h
 obtain ⟨hlx0, hx⟩ := Ju hc
 obtain ⟨hly0, hy⟩ := Ju hd
 have hlx : a0.length < 1152921504606846976 := hlx0
 have hly : a1.length < 1152921504606846976 := hly0
 clear hlx0 hly0 hc hd h
 ·unfold Oo
  by_cases hl : a1.length = a0.length
  ·have c1 : (nI a0.length != nI a1.length) = false := by simp [nI, hl]
   have hL := W7 (xs := a0) (ys := a1) (ByteArray.mk #[]) eqS (g := fun m i => By m a0 a1 i) (ok := .inl ()) (bad := .inr (false, ())) hl (fun m i hi => by
    show By (m + 1) a0 a1 i = _
    simp only [By, G2]
    rw [Mg hi, Fh, Mg (show i < a1.length by omega), wI (by omega)]
    simp only [cond_true, Int.toNat_natCast]
    show (bif !(ByteArray.toList (List.getD (α := ByteArray) a0 i (ByteArray.mk #[])) == ByteArray.toList (List.getD (α := ByteArray) a1 i (ByteArray.mk #[]))) then _ else _) = bif (ByteArray.toList (List.getD (α := ByteArray) a0 i (ByteArray.mk #[])) == ByteArray.toList (List.getD (α := ByteArray) a1 i (ByteArray.mk #[]))) then _ else _
    cases (ByteArray.toList (List.getD (α := ByteArray) a0 i (ByteArray.mk #[])) == ByteArray.toList (List.getD (α := ByteArray) a1 i (ByteArray.mk #[]))) <;> rfl) (fun m => by
    show By (m + 1) a0 a1 a0.length = _
    simp only [By, G2]
    rw [Hx]
    rfl) (Ds a0 a1 0) 0 (by omega) (by simp [Ds])
   rw [c1]
   have hL' : By (Ds a0 a1 0) a0 a1 0 = _ := hL
   show (By (Ds a0 a1 0) a0 a1 0).bind _ = some ((eqL (α := ByteArray) eqS a0 a1, ()), ())
   rw [hL', List.drop_zero, List.drop_zero]
   cases eqL (α := ByteArray) eqS a0 a1 <;> rfl
  ·have c1 : (nI a0.length != nI a1.length) = true := by simp [nI]; omega
   rw [c1]
   show _ = some ((eqL (α := ByteArray) eqS a0 a1, ()), ())
   rw [W6 (fun q => hl q.symm)]
   rfl
noncomputable def Ra {R : Type} (k : Kt R) := (Be (Hw (pa_laws_eqStringS 5) (.exit 0) 2 k) (Hw (pa_laws_eqStringS 5) .ret 1 k))
noncomputable def We {R : Type} : Lt R pa_laws_eqStringS := (D5 (pat := pa_laws_eqStringS) 5 (fun d k => (By (Ds d.1 d.2.1 d.2.2.1) d.1 d.2.1 d.2.2.1).bind (Ra k)) Ff)
theorem Ug : Au Tryz.prog ta_laws_eqStringS := At trivial
theorem p9 {R : Type} : Aw Tryz.prog R 26 0 pa_laws_eqStringS We co_laws_eqStringS_5 :=
 B1 (cfg := ⟨ta_laws_eqStringS, 0, 26, pa_laws_eqStringS⟩) 5 [] (fun NX X d => G2  NX (fun e => X (.inl (e))) (fun e => X (.inr (e))) d.1 d.2.1 d.2.2.1) (fun m d => By m d.1 d.2.1 d.2.2.1) (fun d => Ds d.1 d.2.1 d.2.2.1) Ra Ug trivial (fun f NX d => by unfold G2; simp only [Aj, Ap, Ai, Option.bind_assoc, Option.bind_none, Option.bind_some]) (fun _ _ _ => by kernel_rfl)
theorem Uh : Bf Tryz.prog 118 sd_laws_eqStringS :=
 Ar (pat := pa_laws_eqStringS) [co_laws_eqStringS_5] We Ug ⟨p9, trivial⟩ Tryz.func118 (de := fun x => Oo x.1 x.2.1) (fun x r h => A3 (Aeq x.1 x.2.1) h) fun _ => by kernel_rfl
def Oq (a b : Wr) : Option Bool := eqM Ey a b
def Ajy : Sig := ⟨[.rd Ey, .rd Ey], [some 2, some 2], [.rd .bool], [none]⟩
noncomputable def sd_laws_eqWrite : SD := ⟨Ajy, fun x => (Oq x.1 x.2.1).bind fun r => some ((r, ()), (()))⟩
noncomputable def Qz (a0 : Wr) (a1 : Wr) : Option ((((Bool) × Unit) × (Unit))) :=
 bif a0.1 != a1.1 then some ((false, ()), ()) else bif !ByteArray.toList a0.2.1 == ByteArray.toList a1.2.1 then some ((false, ()), ()) else some ((true, ()), ())
theorem Ajz (a0 : Wr) (a1 : Wr) r (h : Oq a0 a1 = some r) : Qz a0 a1 = some ((r, ()), (())) := by
 obtain ⟨hc, hd, rfl⟩ := Kq (t := Ey) h
 obtain ⟨hc0, hc1, _⟩ : A2 tI a0.1 = true ∧ A2 .str a0.2.1 = true ∧ True := by
  have s := hc
  obtain ⟨h0, s⟩ := Af s
  obtain ⟨h1, s⟩ := Af s
  exact ⟨h0, h1, trivial⟩
 obtain ⟨hd0, hd1, _⟩ : A2 tI a1.1 = true ∧ A2 .str a1.2.1 = true ∧ True := by
  have s := hd
  obtain ⟨h0, s⟩ := Af s
  obtain ⟨h1, s⟩ := Af s
  exact ⟨h0, h1, trivial⟩
 unfold Qz
 have e0 : (a0.1 != a1.1) = !Xq a0.1 a1.1 := Aid _ _
 have e1 : (!(ByteArray.toList a0.2.1 == ByteArray.toList a1.2.1)) = !eqS a0.2.1 a1.2.1 := rfl
 simp only [e0, e1, Option.bind_some]
 show _ = some (((Xq a0.1 a1.1 && (eqS a0.2.1 a1.2.1 && true)), ()), ())
 generalize Xq a0.1 a1.1 = p0
 generalize eqS a0.2.1 a1.2.1 = p1
 cases p0 <;> cases p1 <;> rfl
theorem Aj0 : Bf Tryz.prog 192 sd_laws_eqWrite :=
 Ar (pat := Ci) [] Ff (At (l := []) trivial) trivial Tryz.func192 (de := fun x => Qz x.1 x.2.1) (fun x r h => A3 (Ajz x.1 x.2.1) h) fun _ => by kernel_rfl
def L7 (a b : List Wr) : Option Bool := eqM (.sl Ey) a b
def Agx : Sig := ⟨[.rd (.sl Ey), .rd (.sl Ey)], [none, none], [.rd .bool], [none]⟩
noncomputable def sd_laws_eqWriteS : SD := ⟨Agx, fun x => (L7 x.1 x.2.1).bind fun r => some ((r, ()), (()))⟩
noncomputable def ta_laws_eqWriteS : Tb := tb [(192, sd_laws_eqWrite)]
def pa_laws_eqWriteS : Nat → Pat × (Nat → Pat) := Fj [(5, ⟨[.sl 0 0 Ey, .sl 1 0 Ey], [(0, .lf (.d (.sl Ey))), (1, .lf (.d (.sl Ey))), (5, .lf (.d tI))], []⟩, [(2, p0), (1, ⟨[], [(4, .lf (.d .bool))], []⟩)])]
noncomputable def co_laws_eqWriteS_5 : Code := (Ao (A4 Tryz.f119)).getD 0 .skip
def Em (v0 : List Wr) (v1 : List Wr) (v5 : Int) : Nat := ((v0.length : Int) - v5).toNat + 1
noncomputable def Hu {R : Type}  (NX : ((List Wr) × (List Wr) × (Int) × Unit) → Option R) (X2 : (Unit) → Option R) (X1 : ((Bool) × Unit) → Option R) (v0 : List Wr) (v1 : List Wr) (v5 : Int) : Option R :=
 bif decide (v5 < nI v0.length) then bif decide (0 ≤ v5) then bif decide (v5 < nI v0.length) then bif decide (0 ≤ v5) then bif decide (v5 < nI v1.length) then ((Oq (v0.getD v5.toNat (0, ByteArray.mk #[], ())) (v1.getD v5.toNat (0, ByteArray.mk #[], ()))).bind fun val => some ((val, ()), ())).bind fun val => bif !val.1.1 then X1 (false, ()) else NX (v0, v1, IntKind.i64.wrap (v5 + 1), ()) else none else none else none else none else X2 PUnit.unit
noncomputable def B8 : Nat → (List Wr) → (List Wr) → (Int) →  Option ((Unit) ⊕ ((Bool) × Unit))
 | 0, _, _, _ => none
 | m + 1, v0, v1, v5 => Hu  (fun d => B8 m d.1 d.2.1 d.2.2.1) (fun d => some (.inl (d))) (fun d => some (.inr (d))) v0 v1 v5
noncomputable def Pq (a0 : List Wr) (a1 : List Wr) : Option ((((Bool) × Unit) × (Unit))) :=
 bif nI a0.length != nI a1.length then some ((false, ()), ()) else ((fun d => B8 (Em d.1 d.2.1 d.2.2.1) d.1 d.2.1 d.2.2.1) (a0, a1, 0, ())).bind fun val => Be (fun val => some ((true, ()), ())) (fun val => some (val, ())) val
theorem Agy (a0 : List Wr) (a1 : List Wr) r (h : L7 a0 a1 = some r) : Pq a0 a1 = some ((r, ()), (())) := by
 obtain ⟨hc, hd, rfl⟩ := Kq (t := .sl Ey) h
 obtain ⟨hlx0, hx⟩ := Ju hc
 obtain ⟨hly0, hy⟩ := Ju hd
 have hlx : a0.length < 1152921504606846976 := hlx0
 have hly : a1.length < 1152921504606846976 := hly0
 clear hlx0 hly0 hc hd h
 ·unfold Pq
  by_cases hl : a1.length = a0.length
  ·have c1 : (nI a0.length != nI a1.length) = false := by simp [nI, hl]
   have hL := W7 (xs := a0) (ys := a1) (0, (ByteArray.mk #[]), ()) (fun x y : Wr => Mc Ey x y) (g := fun m i => B8 m a0 a1 i) (ok := .inl ()) (bad := .inr (false, ())) hl (fun m i hi => by
    show B8 (m + 1) a0 a1 i = _
    simp only [B8, Hu]
    rw [Mg hi, Fh, Mg (show i < a1.length by omega), wI (by omega)]
    simp only [cond_true, Int.toNat_natCast]
    have f1 : A2 Ey (List.getD (α := Wr) a0 i (0, (ByteArray.mk #[]), ())) = true := hx _ (Kn (0, (ByteArray.mk #[]), ()) hi)
    have f2 : A2 Ey (List.getD (α := Wr) a1 i (0, (ByteArray.mk #[]), ())) = true := hy _ (Kn (0, (ByteArray.mk #[]), ()) (by omega))
    have hE : Oq (List.getD (α := Wr) a0 i (0, (ByteArray.mk #[]), ())) (List.getD (α := Wr) a1 i (0, (ByteArray.mk #[]), ())) = some (Mc Ey (List.getD (α := Wr) a0 i (0, (ByteArray.mk #[]), ())) (List.getD (α := Wr) a1 i (0, (ByteArray.mk #[]), ()))) := by
     exact Qi (t := Ey) (x := (List.getD (α := Wr) a0 i (0, (ByteArray.mk #[]), ()))) (y := (List.getD (α := Wr) a1 i (0, (ByteArray.mk #[]), ()))) f1 f2
    rw [hE]
    cases q : Mc Ey (List.getD (α := Wr) a0 i (0, (ByteArray.mk #[]), ())) (List.getD (α := Wr) a1 i (0, (ByteArray.mk #[]), ())) <;> simp only [Option.bind_some, q] <;> rfl) (fun m => by
    show B8 (m + 1) a0 a1 a0.length = _
    simp only [B8, Hu]
    rw [Hx]
    rfl) (Em a0 a1 0) 0 (by omega) (by simp [Em])
   rw [c1]
   have hL' : B8 (Em a0 a1 0) a0 a1 0 = _ := hL
   show (B8 (Em a0 a1 0) a0 a1 0).bind _ = some ((eqL (α := Wr) (fun x y : Wr => Mc Ey x y) a0 a1, ()), ())
   rw [hL', List.drop_zero, List.drop_zero]
   cases eqL (α := Wr) (fun x y : Wr => Mc Ey x y) a0 a1 <;> rfl
  ·have c1 : (nI a0.length != nI a1.length) = true := by simp [nI]; omega
   rw [c1]
   show _ = some ((eqL (α := Wr) (fun x y : Wr => Mc Ey x y) a0 a1, ()), ())
   rw [W6 (fun q => hl q.symm)]
   rfl
noncomputable def Tc {R : Type} (k : Kt R) := (Be (Hw (pa_laws_eqWriteS 5) (.exit 0) 2 k) (Hw (pa_laws_eqWriteS 5) .ret 1 k))
noncomputable def Yq {R : Type} : Lt R pa_laws_eqWriteS := (D5 (pat := pa_laws_eqWriteS) 5 (fun d k => (B8 (Em d.1 d.2.1 d.2.2.1) d.1 d.2.1 d.2.2.1).bind (Tc k)) Ff)
theorem Wf : Au Tryz.prog ta_laws_eqWriteS := At ⟨Aj0, trivial⟩
theorem Abv {R : Type} : Aw Tryz.prog R 27 0 pa_laws_eqWriteS Yq co_laws_eqWriteS_5 :=
 B1 (cfg := ⟨ta_laws_eqWriteS, 0, 27, pa_laws_eqWriteS⟩) 5 [] (fun NX X d => Hu  NX (fun e => X (.inl (e))) (fun e => X (.inr (e))) d.1 d.2.1 d.2.2.1) (fun m d => B8 m d.1 d.2.1 d.2.2.1) (fun d => Em d.1 d.2.1 d.2.2.1) Tc Wf trivial (fun f NX d => by unfold Hu; simp only [Aj, Ap, Ai, Option.bind_assoc, Option.bind_none, Option.bind_some]) (fun _ _ _ => by kernel_rfl)
theorem Agz : Bf Tryz.prog 119 sd_laws_eqWriteS :=
 Ar (pat := pa_laws_eqWriteS) [co_laws_eqWriteS_5] Yq Wf ⟨Abv, trivial⟩ Tryz.func119 (de := fun x => Pq x.1 x.2.1) (fun x r h => A3 (Agy x.1 x.2.1) h) fun _ => by kernel_rfl
def L3 (a b : Dk) : Option Bool := eqM P3 a b
def Aok : Sig := ⟨[.rd P3, .rd P3], [some 2, some 2], [.rd .bool], [none]⟩
noncomputable def sd_laws_eqDisk : SD := ⟨Aok, fun x => (L3 x.1 x.2.1).bind fun r => some ((r, ()), (()))⟩
noncomputable def Td (a0 : Dk) (a1 : Dk) : Option ((((Bool) × Unit) × (Unit))) :=
 ((G7 a0.1 a1.1).bind fun val => some ((val, ()), ())).bind fun val => bif !val.1.1 then some ((false, ()), ()) else ((L7 a0.2.1 a1.2.1).bind fun val => some ((val, ()), ())).bind fun val => bif !val.1.1 then some ((false, ()), ()) else some ((true, ()), ())
theorem Aol (a0 : Dk) (a1 : Dk) r (h : L3 a0 a1 = some r) : Td a0 a1 = some ((r, ()), (())) := by
 obtain ⟨hc, hd, rfl⟩ := Kq (t := P3) h
 obtain ⟨hc0, hc1, _⟩ : A2 (.sl .str) a0.1 = true ∧ A2 (.sl Ey) a0.2.1 = true ∧ True := by
  have s := hc
  obtain ⟨h0, s⟩ := Af s
  obtain ⟨h1, s⟩ := Af s
  exact ⟨h0, h1, trivial⟩
 obtain ⟨hd0, hd1, _⟩ : A2 (.sl .str) a1.1 = true ∧ A2 (.sl Ey) a1.2.1 = true ∧ True := by
  have s := hd
  obtain ⟨h0, s⟩ := Af s
  obtain ⟨h1, s⟩ := Af s
  exact ⟨h0, h1, trivial⟩
 unfold Td
 have e0 : G7 a0.1 a1.1 = some (Mc (.sl .str) a0.1 a1.1) := Qi (t := (.sl .str)) hc0 hd0
 have e1 : L7 a0.2.1 a1.2.1 = some (Mc (.sl Ey) a0.2.1 a1.2.1) := Qi (t := (.sl Ey)) hc1 hd1
 simp only [e0, e1, Option.bind_some]
 show _ = some (((Mc (.sl .str) a0.1 a1.1 && (Mc (.sl Ey) a0.2.1 a1.2.1 && true)), ()), ())
 generalize Mc (.sl .str) a0.1 a1.1 = p0
 generalize Mc (.sl Ey) a0.2.1 a1.2.1 = p1
 cases p0 <;> cases p1 <;> rfl
theorem Aom : Bf Tryz.prog 32 sd_laws_eqDisk :=
 Ar (pat := Ci) [] Ff (At (l := [(118, sd_laws_eqStringS), (119, sd_laws_eqWriteS)]) ⟨Uh, Agz, trivial⟩) trivial Tryz.func32 (de := fun x => Td x.1 x.2.1) (fun x r h => A3 (Aol x.1 x.2.1) h) fun _ => by kernel_rfl
def L8 (a b : List Stt) : Option Bool := eqM (.sl Bd) a b
def Ag0 : Sig := ⟨[.rd (.sl Bd), .rd (.sl Bd)], [none, none], [.rd .bool], [none]⟩
noncomputable def sd_laws_eqStateS : SD := ⟨Ag0, fun x => (L8 x.1 x.2.1).bind fun r => some ((r, ()), (()))⟩
noncomputable def ta_laws_eqStateS : Tb := tb [(41, sd_laws_eqState)]
def pa_laws_eqStateS : Nat → Pat × (Nat → Pat) := Fj [(5, ⟨[.sl 0 0 Bd, .sl 1 0 Bd], [(0, .lf (.d (.sl Bd))), (1, .lf (.d (.sl Bd))), (5, .lf (.d tI))], []⟩, [(2, p0), (1, ⟨[], [(4, .lf (.d .bool))], []⟩)])]
noncomputable def co_laws_eqStateS_5 : Code := (Ao (A4 Tryz.f126)).getD 0 .skip
def En (v0 : List Stt) (v1 : List Stt) (v5 : Int) : Nat := ((v0.length : Int) - v5).toNat + 1
noncomputable def Hv {R : Type}  (NX : ((List Stt) × (List Stt) × (Int) × Unit) → Option R) (X2 : (Unit) → Option R) (X1 : ((Bool) × Unit) → Option R) (v0 : List Stt) (v1 : List Stt) (v5 : Int) : Option R :=
 bif decide (v5 < nI v0.length) then bif decide (0 ≤ v5) then bif decide (v5 < nI v0.length) then bif decide (0 ≤ v5) then bif decide (v5 < nI v1.length) then ((Ht (v0.getD v5.toNat ([], ())) (v1.getD v5.toNat ([], ()))).bind fun val => some ((val, ()), ())).bind fun val => bif !val.1.1 then X1 (false, ()) else NX (v0, v1, IntKind.i64.wrap (v5 + 1), ()) else none else none else none else none else X2 PUnit.unit
noncomputable def B9 : Nat → (List Stt) → (List Stt) → (Int) →  Option ((Unit) ⊕ ((Bool) × Unit))
 | 0, _, _, _ => none
 | m + 1, v0, v1, v5 => Hv  (fun d => B9 m d.1 d.2.1 d.2.2.1) (fun d => some (.inl (d))) (fun d => some (.inr (d))) v0 v1 v5
noncomputable def Ps (a0 : List Stt) (a1 : List Stt) : Option ((((Bool) × Unit) × (Unit))) :=
 bif nI a0.length != nI a1.length then some ((false, ()), ()) else ((fun d => B9 (En d.1 d.2.1 d.2.2.1) d.1 d.2.1 d.2.2.1) (a0, a1, 0, ())).bind fun val => Be (fun val => some ((true, ()), ())) (fun val => some (val, ())) val
theorem Ag1 (a0 : List Stt) (a1 : List Stt) r (h : L8 a0 a1 = some r) : Ps a0 a1 = some ((r, ()), (())) := by
 obtain ⟨hc, hd, rfl⟩ := Kq (t := .sl Bd) h
 obtain ⟨hlx0, hx⟩ := Ju hc
 obtain ⟨hly0, hy⟩ := Ju hd
 have hlx : a0.length < 1152921504606846976 := hlx0
 have hly : a1.length < 1152921504606846976 := hly0
 clear hlx0 hly0 hc hd h
 ·unfold Ps
  by_cases hl : a1.length = a0.length
  ·have c1 : (nI a0.length != nI a1.length) = false := by simp [nI, hl]
   have hL := W7 (xs := a0) (ys := a1) ([], ()) (fun x y : Stt => Mc Bd x y) (g := fun m i => B9 m a0 a1 i) (ok := .inl ()) (bad := .inr (false, ())) hl (fun m i hi => by
    show B9 (m + 1) a0 a1 i = _
    simp only [B9, Hv]
    rw [Mg hi, Fh, Mg (show i < a1.length by omega), wI (by omega)]
    simp only [cond_true, Int.toNat_natCast]
    have f1 : A2 Bd (List.getD (α := Stt) a0 i ([], ())) = true := hx _ (Kn ([], ()) hi)
    have f2 : A2 Bd (List.getD (α := Stt) a1 i ([], ())) = true := hy _ (Kn ([], ()) (by omega))
    have hE : Ht (List.getD (α := Stt) a0 i ([], ())) (List.getD (α := Stt) a1 i ([], ())) = some (Mc Bd (List.getD (α := Stt) a0 i ([], ())) (List.getD (α := Stt) a1 i ([], ()))) := by
     exact Qi (t := Bd) (x := (List.getD (α := Stt) a0 i ([], ()))) (y := (List.getD (α := Stt) a1 i ([], ()))) f1 f2
    rw [hE]
    cases q : Mc Bd (List.getD (α := Stt) a0 i ([], ())) (List.getD (α := Stt) a1 i ([], ())) <;> simp only [Option.bind_some, q] <;> rfl) (fun m => by
    show B9 (m + 1) a0 a1 a0.length = _
    simp only [B9, Hv]
    rw [Hx]
    rfl) (En a0 a1 0) 0 (by omega) (by simp [En])
   rw [c1]
   have hL' : B9 (En a0 a1 0) a0 a1 0 = _ := hL
   show (B9 (En a0 a1 0) a0 a1 0).bind _ = some ((eqL (α := Stt) (fun x y : Stt => Mc Bd x y) a0 a1, ()), ())
   rw [hL', List.drop_zero, List.drop_zero]
   cases eqL (α := Stt) (fun x y : Stt => Mc Bd x y) a0 a1 <;> rfl
  ·have c1 : (nI a0.length != nI a1.length) = true := by simp [nI]; omega
   rw [c1]
   show _ = some ((eqL (α := Stt) (fun x y : Stt => Mc Bd x y) a0 a1, ()), ())
   rw [W6 (fun q => hl q.symm)]
   rfl
noncomputable def Te {R : Type} (k : Kt R) := (Be (Hw (pa_laws_eqStateS 5) (.exit 0) 2 k) (Hw (pa_laws_eqStateS 5) .ret 1 k))
noncomputable def Yr {R : Type} : Lt R pa_laws_eqStateS := (D5 (pat := pa_laws_eqStateS) 5 (fun d k => (B9 (En d.1 d.2.1 d.2.2.1) d.1 d.2.1 d.2.2.1).bind (Te k)) Ff)
theorem Wg : Au Tryz.prog ta_laws_eqStateS := At ⟨Yp, trivial⟩
theorem Abw {R : Type} : Aw Tryz.prog R 27 0 pa_laws_eqStateS Yr co_laws_eqStateS_5 :=
 B1 (cfg := ⟨ta_laws_eqStateS, 0, 27, pa_laws_eqStateS⟩) 5 [] (fun NX X d => Hv  NX (fun e => X (.inl (e))) (fun e => X (.inr (e))) d.1 d.2.1 d.2.2.1) (fun m d => B9 m d.1 d.2.1 d.2.2.1) (fun d => En d.1 d.2.1 d.2.2.1) Te Wg trivial (fun f NX d => by unfold Hv; simp only [Aj, Ap, Ai, Option.bind_assoc, Option.bind_none, Option.bind_some]) (fun _ _ _ => by kernel_rfl)
theorem Ag2 : Bf Tryz.prog 126 sd_laws_eqStateS :=
 Ar (pat := pa_laws_eqStateS) [co_laws_eqStateS_5] Yr Wg ⟨Abw, trivial⟩ Tryz.func126 (de := fun x => Ps x.1 x.2.1) (fun x r h => A3 (Ag1 x.1 x.2.1) h) fun _ => by kernel_rfl
end Go.Proofs.YteaoabdlcefkhaaGreat.V

