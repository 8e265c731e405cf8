/- What the functions that FnExactValidWorld reaches come to: part 1. No condition. -/
import Derived.Test.YtjoiklaecelalaaQBase
import Derived.Test.YtjoiklaecelalaaTLay
import Derived.Test.YtjoiklaecelalaaProg
import Derived.Test.YtjoiklaecelalaaQS
import Derived.KernelRfl
namespace Go.Proofs.Ytjoiklaecelalaa.V
open Go Go.Proofs.Ytjoiklaecelalaa.R Go.Proofs
set_option maxRecDepth 100000
set_option linter.unusedVariables false
set_option linter.unusedSimpArgs false
def m_laws_eqStringS (a b : List ByteArray) : Option Bool := eqM (.sl .str) a b
def sg_laws_eqStringS : Sig := ⟨[.rd (.sl .str), .rd (.sl .str)], [none, none], [.rd .bool], [none]⟩
noncomputable def sd_laws_eqStringS : SD := ⟨sg_laws_eqStringS, fun x => (m_laws_eqStringS x.1 x.2.1).bind fun r => some ((r, ()), (()))⟩
noncomputable def ta_laws_eqStringS : Tb := Tb.of fun f => none
def pa_laws_eqStringS : Nat → Pat × (Nat → Pat) := fun k => if k = 5 then (⟨[.sl 0 0 .str, .sl 1 0 .str], [(0, .lf (.d (.sl .str))), (1, .lf (.d (.sl .str))), (5, .lf (.d (.int .i64)))], []⟩, fun e => if e = 1 then ⟨[], [(4, .lf (.d .bool))], []⟩ else if e = 2 then ⟨[], [], []⟩ else ⟨[], [], []⟩) else (⟨[], [], []⟩, fun _ => ⟨[], [], []⟩)
noncomputable def co_laws_eqStringS_5 : Code := (loopsIn (bodyOf Try.f111)).getD 0 .skip
def fu_laws_eqStringS_5 (v0 : List ByteArray) (v1 : List ByteArray) (v5 : Int) : Nat := ((v0.length : Int) - v5).toNat + 1
noncomputable def tr_laws_eqStringS_5 {R : Type}  (NX : ((List ByteArray) × (List ByteArray) × (Int) × Unit) → Option R) (X2 : (Unit) → Option R) (X1 : ((Bool) × Unit) → Option R) (v0 : List ByteArray) (v1 : List ByteArray) (v5 : Int) : Option R :=
  bif decide (v5 < nI (List.length v0)) then
    bif decide (0 ≤ v5) then
      bif decide (v5 < nI (List.length v0)) then
        bif decide (0 ≤ v5) then
          bif decide (v5 < nI (List.length v1)) then
            bif !ByteArray.toList (List.getD v0 (Int.toNat v5) (ByteArray.mk #[])) == ByteArray.toList (List.getD v1 (Int.toNat v5) (ByteArray.mk #[])) then X1 (false, ())
            else NX (v0, v1, IntKind.wrap IntKind.i64 (v5 + 1), ())
          else none
        else none
      else none
    else none
  else X2 PUnit.unit
noncomputable def lo_laws_eqStringS_5 : Nat → (List ByteArray) → (List ByteArray) → (Int) →  Option ((Unit) ⊕ ((Bool) × Unit))
  | 0, _, _, _ => none
  | m + 1, v0, v1, v5 => tr_laws_eqStringS_5  (fun d => lo_laws_eqStringS_5 m d.1 d.2.1 d.2.2.1) (fun d => some (.inl (d))) (fun d => some (.inr (d))) v0 v1 v5
theorem na_laws_eqStringS_5 {R S : Type}  (NX : ((List ByteArray) × (List ByteArray) × (Int) × Unit) → Option R) (X2 : (Unit) → Option R) (X1 : ((Bool) × Unit) → Option R) (v0 : List ByteArray) (v1 : List ByteArray) (v5 : Int) (f : R → Option S) : tr_laws_eqStringS_5  (fun d => (NX d).bind f) (fun d => (X2 d).bind f) (fun d => (X1 d).bind f) v0 v1 v5 = (tr_laws_eqStringS_5  NX X2 X1 v0 v1 v5).bind f := by
  unfold tr_laws_eqStringS_5
  simp only [cond_bind, ite_bind, onSum_bind, Option.bind_assoc, Option.bind_none, Option.bind_some]
noncomputable def de_laws_eqStringS (a0 : List ByteArray) (a1 : List ByteArray) : Option ((((Bool) × Unit) × (Unit))) :=
  bif nI (List.length a0) != nI (List.length a1) then some ((false, ()), ())
  else Option.bind ((fun d => lo_laws_eqStringS_5 (fu_laws_eqStringS_5 d.1 d.2.1 d.2.2.1) d.1 d.2.1 d.2.2.1) (a0, a1, 0, ())) fun val => onSum (fun val => some ((true, ()), ())) (fun val => some ((val.fst, ()), ())) val
theorem eq_laws_eqStringS (a0 : List ByteArray) (a1 : List ByteArray) r (h : m_laws_eqStringS a0 a1 = some r) : de_laws_eqStringS a0 a1 = some ((r, ()), (())) := by
  obtain ⟨hc, hd, rfl⟩ := eqM_some (t := .sl .str) h
  obtain ⟨hlx0, hx⟩ := fineB_sl hc
  obtain ⟨hly0, hy⟩ := fineB_sl hd
  have hlx : a0.length < 1152921504606846976 := hlx0
  have hly : a1.length < 1152921504606846976 := hly0
  clear hlx0 hly0 hc hd h
  · unfold de_laws_eqStringS
    by_cases hl : a1.length = a0.length
    · have c1 : (nI a0.length != nI a1.length) = false := by simp [nI, hl]
      have hL := eq_loop (xs := a0) (ys := a1) (ByteArray.mk #[]) eqS (g := fun m i => lo_laws_eqStringS_5 m a0 a1 i) (ok := .inl ()) (bad := .inr (false, ())) hl (fun m i hi => by
        show lo_laws_eqStringS_5 (m + 1) a0 a1 i = _
        simp only [lo_laws_eqStringS_5, tr_laws_eqStringS_5]
        rw [cLt hi, cLe0, cLt (show i < a1.length by omega), wI (by omega)]
        simp only [cond_true, Int.toNat_natCast]
        show (bif !(ByteArray.toList (List.getD (α := ByteArray) a0 i (ByteArray.mk #[])) == ByteArray.toList (List.getD (α := ByteArray) a1 i (ByteArray.mk #[]))) then _ else _) = bif (ByteArray.toList (List.getD (α := ByteArray) a0 i (ByteArray.mk #[])) == ByteArray.toList (List.getD (α := ByteArray) a1 i (ByteArray.mk #[]))) then _ else _
        cases (ByteArray.toList (List.getD (α := ByteArray) a0 i (ByteArray.mk #[])) == ByteArray.toList (List.getD (α := ByteArray) a1 i (ByteArray.mk #[]))) <;> rfl) (fun m => by
        show lo_laws_eqStringS_5 (m + 1) a0 a1 a0.length = _
        simp only [lo_laws_eqStringS_5, tr_laws_eqStringS_5]
        rw [cLtF]
        rfl) (fu_laws_eqStringS_5 a0 a1 0) 0 (by omega) (by simp [fu_laws_eqStringS_5])
      rw [c1]
      have hL' : lo_laws_eqStringS_5 (fu_laws_eqStringS_5 a0 a1 0) a0 a1 0 = _ := hL
      show (lo_laws_eqStringS_5 (fu_laws_eqStringS_5 a0 a1 0) a0 a1 0).bind _ = some ((eqL (α := ByteArray) eqS a0 a1, ()), ())
      rw [hL', List.drop_zero, List.drop_zero]
      cases eqL (α := ByteArray) eqS a0 a1 <;> rfl
    · have c1 : (nI a0.length != nI a1.length) = true := by simp [nI]; omega
      rw [c1]
      show _ = some ((eqL (α := ByteArray) eqS a0 a1, ()), ())
      rw [eqL_len (fun q => hl q.symm)]
      rfl
noncomputable def ou_laws_eqStringS_5 {R : Type} (k : Kt R) : ((Unit) ⊕ ((Bool) × Unit)) → Option R := (onSum (fun d => k (.exit 0) (((pa_laws_eqStringS 5).2 2).st d) (((pa_laws_eqStringS 5).2 2).nid)) (fun d => k .ret (((pa_laws_eqStringS 5).2 1).st d) (((pa_laws_eqStringS 5).2 1).nid)))
noncomputable def L_laws_eqStringS {R : Type} : Lt R pa_laws_eqStringS := (addL (pat := pa_laws_eqStringS) 5 (fun d k => (lo_laws_eqStringS_5 (fu_laws_eqStringS_5 d.1 d.2.1 d.2.2.1) d.1 d.2.1 d.2.2.1).bind (ou_laws_eqStringS_5 k)) noL)
theorem rd_laws_eqStringS_5 {R : Type} (nx : (pa_laws_eqStringS 5).1.D → Kt R → Option R) (k : Kt R) (v0 : List ByteArray) (v1 : List ByteArray) (v5 : Int) : ev Try.prog ⟨ta_laws_eqStringS, 0, 26, pa_laws_eqStringS⟩ L_laws_eqStringS co_laws_eqStringS_5 ((pa_laws_eqStringS 5).1.st (v0, v1, v5, ())) (pa_laws_eqStringS 5).1.nid (roundK 0 (pa_laws_eqStringS 5) nx k) = tr_laws_eqStringS_5  (fun d => nx d k) (fun d => k (.exit 0) (((pa_laws_eqStringS 5).2 2).st d) (((pa_laws_eqStringS 5).2 2).nid)) (fun d => k .ret (((pa_laws_eqStringS 5).2 1).st d) (((pa_laws_eqStringS 5).2 1).nid)) v0 v1 v5 := by kernel_rfl
theorem lp_laws_eqStringS_5 {R : Type} : ∀ (m : Nat) (d : (pa_laws_eqStringS 5).1.D) (k : Kt R), loopN 0 (pa_laws_eqStringS 5) (fun s nid k => ev Try.prog ⟨ta_laws_eqStringS, 0, 26, pa_laws_eqStringS⟩ L_laws_eqStringS co_laws_eqStringS_5 s nid k) m d k = (lo_laws_eqStringS_5 m d.1 d.2.1 d.2.2.1).bind (ou_laws_eqStringS_5 k)
  | 0, _, _ => rfl
  | m + 1, ⟨v0, v1, v5, ⟨⟩⟩, k => (rd_laws_eqStringS_5 _ k v0 v1 v5).trans ((congrArg (fun F => tr_laws_eqStringS_5  F (fun d => k (.exit 0) (((pa_laws_eqStringS 5).2 2).st d) (((pa_laws_eqStringS 5).2 2).nid)) (fun d => k .ret (((pa_laws_eqStringS 5).2 1).st d) (((pa_laws_eqStringS 5).2 1).nid)) v0 v1 v5) (funext fun d => lp_laws_eqStringS_5 m d k)).trans (na_laws_eqStringS_5 (f := ou_laws_eqStringS_5 k)  (fun d => lo_laws_eqStringS_5 m d.1 d.2.1 d.2.2.1) (fun d => some (.inl (d))) (fun d => some (.inr (d))) v0 v1 v5))
theorem en_laws_eqStringS (a0 : List ByteArray) (a1 : List ByteArray) : evalF Try.prog ta_laws_eqStringS pa_laws_eqStringS sg_laws_eqStringS Try.f111 L_laws_eqStringS (a0, a1, ()) = de_laws_eqStringS a0 a1 := by kernel_rfl
theorem si_laws_eqStringS : SigsOk Try.prog ta_laws_eqStringS := SigsOk.of fun f sd h => by
  try dsimp only [Tb.of, ta_laws_eqStringS] at h
  cases h
theorem lk_laws_eqStringS_5 {R : Type} : LoopOk Try.prog R 26 0 pa_laws_eqStringS L_laws_eqStringS co_laws_eqStringS_5 :=
  loop_key (cfg := ⟨ta_laws_eqStringS, 0, 26, pa_laws_eqStringS⟩) (key := 5) (by kernel_rfl) (by kernel_rfl) si_laws_eqStringS rfl rfl (fun d k r h => ⟨fu_laws_eqStringS_5 d.1 d.2.1 d.2.2.1, (lp_laws_eqStringS_5 _ d k).trans h⟩) (fun c hc => by rw [show loopsIn co_laws_eqStringS_5 = [] from by kernel_rfl] at hc; cases hc)
theorem sn_laws_eqStringS : Callable Try.prog 111 ∧ Sound Try.prog 111 sd_laws_eqStringS.sg sd_laws_eqStringS.den :=
  fn_loops (pat := pa_laws_eqStringS) L_laws_eqStringS (by kernel_rfl) si_laws_eqStringS Try.func111 (by kernel_rfl) (by kernel_rfl) (fun c hc => by rw [show loopsIn (bodyOf Try.f111) = [co_laws_eqStringS_5] from by kernel_rfl] at hc; simp only [List.mem_cons, List.not_mem_nil, or_false] at hc; rcases hc with rfl <;> first | exact lk_laws_eqStringS_5) fun x r h => by
    obtain ⟨a0, a1, ⟨⟩⟩ := x; obtain ⟨y, h1, h2⟩ := Option.bind_eq_some_iff.1 (show (m_laws_eqStringS a0 a1).bind (fun r => some ((r, ()), (()))) = some r from h); cases h2; exact (en_laws_eqStringS a0 a1).trans (eq_laws_eqStringS a0 a1 _ h1)
def m_laws_eqWrite (a b : Int × ByteArray × Unit) : Option Bool := eqM (.pair (.int .i64) (.pair .str .unit)) a b
def sg_laws_eqWrite : Sig := ⟨[.rd (.pair (.int .i64) (.pair .str .unit)), .rd (.pair (.int .i64) (.pair .str .unit))], [some 2, some 2], [.rd .bool], [none]⟩
noncomputable def sd_laws_eqWrite : SD := ⟨sg_laws_eqWrite, fun x => (m_laws_eqWrite x.1 x.2.1).bind fun r => some ((r, ()), (()))⟩
noncomputable def ta_laws_eqWrite : Tb := Tb.of fun f => none
def pa_laws_eqWrite : Nat → Pat × (Nat → Pat) := fun k => (⟨[], [], []⟩, fun _ => ⟨[], [], []⟩)
noncomputable def de_laws_eqWrite (a0 : Int × ByteArray × Unit) (a1 : Int × ByteArray × Unit) : Option ((((Bool) × Unit) × (Unit))) :=
  bif a0.fst != a1.fst then some ((false, ()), ()) else bif !ByteArray.toList a0.snd.fst == ByteArray.toList a1.snd.fst then some ((false, ()), ()) else some ((true, ()), ())
theorem eq_laws_eqWrite (a0 : Int × ByteArray × Unit) (a1 : Int × ByteArray × Unit) r (h : m_laws_eqWrite a0 a1 = some r) : de_laws_eqWrite a0 a1 = some ((r, ()), (())) := by
  obtain ⟨hc, hd, rfl⟩ := eqM_some (t := (.pair (.int .i64) (.pair .str .unit))) h
  obtain ⟨hc0, hc1, _⟩ : fineB (.int .i64) a0.1 = true ∧ fineB .str a0.2.1 = true ∧ True := by
    have s := hc
    obtain ⟨h0, s⟩ := fineB_pair s
    obtain ⟨h1, s⟩ := fineB_pair s
    exact ⟨h0, h1, trivial⟩
  obtain ⟨hd0, hd1, _⟩ : fineB (.int .i64) a1.1 = true ∧ fineB .str a1.2.1 = true ∧ True := by
    have s := hd
    obtain ⟨h0, s⟩ := fineB_pair s
    obtain ⟨h1, s⟩ := fineB_pair s
    exact ⟨h0, h1, trivial⟩
  unfold de_laws_eqWrite
  have e0 : (a0.1 != a1.1) = !eqI a0.1 a1.1 := bneI _ _
  have e1 : (!(ByteArray.toList a0.2.1 == ByteArray.toList a1.2.1)) = !eqS a0.2.1 a1.2.1 := rfl
  simp only [e0, e1, Option.bind_some]
  show _ = some (((eqI a0.1 a1.1 && (eqS a0.2.1 a1.2.1 && true)), ()), ())
  generalize eqI a0.1 a1.1 = p0
  generalize eqS a0.2.1 a1.2.1 = p1
  cases p0 <;> cases p1 <;> rfl
theorem en_laws_eqWrite (a0 : Int × ByteArray × Unit) (a1 : Int × ByteArray × Unit) : evalF Try.prog ta_laws_eqWrite pa_laws_eqWrite sg_laws_eqWrite Try.f179 noL (a0, a1, ()) = de_laws_eqWrite a0 a1 := by kernel_rfl
theorem si_laws_eqWrite : SigsOk Try.prog ta_laws_eqWrite := SigsOk.of fun f sd h => by
  try dsimp only [Tb.of, ta_laws_eqWrite] at h
  cases h
theorem sn_laws_eqWrite : Callable Try.prog 179 ∧ Sound Try.prog 179 sd_laws_eqWrite.sg sd_laws_eqWrite.den :=
  fn_plain (pat := pa_laws_eqWrite) (by kernel_rfl) si_laws_eqWrite Try.func179 (by kernel_rfl) (by kernel_rfl) (by kernel_rfl) fun x r h => by
    obtain ⟨a0, a1, ⟨⟩⟩ := x; obtain ⟨y, h1, h2⟩ := Option.bind_eq_some_iff.1 (show (m_laws_eqWrite a0 a1).bind (fun r => some ((r, ()), (()))) = some r from h); cases h2; exact (en_laws_eqWrite a0 a1).trans (eq_laws_eqWrite a0 a1 _ h1)
def m_laws_eqWriteS (a b : List (Int × ByteArray × Unit)) : Option Bool := eqM (.sl (.pair (.int .i64) (.pair .str .unit))) a b
def sg_laws_eqWriteS : Sig := ⟨[.rd (.sl (.pair (.int .i64) (.pair .str .unit))), .rd (.sl (.pair (.int .i64) (.pair .str .unit)))], [none, none], [.rd .bool], [none]⟩
noncomputable def sd_laws_eqWriteS : SD := ⟨sg_laws_eqWriteS, fun x => (m_laws_eqWriteS x.1 x.2.1).bind fun r => some ((r, ()), (()))⟩
noncomputable def ta_laws_eqWriteS : Tb := Tb.of fun f => if f = 179 then some sd_laws_eqWrite else none
def pa_laws_eqWriteS : Nat → Pat × (Nat → Pat) := fun k => if k = 5 then (⟨[.sl 0 0 (.pair (.int .i64) (.pair .str .unit)), .sl 1 0 (.pair (.int .i64) (.pair .str .unit))], [(0, .lf (.d (.sl (.pair (.int .i64) (.pair .str .unit))))), (1, .lf (.d (.sl (.pair (.int .i64) (.pair .str .unit))))), (5, .lf (.d (.int .i64)))], []⟩, fun e => if e = 1 then ⟨[], [(4, .lf (.d .bool))], []⟩ else if e = 2 then ⟨[], [], []⟩ else ⟨[], [], []⟩) else (⟨[], [], []⟩, fun _ => ⟨[], [], []⟩)
noncomputable def co_laws_eqWriteS_5 : Code := (loopsIn (bodyOf Try.f112)).getD 0 .skip
def fu_laws_eqWriteS_5 (v0 : List (Int × ByteArray × Unit)) (v1 : List (Int × ByteArray × Unit)) (v5 : Int) : Nat := ((v0.length : Int) - v5).toNat + 1
noncomputable def tr_laws_eqWriteS_5 {R : Type}  (NX : ((List (Int × ByteArray × Unit)) × (List (Int × ByteArray × Unit)) × (Int) × Unit) → Option R) (X2 : (Unit) → Option R) (X1 : ((Bool) × Unit) → Option R) (v0 : List (Int × ByteArray × Unit)) (v1 : List (Int × ByteArray × Unit)) (v5 : Int) : Option R :=
  bif decide (v5 < nI (List.length v0)) then
    bif decide (0 ≤ v5) then
      bif decide (v5 < nI (List.length v0)) then
        bif decide (0 ≤ v5) then
          bif decide (v5 < nI (List.length v1)) then
            Option.bind
              (Option.bind
                (m_laws_eqWrite ((List.getD v0 (Int.toNat v5) (0, ByteArray.mk #[], ())).fst, (List.getD v0 (Int.toNat v5) (0, ByteArray.mk #[], ())).snd.fst, ())
                  ((List.getD v1 (Int.toNat v5) (0, ByteArray.mk #[], ())).fst, (List.getD v1 (Int.toNat v5) (0, ByteArray.mk #[], ())).snd.fst, ()))
                fun val => some ((val, ()), ()))
              fun val => bif !val.fst.fst then X1 (false, ()) else NX (v0, v1, IntKind.wrap IntKind.i64 (v5 + 1), ())
          else none
        else none
      else none
    else none
  else X2 PUnit.unit
noncomputable def lo_laws_eqWriteS_5 : Nat → (List (Int × ByteArray × Unit)) → (List (Int × ByteArray × Unit)) → (Int) →  Option ((Unit) ⊕ ((Bool) × Unit))
  | 0, _, _, _ => none
  | m + 1, v0, v1, v5 => tr_laws_eqWriteS_5  (fun d => lo_laws_eqWriteS_5 m d.1 d.2.1 d.2.2.1) (fun d => some (.inl (d))) (fun d => some (.inr (d))) v0 v1 v5
theorem na_laws_eqWriteS_5 {R S : Type}  (NX : ((List (Int × ByteArray × Unit)) × (List (Int × ByteArray × Unit)) × (Int) × Unit) → Option R) (X2 : (Unit) → Option R) (X1 : ((Bool) × Unit) → Option R) (v0 : List (Int × ByteArray × Unit)) (v1 : List (Int × ByteArray × Unit)) (v5 : Int) (f : R → Option S) : tr_laws_eqWriteS_5  (fun d => (NX d).bind f) (fun d => (X2 d).bind f) (fun d => (X1 d).bind f) v0 v1 v5 = (tr_laws_eqWriteS_5  NX X2 X1 v0 v1 v5).bind f := by
  unfold tr_laws_eqWriteS_5
  simp only [cond_bind, ite_bind, onSum_bind, Option.bind_assoc, Option.bind_none, Option.bind_some]
noncomputable def de_laws_eqWriteS (a0 : List (Int × ByteArray × Unit)) (a1 : List (Int × ByteArray × Unit)) : Option ((((Bool) × Unit) × (Unit))) :=
  bif nI (List.length a0) != nI (List.length a1) then some ((false, ()), ())
  else Option.bind ((fun d => lo_laws_eqWriteS_5 (fu_laws_eqWriteS_5 d.1 d.2.1 d.2.2.1) d.1 d.2.1 d.2.2.1) (a0, a1, 0, ())) fun val => onSum (fun val => some ((true, ()), ())) (fun val => some ((val.fst, ()), ())) val
theorem eq_laws_eqWriteS (a0 : List (Int × ByteArray × Unit)) (a1 : List (Int × ByteArray × Unit)) r (h : m_laws_eqWriteS a0 a1 = some r) : de_laws_eqWriteS a0 a1 = some ((r, ()), (())) := by
  obtain ⟨hc, hd, rfl⟩ := eqM_some (t := .sl (.pair (.int .i64) (.pair .str .unit))) h
  obtain ⟨hlx0, hx⟩ := fineB_sl hc
  obtain ⟨hly0, hy⟩ := fineB_sl hd
  have hlx : a0.length < 1152921504606846976 := hlx0
  have hly : a1.length < 1152921504606846976 := hly0
  clear hlx0 hly0 hc hd h
  · unfold de_laws_eqWriteS
    by_cases hl : a1.length = a0.length
    · have c1 : (nI a0.length != nI a1.length) = false := by simp [nI, hl]
      have hL := eq_loop (xs := a0) (ys := a1) (0, (ByteArray.mk #[]), ()) (fun x y : Int × ByteArray × Unit => eqB (.pair (.int .i64) (.pair .str .unit)) x y) (g := fun m i => lo_laws_eqWriteS_5 m a0 a1 i) (ok := .inl ()) (bad := .inr (false, ())) hl (fun m i hi => by
        show lo_laws_eqWriteS_5 (m + 1) a0 a1 i = _
        simp only [lo_laws_eqWriteS_5, tr_laws_eqWriteS_5]
        rw [cLt hi, cLe0, cLt (show i < a1.length by omega), wI (by omega)]
        simp only [cond_true, Int.toNat_natCast]
        have f1 : fineB (.pair (.int .i64) (.pair .str .unit)) (List.getD (α := Int × ByteArray × Unit) a0 i (0, (ByteArray.mk #[]), ())) = true := hx _ (getD_mem (0, (ByteArray.mk #[]), ()) hi)
        have f2 : fineB (.pair (.int .i64) (.pair .str .unit)) (List.getD (α := Int × ByteArray × Unit) a1 i (0, (ByteArray.mk #[]), ())) = true := hy _ (getD_mem (0, (ByteArray.mk #[]), ()) (by omega))
        have hE : m_laws_eqWrite ((List.getD (α := Int × ByteArray × Unit) a0 i (0, (ByteArray.mk #[]), ())).fst, (List.getD (α := Int × ByteArray × Unit) a0 i (0, (ByteArray.mk #[]), ())).snd.fst, ()) ((List.getD (α := Int × ByteArray × Unit) a1 i (0, (ByteArray.mk #[]), ())).fst, (List.getD (α := Int × ByteArray × Unit) a1 i (0, (ByteArray.mk #[]), ())).snd.fst, ()) = some (eqB (.pair (.int .i64) (.pair .str .unit)) (List.getD (α := Int × ByteArray × Unit) a0 i (0, (ByteArray.mk #[]), ())) (List.getD (α := Int × ByteArray × Unit) a1 i (0, (ByteArray.mk #[]), ()))) := by
          exact eqM_is (t := (.pair (.int .i64) (.pair .str .unit))) (x := (List.getD (α := Int × ByteArray × Unit) a0 i (0, (ByteArray.mk #[]), ()))) (y := (List.getD (α := Int × ByteArray × Unit) a1 i (0, (ByteArray.mk #[]), ()))) f1 f2
        rw [hE]
        cases q : eqB (.pair (.int .i64) (.pair .str .unit)) (List.getD (α := Int × ByteArray × Unit) a0 i (0, (ByteArray.mk #[]), ())) (List.getD (α := Int × ByteArray × Unit) a1 i (0, (ByteArray.mk #[]), ())) <;> simp only [Option.bind_some, q] <;> rfl) (fun m => by
        show lo_laws_eqWriteS_5 (m + 1) a0 a1 a0.length = _
        simp only [lo_laws_eqWriteS_5, tr_laws_eqWriteS_5]
        rw [cLtF]
        rfl) (fu_laws_eqWriteS_5 a0 a1 0) 0 (by omega) (by simp [fu_laws_eqWriteS_5])
      rw [c1]
      have hL' : lo_laws_eqWriteS_5 (fu_laws_eqWriteS_5 a0 a1 0) a0 a1 0 = _ := hL
      show (lo_laws_eqWriteS_5 (fu_laws_eqWriteS_5 a0 a1 0) a0 a1 0).bind _ = some ((eqL (α := Int × ByteArray × Unit) (fun x y : Int × ByteArray × Unit => eqB (.pair (.int .i64) (.pair .str .unit)) x y) a0 a1, ()), ())
      rw [hL', List.drop_zero, List.drop_zero]
      cases eqL (α := Int × ByteArray × Unit) (fun x y : Int × ByteArray × Unit => eqB (.pair (.int .i64) (.pair .str .unit)) x y) a0 a1 <;> rfl
    · have c1 : (nI a0.length != nI a1.length) = true := by simp [nI]; omega
      rw [c1]
      show _ = some ((eqL (α := Int × ByteArray × Unit) (fun x y : Int × ByteArray × Unit => eqB (.pair (.int .i64) (.pair .str .unit)) x y) a0 a1, ()), ())
      rw [eqL_len (fun q => hl q.symm)]
      rfl
noncomputable def ou_laws_eqWriteS_5 {R : Type} (k : Kt R) : ((Unit) ⊕ ((Bool) × Unit)) → Option R := (onSum (fun d => k (.exit 0) (((pa_laws_eqWriteS 5).2 2).st d) (((pa_laws_eqWriteS 5).2 2).nid)) (fun d => k .ret (((pa_laws_eqWriteS 5).2 1).st d) (((pa_laws_eqWriteS 5).2 1).nid)))
noncomputable def L_laws_eqWriteS {R : Type} : Lt R pa_laws_eqWriteS := (addL (pat := pa_laws_eqWriteS) 5 (fun d k => (lo_laws_eqWriteS_5 (fu_laws_eqWriteS_5 d.1 d.2.1 d.2.2.1) d.1 d.2.1 d.2.2.1).bind (ou_laws_eqWriteS_5 k)) noL)
theorem rd_laws_eqWriteS_5 {R : Type} (nx : (pa_laws_eqWriteS 5).1.D → Kt R → Option R) (k : Kt R) (v0 : List (Int × ByteArray × Unit)) (v1 : List (Int × ByteArray × Unit)) (v5 : Int) : ev Try.prog ⟨ta_laws_eqWriteS, 0, 27, pa_laws_eqWriteS⟩ L_laws_eqWriteS co_laws_eqWriteS_5 ((pa_laws_eqWriteS 5).1.st (v0, v1, v5, ())) (pa_laws_eqWriteS 5).1.nid (roundK 0 (pa_laws_eqWriteS 5) nx k) = tr_laws_eqWriteS_5  (fun d => nx d k) (fun d => k (.exit 0) (((pa_laws_eqWriteS 5).2 2).st d) (((pa_laws_eqWriteS 5).2 2).nid)) (fun d => k .ret (((pa_laws_eqWriteS 5).2 1).st d) (((pa_laws_eqWriteS 5).2 1).nid)) v0 v1 v5 := by kernel_rfl
theorem lp_laws_eqWriteS_5 {R : Type} : ∀ (m : Nat) (d : (pa_laws_eqWriteS 5).1.D) (k : Kt R), loopN 0 (pa_laws_eqWriteS 5) (fun s nid k => ev Try.prog ⟨ta_laws_eqWriteS, 0, 27, pa_laws_eqWriteS⟩ L_laws_eqWriteS co_laws_eqWriteS_5 s nid k) m d k = (lo_laws_eqWriteS_5 m d.1 d.2.1 d.2.2.1).bind (ou_laws_eqWriteS_5 k)
  | 0, _, _ => rfl
  | m + 1, ⟨v0, v1, v5, ⟨⟩⟩, k => (rd_laws_eqWriteS_5 _ k v0 v1 v5).trans ((congrArg (fun F => tr_laws_eqWriteS_5  F (fun d => k (.exit 0) (((pa_laws_eqWriteS 5).2 2).st d) (((pa_laws_eqWriteS 5).2 2).nid)) (fun d => k .ret (((pa_laws_eqWriteS 5).2 1).st d) (((pa_laws_eqWriteS 5).2 1).nid)) v0 v1 v5) (funext fun d => lp_laws_eqWriteS_5 m d k)).trans (na_laws_eqWriteS_5 (f := ou_laws_eqWriteS_5 k)  (fun d => lo_laws_eqWriteS_5 m d.1 d.2.1 d.2.2.1) (fun d => some (.inl (d))) (fun d => some (.inr (d))) v0 v1 v5))
theorem en_laws_eqWriteS (a0 : List (Int × ByteArray × Unit)) (a1 : List (Int × ByteArray × Unit)) : evalF Try.prog ta_laws_eqWriteS pa_laws_eqWriteS sg_laws_eqWriteS Try.f112 L_laws_eqWriteS (a0, a1, ()) = de_laws_eqWriteS a0 a1 := by kernel_rfl
theorem si_laws_eqWriteS : SigsOk Try.prog ta_laws_eqWriteS := SigsOk.of fun f sd h => by
  try dsimp only [Tb.of, ta_laws_eqWriteS] at h
  split at h
  · rename_i e; subst e; cases h; exact sn_laws_eqWrite
  cases h
theorem lk_laws_eqWriteS_5 {R : Type} : LoopOk Try.prog R 27 0 pa_laws_eqWriteS L_laws_eqWriteS co_laws_eqWriteS_5 :=
  loop_key (cfg := ⟨ta_laws_eqWriteS, 0, 27, pa_laws_eqWriteS⟩) (key := 5) (by kernel_rfl) (by kernel_rfl) si_laws_eqWriteS rfl rfl (fun d k r h => ⟨fu_laws_eqWriteS_5 d.1 d.2.1 d.2.2.1, (lp_laws_eqWriteS_5 _ d k).trans h⟩) (fun c hc => by rw [show loopsIn co_laws_eqWriteS_5 = [] from by kernel_rfl] at hc; cases hc)
theorem sn_laws_eqWriteS : Callable Try.prog 112 ∧ Sound Try.prog 112 sd_laws_eqWriteS.sg sd_laws_eqWriteS.den :=
  fn_loops (pat := pa_laws_eqWriteS) L_laws_eqWriteS (by kernel_rfl) si_laws_eqWriteS Try.func112 (by kernel_rfl) (by kernel_rfl) (fun c hc => by rw [show loopsIn (bodyOf Try.f112) = [co_laws_eqWriteS_5] from by kernel_rfl] at hc; simp only [List.mem_cons, List.not_mem_nil, or_false] at hc; rcases hc with rfl <;> first | exact lk_laws_eqWriteS_5) fun x r h => by
    obtain ⟨a0, a1, ⟨⟩⟩ := x; obtain ⟨y, h1, h2⟩ := Option.bind_eq_some_iff.1 (show (m_laws_eqWriteS a0 a1).bind (fun r => some ((r, ()), (()))) = some r from h); cases h2; exact (en_laws_eqWriteS a0 a1).trans (eq_laws_eqWriteS a0 a1 _ h1)
def m_laws_eqDisk (a b : (List ByteArray) × (List (Int × ByteArray × Unit)) × Unit) : Option Bool := eqM (.pair (.sl .str) (.pair (.sl (.pair (.int .i64) (.pair .str .unit))) .unit)) a b
def sg_laws_eqDisk : Sig := ⟨[.rd (.pair (.sl .str) (.pair (.sl (.pair (.int .i64) (.pair .str .unit))) .unit)), .rd (.pair (.sl .str) (.pair (.sl (.pair (.int .i64) (.pair .str .unit))) .unit))], [some 2, some 2], [.rd .bool], [none]⟩
noncomputable def sd_laws_eqDisk : SD := ⟨sg_laws_eqDisk, fun x => (m_laws_eqDisk x.1 x.2.1).bind fun r => some ((r, ()), (()))⟩
noncomputable def ta_laws_eqDisk : Tb := Tb.of fun f => if f = 111 then some sd_laws_eqStringS else if f = 112 then some sd_laws_eqWriteS else none
def pa_laws_eqDisk : Nat → Pat × (Nat → Pat) := fun k => (⟨[], [], []⟩, fun _ => ⟨[], [], []⟩)
noncomputable def de_laws_eqDisk (a0 : (List ByteArray) × (List (Int × ByteArray × Unit)) × Unit) (a1 : (List ByteArray) × (List (Int × ByteArray × Unit)) × Unit) : Option ((((Bool) × Unit) × (Unit))) :=
  Option.bind (Option.bind (m_laws_eqStringS a0.fst a1.fst) fun val => some ((val, ()), ())) fun val =>
    bif !val.fst.fst then some ((false, ()), ())
    else Option.bind (Option.bind (m_laws_eqWriteS a0.snd.fst a1.snd.fst) fun val => some ((val, ()), ())) fun val => bif !val.fst.fst then some ((false, ()), ()) else some ((true, ()), ())
theorem eq_laws_eqDisk (a0 : (List ByteArray) × (List (Int × ByteArray × Unit)) × Unit) (a1 : (List ByteArray) × (List (Int × ByteArray × Unit)) × Unit) r (h : m_laws_eqDisk a0 a1 = some r) : de_laws_eqDisk a0 a1 = some ((r, ()), (())) := by
  obtain ⟨hc, hd, rfl⟩ := eqM_some (t := (.pair (.sl .str) (.pair (.sl (.pair (.int .i64) (.pair .str .unit))) .unit))) h
  obtain ⟨hc0, hc1, _⟩ : fineB (.sl .str) a0.1 = true ∧ fineB (.sl (.pair (.int .i64) (.pair .str .unit))) a0.2.1 = true ∧ True := by
    have s := hc
    obtain ⟨h0, s⟩ := fineB_pair s
    obtain ⟨h1, s⟩ := fineB_pair s
    exact ⟨h0, h1, trivial⟩
  obtain ⟨hd0, hd1, _⟩ : fineB (.sl .str) a1.1 = true ∧ fineB (.sl (.pair (.int .i64) (.pair .str .unit))) a1.2.1 = true ∧ True := by
    have s := hd
    obtain ⟨h0, s⟩ := fineB_pair s
    obtain ⟨h1, s⟩ := fineB_pair s
    exact ⟨h0, h1, trivial⟩
  unfold de_laws_eqDisk
  have e0 : m_laws_eqStringS a0.1 a1.1 = some (eqB (.sl .str) a0.1 a1.1) := eqM_is (t := (.sl .str)) hc0 hd0
  have e1 : m_laws_eqWriteS a0.2.1 a1.2.1 = some (eqB (.sl (.pair (.int .i64) (.pair .str .unit))) a0.2.1 a1.2.1) := eqM_is (t := (.sl (.pair (.int .i64) (.pair .str .unit)))) hc1 hd1
  simp only [e0, e1, Option.bind_some]
  show _ = some (((eqB (.sl .str) a0.1 a1.1 && (eqB (.sl (.pair (.int .i64) (.pair .str .unit))) a0.2.1 a1.2.1 && true)), ()), ())
  generalize eqB (.sl .str) a0.1 a1.1 = p0
  generalize eqB (.sl (.pair (.int .i64) (.pair .str .unit))) a0.2.1 a1.2.1 = p1
  cases p0 <;> cases p1 <;> rfl
theorem en_laws_eqDisk (a0 : (List ByteArray) × (List (Int × ByteArray × Unit)) × Unit) (a1 : (List ByteArray) × (List (Int × ByteArray × Unit)) × Unit) : evalF Try.prog ta_laws_eqDisk pa_laws_eqDisk sg_laws_eqDisk Try.f32 noL (a0, a1, ()) = de_laws_eqDisk a0 a1 := by kernel_rfl
theorem si_laws_eqDisk : SigsOk Try.prog ta_laws_eqDisk := SigsOk.of fun f sd h => by
  try dsimp only [Tb.of, ta_laws_eqDisk] at h
  split at h
  · rename_i e; subst e; cases h; exact sn_laws_eqStringS
  split at h
  · rename_i e; subst e; cases h; exact sn_laws_eqWriteS
  cases h
theorem sn_laws_eqDisk : Callable Try.prog 32 ∧ Sound Try.prog 32 sd_laws_eqDisk.sg sd_laws_eqDisk.den :=
  fn_plain (pat := pa_laws_eqDisk) (by kernel_rfl) si_laws_eqDisk Try.func32 (by kernel_rfl) (by kernel_rfl) (by kernel_rfl) fun x r h => by
    obtain ⟨a0, a1, ⟨⟩⟩ := x; obtain ⟨y, h1, h2⟩ := Option.bind_eq_some_iff.1 (show (m_laws_eqDisk a0 a1).bind (fun r => some ((r, ()), (()))) = some r from h); cases h2; exact (en_laws_eqDisk a0 a1).trans (eq_laws_eqDisk a0 a1 _ h1)
def m_laws_eqPair (a b : ByteArray × ByteArray × Unit) : Option Bool := eqM (.pair .str (.pair .str .unit)) a b
def sg_laws_eqPair : Sig := ⟨[.rd (.pair .str (.pair .str .unit)), .rd (.pair .str (.pair .str .unit))], [some 2, some 2], [.rd .bool], [none]⟩
noncomputable def sd_laws_eqPair : SD := ⟨sg_laws_eqPair, fun x => (m_laws_eqPair x.1 x.2.1).bind fun r => some ((r, ()), (()))⟩
noncomputable def ta_laws_eqPair : Tb := Tb.of fun f => none
def pa_laws_eqPair : Nat → Pat × (Nat → Pat) := fun k => (⟨[], [], []⟩, fun _ => ⟨[], [], []⟩)
noncomputable def de_laws_eqPair (a0 : ByteArray × ByteArray × Unit) (a1 : ByteArray × ByteArray × Unit) : Option ((((Bool) × Unit) × (Unit))) :=
  bif !ByteArray.toList a0.fst == ByteArray.toList a1.fst then some ((false, ()), ())
  else bif !ByteArray.toList a0.snd.fst == ByteArray.toList a1.snd.fst then some ((false, ()), ()) else some ((true, ()), ())
theorem eq_laws_eqPair (a0 : ByteArray × ByteArray × Unit) (a1 : ByteArray × ByteArray × Unit) r (h : m_laws_eqPair a0 a1 = some r) : de_laws_eqPair a0 a1 = some ((r, ()), (())) := by
  obtain ⟨hc, hd, rfl⟩ := eqM_some (t := (.pair .str (.pair .str .unit))) h
  obtain ⟨hc0, hc1, _⟩ : fineB .str a0.1 = true ∧ fineB .str a0.2.1 = true ∧ True := by
    have s := hc
    obtain ⟨h0, s⟩ := fineB_pair s
    obtain ⟨h1, s⟩ := fineB_pair s
    exact ⟨h0, h1, trivial⟩
  obtain ⟨hd0, hd1, _⟩ : fineB .str a1.1 = true ∧ fineB .str a1.2.1 = true ∧ True := by
    have s := hd
    obtain ⟨h0, s⟩ := fineB_pair s
    obtain ⟨h1, s⟩ := fineB_pair s
    exact ⟨h0, h1, trivial⟩
  unfold de_laws_eqPair
  have e0 : (!(ByteArray.toList a0.1 == ByteArray.toList a1.1)) = !eqS a0.1 a1.1 := rfl
  have e1 : (!(ByteArray.toList a0.2.1 == ByteArray.toList a1.2.1)) = !eqS a0.2.1 a1.2.1 := rfl
  simp only [e0, e1, Option.bind_some]
  show _ = some (((eqS a0.1 a1.1 && (eqS a0.2.1 a1.2.1 && true)), ()), ())
  generalize eqS a0.1 a1.1 = p0
  generalize eqS a0.2.1 a1.2.1 = p1
  cases p0 <;> cases p1 <;> rfl
theorem en_laws_eqPair (a0 : ByteArray × ByteArray × Unit) (a1 : ByteArray × ByteArray × Unit) : evalF Try.prog ta_laws_eqPair pa_laws_eqPair sg_laws_eqPair Try.f176 noL (a0, a1, ()) = de_laws_eqPair a0 a1 := by kernel_rfl
theorem si_laws_eqPair : SigsOk Try.prog ta_laws_eqPair := SigsOk.of fun f sd h => by
  try dsimp only [Tb.of, ta_laws_eqPair] at h
  cases h
theorem sn_laws_eqPair : Callable Try.prog 176 ∧ Sound Try.prog 176 sd_laws_eqPair.sg sd_laws_eqPair.den :=
  fn_plain (pat := pa_laws_eqPair) (by kernel_rfl) si_laws_eqPair Try.func176 (by kernel_rfl) (by kernel_rfl) (by kernel_rfl) fun x r h => by
    obtain ⟨a0, a1, ⟨⟩⟩ := x; obtain ⟨y, h1, h2⟩ := Option.bind_eq_some_iff.1 (show (m_laws_eqPair a0 a1).bind (fun r => some ((r, ()), (()))) = some r from h); cases h2; exact (en_laws_eqPair a0 a1).trans (eq_laws_eqPair a0 a1 _ h1)
def m_laws_eqPairS (a b : List (ByteArray × ByteArray × Unit)) : Option Bool := eqM (.sl (.pair .str (.pair .str .unit))) a b
def sg_laws_eqPairS : Sig := ⟨[.rd (.sl (.pair .str (.pair .str .unit))), .rd (.sl (.pair .str (.pair .str .unit)))], [none, none], [.rd .bool], [none]⟩
noncomputable def sd_laws_eqPairS : SD := ⟨sg_laws_eqPairS, fun x => (m_laws_eqPairS x.1 x.2.1).bind fun r => some ((r, ()), (()))⟩
noncomputable def ta_laws_eqPairS : Tb := Tb.of fun f => if f = 176 then some sd_laws_eqPair else none
def pa_laws_eqPairS : Nat → Pat × (Nat → Pat) := fun k => if k = 5 then (⟨[.sl 0 0 (.pair .str (.pair .str .unit)), .sl 1 0 (.pair .str (.pair .str .unit))], [(0, .lf (.d (.sl (.pair .str (.pair .str .unit))))), (1, .lf (.d (.sl (.pair .str (.pair .str .unit))))), (5, .lf (.d (.int .i64)))], []⟩, fun e => if e = 1 then ⟨[], [(4, .lf (.d .bool))], []⟩ else if e = 2 then ⟨[], [], []⟩ else ⟨[], [], []⟩) else (⟨[], [], []⟩, fun _ => ⟨[], [], []⟩)
noncomputable def co_laws_eqPairS_5 : Code := (loopsIn (bodyOf Try.f95)).getD 0 .skip
def fu_laws_eqPairS_5 (v0 : List (ByteArray × ByteArray × Unit)) (v1 : List (ByteArray × ByteArray × Unit)) (v5 : Int) : Nat := ((v0.length : Int) - v5).toNat + 1
noncomputable def tr_laws_eqPairS_5 {R : Type}  (NX : ((List (ByteArray × ByteArray × Unit)) × (List (ByteArray × ByteArray × Unit)) × (Int) × Unit) → Option R) (X2 : (Unit) → Option R) (X1 : ((Bool) × Unit) → Option R) (v0 : List (ByteArray × ByteArray × Unit)) (v1 : List (ByteArray × ByteArray × Unit)) (v5 : Int) : Option R :=
  bif decide (v5 < nI (List.length v0)) then
    bif decide (0 ≤ v5) then
      bif decide (v5 < nI (List.length v0)) then
        bif decide (0 ≤ v5) then
          bif decide (v5 < nI (List.length v1)) then
            Option.bind
              (Option.bind
                (m_laws_eqPair ((List.getD v0 (Int.toNat v5) (ByteArray.mk #[], ByteArray.mk #[], ())).fst, (List.getD v0 (Int.toNat v5) (ByteArray.mk #[], ByteArray.mk #[], ())).snd.fst, ())
                  ((List.getD v1 (Int.toNat v5) (ByteArray.mk #[], ByteArray.mk #[], ())).fst, (List.getD v1 (Int.toNat v5) (ByteArray.mk #[], ByteArray.mk #[], ())).snd.fst, ()))
                fun val => some ((val, ()), ()))
              fun val => bif !val.fst.fst then X1 (false, ()) else NX (v0, v1, IntKind.wrap IntKind.i64 (v5 + 1), ())
          else none
        else none
      else none
    else none
  else X2 PUnit.unit
noncomputable def lo_laws_eqPairS_5 : Nat → (List (ByteArray × ByteArray × Unit)) → (List (ByteArray × ByteArray × Unit)) → (Int) →  Option ((Unit) ⊕ ((Bool) × Unit))
  | 0, _, _, _ => none
  | m + 1, v0, v1, v5 => tr_laws_eqPairS_5  (fun d => lo_laws_eqPairS_5 m d.1 d.2.1 d.2.2.1) (fun d => some (.inl (d))) (fun d => some (.inr (d))) v0 v1 v5
theorem na_laws_eqPairS_5 {R S : Type}  (NX : ((List (ByteArray × ByteArray × Unit)) × (List (ByteArray × ByteArray × Unit)) × (Int) × Unit) → Option R) (X2 : (Unit) → Option R) (X1 : ((Bool) × Unit) → Option R) (v0 : List (ByteArray × ByteArray × Unit)) (v1 : List (ByteArray × ByteArray × Unit)) (v5 : Int) (f : R → Option S) : tr_laws_eqPairS_5  (fun d => (NX d).bind f) (fun d => (X2 d).bind f) (fun d => (X1 d).bind f) v0 v1 v5 = (tr_laws_eqPairS_5  NX X2 X1 v0 v1 v5).bind f := by
  unfold tr_laws_eqPairS_5
  simp only [cond_bind, ite_bind, onSum_bind, Option.bind_assoc, Option.bind_none, Option.bind_some]
noncomputable def de_laws_eqPairS (a0 : List (ByteArray × ByteArray × Unit)) (a1 : List (ByteArray × ByteArray × Unit)) : Option ((((Bool) × Unit) × (Unit))) :=
  bif nI (List.length a0) != nI (List.length a1) then some ((false, ()), ())
  else Option.bind ((fun d => lo_laws_eqPairS_5 (fu_laws_eqPairS_5 d.1 d.2.1 d.2.2.1) d.1 d.2.1 d.2.2.1) (a0, a1, 0, ())) fun val => onSum (fun val => some ((true, ()), ())) (fun val => some ((val.fst, ()), ())) val
theorem eq_laws_eqPairS (a0 : List (ByteArray × ByteArray × Unit)) (a1 : List (ByteArray × ByteArray × Unit)) r (h : m_laws_eqPairS a0 a1 = some r) : de_laws_eqPairS a0 a1 = some ((r, ()), (())) := by
  obtain ⟨hc, hd, rfl⟩ := eqM_some (t := .sl (.pair .str (.pair .str .unit))) h
  obtain ⟨hlx0, hx⟩ := fineB_sl hc
  obtain ⟨hly0, hy⟩ := fineB_sl hd
  have hlx : a0.length < 1152921504606846976 := hlx0
  have hly : a1.length < 1152921504606846976 := hly0
  clear hlx0 hly0 hc hd h
  · unfold de_laws_eqPairS
    by_cases hl : a1.length = a0.length
    · have c1 : (nI a0.length != nI a1.length) = false := by simp [nI, hl]
      have hL := eq_loop (xs := a0) (ys := a1) ((ByteArray.mk #[]), (ByteArray.mk #[]), ()) (fun x y : ByteArray × ByteArray × Unit => eqB (.pair .str (.pair .str .unit)) x y) (g := fun m i => lo_laws_eqPairS_5 m a0 a1 i) (ok := .inl ()) (bad := .inr (false, ())) hl (fun m i hi => by
        show lo_laws_eqPairS_5 (m + 1) a0 a1 i = _
        simp only [lo_laws_eqPairS_5, tr_laws_eqPairS_5]
        rw [cLt hi, cLe0, cLt (show i < a1.length by omega), wI (by omega)]
        simp only [cond_true, Int.toNat_natCast]
        have f1 : fineB (.pair .str (.pair .str .unit)) (List.getD (α := ByteArray × ByteArray × Unit) a0 i ((ByteArray.mk #[]), (ByteArray.mk #[]), ())) = true := hx _ (getD_mem ((ByteArray.mk #[]), (ByteArray.mk #[]), ()) hi)
        have f2 : fineB (.pair .str (.pair .str .unit)) (List.getD (α := ByteArray × ByteArray × Unit) a1 i ((ByteArray.mk #[]), (ByteArray.mk #[]), ())) = true := hy _ (getD_mem ((ByteArray.mk #[]), (ByteArray.mk #[]), ()) (by omega))
        have hE : m_laws_eqPair ((List.getD (α := ByteArray × ByteArray × Unit) a0 i ((ByteArray.mk #[]), (ByteArray.mk #[]), ())).fst, (List.getD (α := ByteArray × ByteArray × Unit) a0 i ((ByteArray.mk #[]), (ByteArray.mk #[]), ())).snd.fst, ()) ((List.getD (α := ByteArray × ByteArray × Unit) a1 i ((ByteArray.mk #[]), (ByteArray.mk #[]), ())).fst, (List.getD (α := ByteArray × ByteArray × Unit) a1 i ((ByteArray.mk #[]), (ByteArray.mk #[]), ())).snd.fst, ()) = some (eqB (.pair .str (.pair .str .unit)) (List.getD (α := ByteArray × ByteArray × Unit) a0 i ((ByteArray.mk #[]), (ByteArray.mk #[]), ())) (List.getD (α := ByteArray × ByteArray × Unit) a1 i ((ByteArray.mk #[]), (ByteArray.mk #[]), ()))) := by
          exact eqM_is (t := (.pair .str (.pair .str .unit))) (x := (List.getD (α := ByteArray × ByteArray × Unit) a0 i ((ByteArray.mk #[]), (ByteArray.mk #[]), ()))) (y := (List.getD (α := ByteArray × ByteArray × Unit) a1 i ((ByteArray.mk #[]), (ByteArray.mk #[]), ()))) f1 f2
        rw [hE]
        cases q : eqB (.pair .str (.pair .str .unit)) (List.getD (α := ByteArray × ByteArray × Unit) a0 i ((ByteArray.mk #[]), (ByteArray.mk #[]), ())) (List.getD (α := ByteArray × ByteArray × Unit) a1 i ((ByteArray.mk #[]), (ByteArray.mk #[]), ())) <;> simp only [Option.bind_some, q] <;> rfl) (fun m => by
        show lo_laws_eqPairS_5 (m + 1) a0 a1 a0.length = _
        simp only [lo_laws_eqPairS_5, tr_laws_eqPairS_5]
        rw [cLtF]
        rfl) (fu_laws_eqPairS_5 a0 a1 0) 0 (by omega) (by simp [fu_laws_eqPairS_5])
      rw [c1]
      have hL' : lo_laws_eqPairS_5 (fu_laws_eqPairS_5 a0 a1 0) a0 a1 0 = _ := hL
      show (lo_laws_eqPairS_5 (fu_laws_eqPairS_5 a0 a1 0) a0 a1 0).bind _ = some ((eqL (α := ByteArray × ByteArray × Unit) (fun x y : ByteArray × ByteArray × Unit => eqB (.pair .str (.pair .str .unit)) x y) a0 a1, ()), ())
      rw [hL', List.drop_zero, List.drop_zero]
      cases eqL (α := ByteArray × ByteArray × Unit) (fun x y : ByteArray × ByteArray × Unit => eqB (.pair .str (.pair .str .unit)) x y) a0 a1 <;> rfl
    · have c1 : (nI a0.length != nI a1.length) = true := by simp [nI]; omega
      rw [c1]
      show _ = some ((eqL (α := ByteArray × ByteArray × Unit) (fun x y : ByteArray × ByteArray × Unit => eqB (.pair .str (.pair .str .unit)) x y) a0 a1, ()), ())
      rw [eqL_len (fun q => hl q.symm)]
      rfl
noncomputable def ou_laws_eqPairS_5 {R : Type} (k : Kt R) : ((Unit) ⊕ ((Bool) × Unit)) → Option R := (onSum (fun d => k (.exit 0) (((pa_laws_eqPairS 5).2 2).st d) (((pa_laws_eqPairS 5).2 2).nid)) (fun d => k .ret (((pa_laws_eqPairS 5).2 1).st d) (((pa_laws_eqPairS 5).2 1).nid)))
noncomputable def L_laws_eqPairS {R : Type} : Lt R pa_laws_eqPairS := (addL (pat := pa_laws_eqPairS) 5 (fun d k => (lo_laws_eqPairS_5 (fu_laws_eqPairS_5 d.1 d.2.1 d.2.2.1) d.1 d.2.1 d.2.2.1).bind (ou_laws_eqPairS_5 k)) noL)
theorem rd_laws_eqPairS_5 {R : Type} (nx : (pa_laws_eqPairS 5).1.D → Kt R → Option R) (k : Kt R) (v0 : List (ByteArray × ByteArray × Unit)) (v1 : List (ByteArray × ByteArray × Unit)) (v5 : Int) : ev Try.prog ⟨ta_laws_eqPairS, 0, 27, pa_laws_eqPairS⟩ L_laws_eqPairS co_laws_eqPairS_5 ((pa_laws_eqPairS 5).1.st (v0, v1, v5, ())) (pa_laws_eqPairS 5).1.nid (roundK 0 (pa_laws_eqPairS 5) nx k) = tr_laws_eqPairS_5  (fun d => nx d k) (fun d => k (.exit 0) (((pa_laws_eqPairS 5).2 2).st d) (((pa_laws_eqPairS 5).2 2).nid)) (fun d => k .ret (((pa_laws_eqPairS 5).2 1).st d) (((pa_laws_eqPairS 5).2 1).nid)) v0 v1 v5 := by kernel_rfl
theorem lp_laws_eqPairS_5 {R : Type} : ∀ (m : Nat) (d : (pa_laws_eqPairS 5).1.D) (k : Kt R), loopN 0 (pa_laws_eqPairS 5) (fun s nid k => ev Try.prog ⟨ta_laws_eqPairS, 0, 27, pa_laws_eqPairS⟩ L_laws_eqPairS co_laws_eqPairS_5 s nid k) m d k = (lo_laws_eqPairS_5 m d.1 d.2.1 d.2.2.1).bind (ou_laws_eqPairS_5 k)
  | 0, _, _ => rfl
  | m + 1, ⟨v0, v1, v5, ⟨⟩⟩, k => (rd_laws_eqPairS_5 _ k v0 v1 v5).trans ((congrArg (fun F => tr_laws_eqPairS_5  F (fun d => k (.exit 0) (((pa_laws_eqPairS 5).2 2).st d) (((pa_laws_eqPairS 5).2 2).nid)) (fun d => k .ret (((pa_laws_eqPairS 5).2 1).st d) (((pa_laws_eqPairS 5).2 1).nid)) v0 v1 v5) (funext fun d => lp_laws_eqPairS_5 m d k)).trans (na_laws_eqPairS_5 (f := ou_laws_eqPairS_5 k)  (fun d => lo_laws_eqPairS_5 m d.1 d.2.1 d.2.2.1) (fun d => some (.inl (d))) (fun d => some (.inr (d))) v0 v1 v5))
theorem en_laws_eqPairS (a0 : List (ByteArray × ByteArray × Unit)) (a1 : List (ByteArray × ByteArray × Unit)) : evalF Try.prog ta_laws_eqPairS pa_laws_eqPairS sg_laws_eqPairS Try.f95 L_laws_eqPairS (a0, a1, ()) = de_laws_eqPairS a0 a1 := by kernel_rfl
theorem si_laws_eqPairS : SigsOk Try.prog ta_laws_eqPairS := SigsOk.of fun f sd h => by
  try dsimp only [Tb.of, ta_laws_eqPairS] at h
  split at h
  · rename_i e; subst e; cases h; exact sn_laws_eqPair
  cases h
theorem lk_laws_eqPairS_5 {R : Type} : LoopOk Try.prog R 27 0 pa_laws_eqPairS L_laws_eqPairS co_laws_eqPairS_5 :=
  loop_key (cfg := ⟨ta_laws_eqPairS, 0, 27, pa_laws_eqPairS⟩) (key := 5) (by kernel_rfl) (by kernel_rfl) si_laws_eqPairS rfl rfl (fun d k r h => ⟨fu_laws_eqPairS_5 d.1 d.2.1 d.2.2.1, (lp_laws_eqPairS_5 _ d k).trans h⟩) (fun c hc => by rw [show loopsIn co_laws_eqPairS_5 = [] from by kernel_rfl] at hc; cases hc)
theorem sn_laws_eqPairS : Callable Try.prog 95 ∧ Sound Try.prog 95 sd_laws_eqPairS.sg sd_laws_eqPairS.den :=
  fn_loops (pat := pa_laws_eqPairS) L_laws_eqPairS (by kernel_rfl) si_laws_eqPairS Try.func95 (by kernel_rfl) (by kernel_rfl) (fun c hc => by rw [show loopsIn (bodyOf Try.f95) = [co_laws_eqPairS_5] from by kernel_rfl] at hc; simp only [List.mem_cons, List.not_mem_nil, or_false] at hc; rcases hc with rfl <;> first | exact lk_laws_eqPairS_5) fun x r h => by
    obtain ⟨a0, a1, ⟨⟩⟩ := x; obtain ⟨y, h1, h2⟩ := Option.bind_eq_some_iff.1 (show (m_laws_eqPairS a0 a1).bind (fun r => some ((r, ()), (()))) = some r from h); cases h2; exact (en_laws_eqPairS a0 a1).trans (eq_laws_eqPairS a0 a1 _ h1)
def m_laws_eqState (a b : (List (ByteArray × ByteArray × Unit)) × Unit) : Option Bool := eqM (.pair (.sl (.pair .str (.pair .str .unit))) .unit) a b
def sg_laws_eqState : Sig := ⟨[.rd (.pair (.sl (.pair .str (.pair .str .unit))) .unit), .rd (.pair (.sl (.pair .str (.pair .str .unit))) .unit)], [some 1, some 1], [.rd .bool], [none]⟩
noncomputable def sd_laws_eqState : SD := ⟨sg_laws_eqState, fun x => (m_laws_eqState x.1 x.2.1).bind fun r => some ((r, ()), (()))⟩
noncomputable def ta_laws_eqState : Tb := Tb.of fun f => if f = 95 then some sd_laws_eqPairS else none
def pa_laws_eqState : Nat → Pat × (Nat → Pat) := fun k => (⟨[], [], []⟩, fun _ => ⟨[], [], []⟩)
noncomputable def de_laws_eqState (a0 : (List (ByteArray × ByteArray × Unit)) × Unit) (a1 : (List (ByteArray × ByteArray × Unit)) × Unit) : Option ((((Bool) × Unit) × (Unit))) :=
  Option.bind (Option.bind (m_laws_eqPairS a0.fst a1.fst) fun val => some ((val, ()), ())) fun val => bif !val.fst.fst then some ((false, ()), ()) else some ((true, ()), ())
theorem eq_laws_eqState (a0 : (List (ByteArray × ByteArray × Unit)) × Unit) (a1 : (List (ByteArray × ByteArray × Unit)) × Unit) r (h : m_laws_eqState a0 a1 = some r) : de_laws_eqState a0 a1 = some ((r, ()), (())) := by
  obtain ⟨hc, hd, rfl⟩ := eqM_some (t := (.pair (.sl (.pair .str (.pair .str .unit))) .unit)) h
  obtain ⟨hc0, _⟩ : fineB (.sl (.pair .str (.pair .str .unit))) a0.1 = true ∧ True := by
    have s := hc
    obtain ⟨h0, s⟩ := fineB_pair s
    exact ⟨h0, trivial⟩
  obtain ⟨hd0, _⟩ : fineB (.sl (.pair .str (.pair .str .unit))) a1.1 = true ∧ True := by
    have s := hd
    obtain ⟨h0, s⟩ := fineB_pair s
    exact ⟨h0, trivial⟩
  unfold de_laws_eqState
  have e0 : m_laws_eqPairS a0.1 a1.1 = some (eqB (.sl (.pair .str (.pair .str .unit))) a0.1 a1.1) := eqM_is (t := (.sl (.pair .str (.pair .str .unit)))) hc0 hd0
  simp only [e0, Option.bind_some]
  show _ = some (((eqB (.sl (.pair .str (.pair .str .unit))) a0.1 a1.1 && true), ()), ())
  generalize eqB (.sl (.pair .str (.pair .str .unit))) a0.1 a1.1 = p0
  cases p0 <;> rfl
theorem en_laws_eqState (a0 : (List (ByteArray × ByteArray × Unit)) × Unit) (a1 : (List (ByteArray × ByteArray × Unit)) × Unit) : evalF Try.prog ta_laws_eqState pa_laws_eqState sg_laws_eqState Try.f20 noL (a0, a1, ()) = de_laws_eqState a0 a1 := by kernel_rfl
theorem si_laws_eqState : SigsOk Try.prog ta_laws_eqState := SigsOk.of fun f sd h => by
  try dsimp only [Tb.of, ta_laws_eqState] at h
  split at h
  · rename_i e; subst e; cases h; exact sn_laws_eqPairS
  cases h
theorem sn_laws_eqState : Callable Try.prog 20 ∧ Sound Try.prog 20 sd_laws_eqState.sg sd_laws_eqState.den :=
  fn_plain (pat := pa_laws_eqState) (by kernel_rfl) si_laws_eqState Try.func20 (by kernel_rfl) (by kernel_rfl) (by kernel_rfl) fun x r h => by
    obtain ⟨a0, a1, ⟨⟩⟩ := x; obtain ⟨y, h1, h2⟩ := Option.bind_eq_some_iff.1 (show (m_laws_eqState a0 a1).bind (fun r => some ((r, ()), (()))) = some r from h); cases h2; exact (en_laws_eqState a0 a1).trans (eq_laws_eqState a0 a1 _ h1)
def m_laws_eqRoot (a b : Int × Int × Int × Int × Unit) : Option Bool := eqM (.pair (.int .i64) (.pair (.int .i64) (.pair (.int .i64) (.pair (.int .i64) .unit)))) a b
def sg_laws_eqRoot : Sig := ⟨[.rd (.pair (.int .i64) (.pair (.int .i64) (.pair (.int .i64) (.pair (.int .i64) .unit)))), .rd (.pair (.int .i64) (.pair (.int .i64) (.pair (.int .i64) (.pair (.int .i64) .unit))))], [some 4, some 4], [.rd .bool], [none]⟩
noncomputable def sd_laws_eqRoot : SD := ⟨sg_laws_eqRoot, fun x => (m_laws_eqRoot x.1 x.2.1).bind fun r => some ((r, ()), (()))⟩
noncomputable def ta_laws_eqRoot : Tb := Tb.of fun f => none
def pa_laws_eqRoot : Nat → Pat × (Nat → Pat) := fun k => (⟨[], [], []⟩, fun _ => ⟨[], [], []⟩)
noncomputable def de_laws_eqRoot (a0 : Int × Int × Int × Int × Unit) (a1 : Int × Int × Int × Int × Unit) : Option ((((Bool) × Unit) × (Unit))) :=
  bif a0.fst != a1.fst then some ((false, ()), ())
  else
    bif a0.snd.fst != a1.snd.fst then some ((false, ()), ())
    else bif a0.snd.snd.fst != a1.snd.snd.fst then some ((false, ()), ()) else bif a0.snd.snd.snd.fst != a1.snd.snd.snd.fst then some ((false, ()), ()) else some ((true, ()), ())
theorem eq_laws_eqRoot (a0 : Int × Int × Int × Int × Unit) (a1 : Int × Int × Int × Int × Unit) r (h : m_laws_eqRoot a0 a1 = some r) : de_laws_eqRoot a0 a1 = some ((r, ()), (())) := by
  obtain ⟨hc, hd, rfl⟩ := eqM_some (t := (.pair (.int .i64) (.pair (.int .i64) (.pair (.int .i64) (.pair (.int .i64) .unit))))) h
  obtain ⟨hc0, hc1, hc2, hc3, _⟩ : fineB (.int .i64) a0.1 = true ∧ fineB (.int .i64) a0.2.1 = true ∧ fineB (.int .i64) a0.2.2.1 = true ∧ fineB (.int .i64) a0.2.2.2.1 = true ∧ True := by
    have s := hc
    obtain ⟨h0, s⟩ := fineB_pair s
    obtain ⟨h1, s⟩ := fineB_pair s
    obtain ⟨h2, s⟩ := fineB_pair s
    obtain ⟨h3, s⟩ := fineB_pair s
    exact ⟨h0, h1, h2, h3, trivial⟩
  obtain ⟨hd0, hd1, hd2, hd3, _⟩ : fineB (.int .i64) a1.1 = true ∧ fineB (.int .i64) a1.2.1 = true ∧ fineB (.int .i64) a1.2.2.1 = true ∧ fineB (.int .i64) a1.2.2.2.1 = true ∧ True := by
    have s := hd
    obtain ⟨h0, s⟩ := fineB_pair s
    obtain ⟨h1, s⟩ := fineB_pair s
    obtain ⟨h2, s⟩ := fineB_pair s
    obtain ⟨h3, s⟩ := fineB_pair s
    exact ⟨h0, h1, h2, h3, trivial⟩
  unfold de_laws_eqRoot
  have e0 : (a0.1 != a1.1) = !eqI a0.1 a1.1 := bneI _ _
  have e1 : (a0.2.1 != a1.2.1) = !eqI a0.2.1 a1.2.1 := bneI _ _
  have e2 : (a0.2.2.1 != a1.2.2.1) = !eqI a0.2.2.1 a1.2.2.1 := bneI _ _
  have e3 : (a0.2.2.2.1 != a1.2.2.2.1) = !eqI a0.2.2.2.1 a1.2.2.2.1 := bneI _ _
  simp only [e0, e1, e2, e3, Option.bind_some]
  show _ = some (((eqI a0.1 a1.1 && (eqI a0.2.1 a1.2.1 && (eqI a0.2.2.1 a1.2.2.1 && (eqI a0.2.2.2.1 a1.2.2.2.1 && true)))), ()), ())
  generalize eqI a0.1 a1.1 = p0
  generalize eqI a0.2.1 a1.2.1 = p1
  generalize eqI a0.2.2.1 a1.2.2.1 = p2
  generalize eqI a0.2.2.2.1 a1.2.2.2.1 = p3
  cases p0 <;> cases p1 <;> cases p2 <;> cases p3 <;> rfl
theorem en_laws_eqRoot (a0 : Int × Int × Int × Int × Unit) (a1 : Int × Int × Int × Int × Unit) : evalF Try.prog ta_laws_eqRoot pa_laws_eqRoot sg_laws_eqRoot Try.f125 noL (a0, a1, ()) = de_laws_eqRoot a0 a1 := by kernel_rfl
theorem si_laws_eqRoot : SigsOk Try.prog ta_laws_eqRoot := SigsOk.of fun f sd h => by
  try dsimp only [Tb.of, ta_laws_eqRoot] at h
  cases h
theorem sn_laws_eqRoot : Callable Try.prog 125 ∧ Sound Try.prog 125 sd_laws_eqRoot.sg sd_laws_eqRoot.den :=
  fn_plain (pat := pa_laws_eqRoot) (by kernel_rfl) si_laws_eqRoot Try.func125 (by kernel_rfl) (by kernel_rfl) (by kernel_rfl) fun x r h => by
    obtain ⟨a0, a1, ⟨⟩⟩ := x; obtain ⟨y, h1, h2⟩ := Option.bind_eq_some_iff.1 (show (m_laws_eqRoot a0 a1).bind (fun r => some ((r, ()), (()))) = some r from h); cases h2; exact (en_laws_eqRoot a0 a1).trans (eq_laws_eqRoot a0 a1 _ h1)
def m_laws_eqStore (a b : Int × Int × Int × (Int × Int × Int × Int × Unit) × Int × Int × ((List (ByteArray × ByteArray × Unit)) × Unit) × Unit) : Option Bool := eqM (.pair (.int .i64) (.pair (.int .i64) (.pair (.int .i64) (.pair (.pair (.int .i64) (.pair (.int .i64) (.pair (.int .i64) (.pair (.int .i64) .unit)))) (.pair (.int .i64) (.pair (.int .i64) (.pair (.pair (.sl (.pair .str (.pair .str .unit))) .unit) .unit))))))) a b
def sg_laws_eqStore : Sig := ⟨[.rd (.pair (.int .i64) (.pair (.int .i64) (.pair (.int .i64) (.pair (.pair (.int .i64) (.pair (.int .i64) (.pair (.int .i64) (.pair (.int .i64) .unit)))) (.pair (.int .i64) (.pair (.int .i64) (.pair (.pair (.sl (.pair .str (.pair .str .unit))) .unit) .unit))))))), .rd (.pair (.int .i64) (.pair (.int .i64) (.pair (.int .i64) (.pair (.pair (.int .i64) (.pair (.int .i64) (.pair (.int .i64) (.pair (.int .i64) .unit)))) (.pair (.int .i64) (.pair (.int .i64) (.pair (.pair (.sl (.pair .str (.pair .str .unit))) .unit) .unit)))))))], [some 10, some 10], [.rd .bool], [none]⟩
noncomputable def sd_laws_eqStore : SD := ⟨sg_laws_eqStore, fun x => (m_laws_eqStore x.1 x.2.1).bind fun r => some ((r, ()), (()))⟩
noncomputable def ta_laws_eqStore : Tb := Tb.of fun f => if f = 20 then some sd_laws_eqState else if f = 125 then some sd_laws_eqRoot else none
def pa_laws_eqStore : Nat → Pat × (Nat → Pat) := fun k => (⟨[], [], []⟩, fun _ => ⟨[], [], []⟩)
noncomputable def de_laws_eqStore (a0 : Int × Int × Int × (Int × Int × Int × Int × Unit) × Int × Int × ((List (ByteArray × ByteArray × Unit)) × Unit) × Unit) (a1 : Int × Int × Int × (Int × Int × Int × Int × Unit) × Int × Int × ((List (ByteArray × ByteArray × Unit)) × Unit) × Unit) : Option ((((Bool) × Unit) × (Unit))) :=
  bif a0.fst != a1.fst then some ((false, ()), ())
  else
    bif a0.snd.fst != a1.snd.fst then some ((false, ()), ())
    else
      bif a0.snd.snd.fst != a1.snd.snd.fst then some ((false, ()), ())
      else
        bif
            !(decide (a0.snd.snd.snd.fst.fst = a1.snd.snd.snd.fst.fst) &&
                (decide (a0.snd.snd.snd.fst.snd.fst = a1.snd.snd.snd.fst.snd.fst) &&
                  (decide (a0.snd.snd.snd.fst.snd.snd.fst = a1.snd.snd.snd.fst.snd.snd.fst) && (decide (a0.snd.snd.snd.fst.snd.snd.snd.fst = a1.snd.snd.snd.fst.snd.snd.snd.fst) && true)))) then
          some ((false, ()), ())
        else
          bif a0.snd.snd.snd.snd.fst != a1.snd.snd.snd.snd.fst then some ((false, ()), ())
          else
            bif a0.snd.snd.snd.snd.snd.fst != a1.snd.snd.snd.snd.snd.fst then some ((false, ()), ())
            else
              Option.bind (Option.bind (m_laws_eqState (a0.snd.snd.snd.snd.snd.snd.fst.fst, ()) (a1.snd.snd.snd.snd.snd.snd.fst.fst, ())) fun val => some ((val, ()), ())) fun val =>
                bif !val.fst.fst then some ((false, ()), ()) else some ((true, ()), ())
theorem eq_laws_eqStore (a0 : Int × Int × Int × (Int × Int × Int × Int × Unit) × Int × Int × ((List (ByteArray × ByteArray × Unit)) × Unit) × Unit) (a1 : Int × Int × Int × (Int × Int × Int × Int × Unit) × Int × Int × ((List (ByteArray × ByteArray × Unit)) × Unit) × Unit) r (h : m_laws_eqStore a0 a1 = some r) : de_laws_eqStore a0 a1 = some ((r, ()), (())) := by
  obtain ⟨hc, hd, rfl⟩ := eqM_some (t := (.pair (.int .i64) (.pair (.int .i64) (.pair (.int .i64) (.pair (.pair (.int .i64) (.pair (.int .i64) (.pair (.int .i64) (.pair (.int .i64) .unit)))) (.pair (.int .i64) (.pair (.int .i64) (.pair (.pair (.sl (.pair .str (.pair .str .unit))) .unit) .unit)))))))) h
  obtain ⟨hc0, hc1, hc2, hc3, hc4, hc5, hc6, _⟩ : fineB (.int .i64) a0.1 = true ∧ fineB (.int .i64) a0.2.1 = true ∧ fineB (.int .i64) a0.2.2.1 = true ∧ fineB (.pair (.int .i64) (.pair (.int .i64) (.pair (.int .i64) (.pair (.int .i64) .unit)))) a0.2.2.2.1 = true ∧ fineB (.int .i64) a0.2.2.2.2.1 = true ∧ fineB (.int .i64) a0.2.2.2.2.2.1 = true ∧ fineB (.pair (.sl (.pair .str (.pair .str .unit))) .unit) a0.2.2.2.2.2.2.1 = true ∧ True := by
    have s := hc
    obtain ⟨h0, s⟩ := fineB_pair s
    obtain ⟨h1, s⟩ := fineB_pair s
    obtain ⟨h2, s⟩ := fineB_pair s
    obtain ⟨h3, s⟩ := fineB_pair s
    obtain ⟨h4, s⟩ := fineB_pair s
    obtain ⟨h5, s⟩ := fineB_pair s
    obtain ⟨h6, s⟩ := fineB_pair s
    exact ⟨h0, h1, h2, h3, h4, h5, h6, trivial⟩
  obtain ⟨hd0, hd1, hd2, hd3, hd4, hd5, hd6, _⟩ : fineB (.int .i64) a1.1 = true ∧ fineB (.int .i64) a1.2.1 = true ∧ fineB (.int .i64) a1.2.2.1 = true ∧ fineB (.pair (.int .i64) (.pair (.int .i64) (.pair (.int .i64) (.pair (.int .i64) .unit)))) a1.2.2.2.1 = true ∧ fineB (.int .i64) a1.2.2.2.2.1 = true ∧ fineB (.int .i64) a1.2.2.2.2.2.1 = true ∧ fineB (.pair (.sl (.pair .str (.pair .str .unit))) .unit) a1.2.2.2.2.2.2.1 = true ∧ True := by
    have s := hd
    obtain ⟨h0, s⟩ := fineB_pair s
    obtain ⟨h1, s⟩ := fineB_pair s
    obtain ⟨h2, s⟩ := fineB_pair s
    obtain ⟨h3, s⟩ := fineB_pair s
    obtain ⟨h4, s⟩ := fineB_pair s
    obtain ⟨h5, s⟩ := fineB_pair s
    obtain ⟨h6, s⟩ := fineB_pair s
    exact ⟨h0, h1, h2, h3, h4, h5, h6, trivial⟩
  unfold de_laws_eqStore
  have e0 : (a0.1 != a1.1) = !eqI a0.1 a1.1 := bneI _ _
  have e1 : (a0.2.1 != a1.2.1) = !eqI a0.2.1 a1.2.1 := bneI _ _
  have e2 : (a0.2.2.1 != a1.2.2.1) = !eqI a0.2.2.1 a1.2.2.1 := bneI _ _
  have e4 : (a0.2.2.2.2.1 != a1.2.2.2.2.1) = !eqI a0.2.2.2.2.1 a1.2.2.2.2.1 := bneI _ _
  have e5 : (a0.2.2.2.2.2.1 != a1.2.2.2.2.2.1) = !eqI a0.2.2.2.2.2.1 a1.2.2.2.2.2.1 := bneI _ _
  have e6 : m_laws_eqState a0.2.2.2.2.2.2.1 a1.2.2.2.2.2.2.1 = some (eqB (.pair (.sl (.pair .str (.pair .str .unit))) .unit) a0.2.2.2.2.2.2.1 a1.2.2.2.2.2.2.1) := eqM_is (t := (.pair (.sl (.pair .str (.pair .str .unit))) .unit)) hc6 hd6
  have e6 : m_laws_eqState (a0.2.2.2.2.2.2.1.fst, ()) (a1.2.2.2.2.2.2.1.fst, ()) = some (eqB (.pair (.sl (.pair .str (.pair .str .unit))) .unit) a0.2.2.2.2.2.2.1 a1.2.2.2.2.2.2.1) := e6
  simp only [e0, e1, e2, e4, e5, e6, Option.bind_some]
  show _ = some (((eqI a0.1 a1.1 && (eqI a0.2.1 a1.2.1 && (eqI a0.2.2.1 a1.2.2.1 && ((decide (a0.2.2.2.1.1 = a1.2.2.2.1.1) && (decide (a0.2.2.2.1.2.1 = a1.2.2.2.1.2.1) && (decide (a0.2.2.2.1.2.2.1 = a1.2.2.2.1.2.2.1) && (decide (a0.2.2.2.1.2.2.2.1 = a1.2.2.2.1.2.2.2.1) && true)))) && (eqI a0.2.2.2.2.1 a1.2.2.2.2.1 && (eqI a0.2.2.2.2.2.1 a1.2.2.2.2.2.1 && (eqB (.pair (.sl (.pair .str (.pair .str .unit))) .unit) a0.2.2.2.2.2.2.1 a1.2.2.2.2.2.2.1 && true))))))), ()), ())
  generalize eqI a0.1 a1.1 = p0
  generalize eqI a0.2.1 a1.2.1 = p1
  generalize eqI a0.2.2.1 a1.2.2.1 = p2
  generalize (decide (a0.2.2.2.1.1 = a1.2.2.2.1.1) && (decide (a0.2.2.2.1.2.1 = a1.2.2.2.1.2.1) && (decide (a0.2.2.2.1.2.2.1 = a1.2.2.2.1.2.2.1) && (decide (a0.2.2.2.1.2.2.2.1 = a1.2.2.2.1.2.2.2.1) && true)))) = p3
  generalize eqI a0.2.2.2.2.1 a1.2.2.2.2.1 = p4
  generalize eqI a0.2.2.2.2.2.1 a1.2.2.2.2.2.1 = p5
  generalize eqB (.pair (.sl (.pair .str (.pair .str .unit))) .unit) a0.2.2.2.2.2.2.1 a1.2.2.2.2.2.2.1 = p6
  cases p0 <;> cases p1 <;> cases p2 <;> cases p3 <;> cases p4 <;> cases p5 <;> cases p6 <;> rfl
theorem en_laws_eqStore (a0 : Int × Int × Int × (Int × Int × Int × Int × Unit) × Int × Int × ((List (ByteArray × ByteArray × Unit)) × Unit) × Unit) (a1 : Int × Int × Int × (Int × Int × Int × Int × Unit) × Int × Int × ((List (ByteArray × ByteArray × Unit)) × Unit) × Unit) : evalF Try.prog ta_laws_eqStore pa_laws_eqStore sg_laws_eqStore Try.f41 noL (a0, a1, ()) = de_laws_eqStore a0 a1 := by kernel_rfl
theorem si_laws_eqStore : SigsOk Try.prog ta_laws_eqStore := SigsOk.of fun f sd h => by
  try dsimp only [Tb.of, ta_laws_eqStore] at h
  split at h
  · rename_i e; subst e; cases h; exact sn_laws_eqState
  split at h
  · rename_i e; subst e; cases h; exact sn_laws_eqRoot
  cases h
theorem sn_laws_eqStore : Callable Try.prog 41 ∧ Sound Try.prog 41 sd_laws_eqStore.sg sd_laws_eqStore.den :=
  fn_plain (pat := pa_laws_eqStore) (by kernel_rfl) si_laws_eqStore Try.func41 (by kernel_rfl) (by kernel_rfl) (by kernel_rfl) fun x r h => by
    obtain ⟨a0, a1, ⟨⟩⟩ := x; obtain ⟨y, h1, h2⟩ := Option.bind_eq_some_iff.1 (show (m_laws_eqStore a0 a1).bind (fun r => some ((r, ()), (()))) = some r from h); cases h2; exact (en_laws_eqStore a0 a1).trans (eq_laws_eqStore a0 a1 _ h1)
def m_laws_eqStateS (a b : List ((List (ByteArray × ByteArray × Unit)) × Unit)) : Option Bool := eqM (.sl (.pair (.sl (.pair .str (.pair .str .unit))) .unit)) a b
def sg_laws_eqStateS : Sig := ⟨[.rd (.sl (.pair (.sl (.pair .str (.pair .str .unit))) .unit)), .rd (.sl (.pair (.sl (.pair .str (.pair .str .unit))) .unit))], [none, none], [.rd .bool], [none]⟩
noncomputable def sd_laws_eqStateS : SD := ⟨sg_laws_eqStateS, fun x => (m_laws_eqStateS x.1 x.2.1).bind fun r => some ((r, ()), (()))⟩
noncomputable def ta_laws_eqStateS : Tb := Tb.of fun f => if f = 20 then some sd_laws_eqState else none
def pa_laws_eqStateS : Nat → Pat × (Nat → Pat) := fun k => if k = 5 then (⟨[.sl 0 0 (.pair (.sl (.pair .str (.pair .str .unit))) .unit), .sl 1 0 (.pair (.sl (.pair .str (.pair .str .unit))) .unit)], [(0, .lf (.d (.sl (.pair (.sl (.pair .str (.pair .str .unit))) .unit)))), (1, .lf (.d (.sl (.pair (.sl (.pair .str (.pair .str .unit))) .unit)))), (5, .lf (.d (.int .i64)))], []⟩, fun e => if e = 1 then ⟨[], [(4, .lf (.d .bool))], []⟩ else if e = 2 then ⟨[], [], []⟩ else ⟨[], [], []⟩) else (⟨[], [], []⟩, fun _ => ⟨[], [], []⟩)
noncomputable def co_laws_eqStateS_5 : Code := (loopsIn (bodyOf Try.f127)).getD 0 .skip
def fu_laws_eqStateS_5 (v0 : List ((List (ByteArray × ByteArray × Unit)) × Unit)) (v1 : List ((List (ByteArray × ByteArray × Unit)) × Unit)) (v5 : Int) : Nat := ((v0.length : Int) - v5).toNat + 1
noncomputable def tr_laws_eqStateS_5 {R : Type}  (NX : ((List ((List (ByteArray × ByteArray × Unit)) × Unit)) × (List ((List (ByteArray × ByteArray × Unit)) × Unit)) × (Int) × Unit) → Option R) (X2 : (Unit) → Option R) (X1 : ((Bool) × Unit) → Option R) (v0 : List ((List (ByteArray × ByteArray × Unit)) × Unit)) (v1 : List ((List (ByteArray × ByteArray × Unit)) × Unit)) (v5 : Int) : Option R :=
  bif decide (v5 < nI (List.length v0)) then
    bif decide (0 ≤ v5) then
      bif decide (v5 < nI (List.length v0)) then
        bif decide (0 ≤ v5) then
          bif decide (v5 < nI (List.length v1)) then
            Option.bind (Option.bind (m_laws_eqState ((List.getD v0 (Int.toNat v5) ([], ())).fst, ()) ((List.getD v1 (Int.toNat v5) ([], ())).fst, ())) fun val => some ((val, ()), ())) fun val =>
              bif !val.fst.fst then X1 (false, ()) else NX (v0, v1, IntKind.wrap IntKind.i64 (v5 + 1), ())
          else none
        else none
      else none
    else none
  else X2 PUnit.unit
noncomputable def lo_laws_eqStateS_5 : Nat → (List ((List (ByteArray × ByteArray × Unit)) × Unit)) → (List ((List (ByteArray × ByteArray × Unit)) × Unit)) → (Int) →  Option ((Unit) ⊕ ((Bool) × Unit))
  | 0, _, _, _ => none
  | m + 1, v0, v1, v5 => tr_laws_eqStateS_5  (fun d => lo_laws_eqStateS_5 m d.1 d.2.1 d.2.2.1) (fun d => some (.inl (d))) (fun d => some (.inr (d))) v0 v1 v5
theorem na_laws_eqStateS_5 {R S : Type}  (NX : ((List ((List (ByteArray × ByteArray × Unit)) × Unit)) × (List ((List (ByteArray × ByteArray × Unit)) × Unit)) × (Int) × Unit) → Option R) (X2 : (Unit) → Option R) (X1 : ((Bool) × Unit) → Option R) (v0 : List ((List (ByteArray × ByteArray × Unit)) × Unit)) (v1 : List ((List (ByteArray × ByteArray × Unit)) × Unit)) (v5 : Int) (f : R → Option S) : tr_laws_eqStateS_5  (fun d => (NX d).bind f) (fun d => (X2 d).bind f) (fun d => (X1 d).bind f) v0 v1 v5 = (tr_laws_eqStateS_5  NX X2 X1 v0 v1 v5).bind f := by
  unfold tr_laws_eqStateS_5
  simp only [cond_bind, ite_bind, onSum_bind, Option.bind_assoc, Option.bind_none, Option.bind_some]
noncomputable def de_laws_eqStateS (a0 : List ((List (ByteArray × ByteArray × Unit)) × Unit)) (a1 : List ((List (ByteArray × ByteArray × Unit)) × Unit)) : Option ((((Bool) × Unit) × (Unit))) :=
  bif nI (List.length a0) != nI (List.length a1) then some ((false, ()), ())
  else Option.bind ((fun d => lo_laws_eqStateS_5 (fu_laws_eqStateS_5 d.1 d.2.1 d.2.2.1) d.1 d.2.1 d.2.2.1) (a0, a1, 0, ())) fun val => onSum (fun val => some ((true, ()), ())) (fun val => some ((val.fst, ()), ())) val
theorem eq_laws_eqStateS (a0 : List ((List (ByteArray × ByteArray × Unit)) × Unit)) (a1 : List ((List (ByteArray × ByteArray × Unit)) × Unit)) r (h : m_laws_eqStateS a0 a1 = some r) : de_laws_eqStateS a0 a1 = some ((r, ()), (())) := by
  obtain ⟨hc, hd, rfl⟩ := eqM_some (t := .sl (.pair (.sl (.pair .str (.pair .str .unit))) .unit)) h
  obtain ⟨hlx0, hx⟩ := fineB_sl hc
  obtain ⟨hly0, hy⟩ := fineB_sl hd
  have hlx : a0.length < 1152921504606846976 := hlx0
  have hly : a1.length < 1152921504606846976 := hly0
  clear hlx0 hly0 hc hd h
  · unfold de_laws_eqStateS
    by_cases hl : a1.length = a0.length
    · have c1 : (nI a0.length != nI a1.length) = false := by simp [nI, hl]
      have hL := eq_loop (xs := a0) (ys := a1) ([], ()) (fun x y : (List (ByteArray × ByteArray × Unit)) × Unit => eqB (.pair (.sl (.pair .str (.pair .str .unit))) .unit) x y) (g := fun m i => lo_laws_eqStateS_5 m a0 a1 i) (ok := .inl ()) (bad := .inr (false, ())) hl (fun m i hi => by
        show lo_laws_eqStateS_5 (m + 1) a0 a1 i = _
        simp only [lo_laws_eqStateS_5, tr_laws_eqStateS_5]
        rw [cLt hi, cLe0, cLt (show i < a1.length by omega), wI (by omega)]
        simp only [cond_true, Int.toNat_natCast]
        have f1 : fineB (.pair (.sl (.pair .str (.pair .str .unit))) .unit) (List.getD (α := (List (ByteArray × ByteArray × Unit)) × Unit) a0 i ([], ())) = true := hx _ (getD_mem ([], ()) hi)
        have f2 : fineB (.pair (.sl (.pair .str (.pair .str .unit))) .unit) (List.getD (α := (List (ByteArray × ByteArray × Unit)) × Unit) a1 i ([], ())) = true := hy _ (getD_mem ([], ()) (by omega))
        have hE : m_laws_eqState ((List.getD (α := (List (ByteArray × ByteArray × Unit)) × Unit) a0 i ([], ())).fst, ()) ((List.getD (α := (List (ByteArray × ByteArray × Unit)) × Unit) a1 i ([], ())).fst, ()) = some (eqB (.pair (.sl (.pair .str (.pair .str .unit))) .unit) (List.getD (α := (List (ByteArray × ByteArray × Unit)) × Unit) a0 i ([], ())) (List.getD (α := (List (ByteArray × ByteArray × Unit)) × Unit) a1 i ([], ()))) := by
          exact eqM_is (t := (.pair (.sl (.pair .str (.pair .str .unit))) .unit)) (x := (List.getD (α := (List (ByteArray × ByteArray × Unit)) × Unit) a0 i ([], ()))) (y := (List.getD (α := (List (ByteArray × ByteArray × Unit)) × Unit) a1 i ([], ()))) f1 f2
        rw [hE]
        cases q : eqB (.pair (.sl (.pair .str (.pair .str .unit))) .unit) (List.getD (α := (List (ByteArray × ByteArray × Unit)) × Unit) a0 i ([], ())) (List.getD (α := (List (ByteArray × ByteArray × Unit)) × Unit) a1 i ([], ())) <;> simp only [Option.bind_some, q] <;> rfl) (fun m => by
        show lo_laws_eqStateS_5 (m + 1) a0 a1 a0.length = _
        simp only [lo_laws_eqStateS_5, tr_laws_eqStateS_5]
        rw [cLtF]
        rfl) (fu_laws_eqStateS_5 a0 a1 0) 0 (by omega) (by simp [fu_laws_eqStateS_5])
      rw [c1]
      have hL' : lo_laws_eqStateS_5 (fu_laws_eqStateS_5 a0 a1 0) a0 a1 0 = _ := hL
      show (lo_laws_eqStateS_5 (fu_laws_eqStateS_5 a0 a1 0) a0 a1 0).bind _ = some ((eqL (α := (List (ByteArray × ByteArray × Unit)) × Unit) (fun x y : (List (ByteArray × ByteArray × Unit)) × Unit => eqB (.pair (.sl (.pair .str (.pair .str .unit))) .unit) x y) a0 a1, ()), ())
      rw [hL', List.drop_zero, List.drop_zero]
      cases eqL (α := (List (ByteArray × ByteArray × Unit)) × Unit) (fun x y : (List (ByteArray × ByteArray × Unit)) × Unit => eqB (.pair (.sl (.pair .str (.pair .str .unit))) .unit) x y) a0 a1 <;> rfl
    · have c1 : (nI a0.length != nI a1.length) = true := by simp [nI]; omega
      rw [c1]
      show _ = some ((eqL (α := (List (ByteArray × ByteArray × Unit)) × Unit) (fun x y : (List (ByteArray × ByteArray × Unit)) × Unit => eqB (.pair (.sl (.pair .str (.pair .str .unit))) .unit) x y) a0 a1, ()), ())
      rw [eqL_len (fun q => hl q.symm)]
      rfl
noncomputable def ou_laws_eqStateS_5 {R : Type} (k : Kt R) : ((Unit) ⊕ ((Bool) × Unit)) → Option R := (onSum (fun d => k (.exit 0) (((pa_laws_eqStateS 5).2 2).st d) (((pa_laws_eqStateS 5).2 2).nid)) (fun d => k .ret (((pa_laws_eqStateS 5).2 1).st d) (((pa_laws_eqStateS 5).2 1).nid)))
noncomputable def L_laws_eqStateS {R : Type} : Lt R pa_laws_eqStateS := (addL (pat := pa_laws_eqStateS) 5 (fun d k => (lo_laws_eqStateS_5 (fu_laws_eqStateS_5 d.1 d.2.1 d.2.2.1) d.1 d.2.1 d.2.2.1).bind (ou_laws_eqStateS_5 k)) noL)
theorem rd_laws_eqStateS_5 {R : Type} (nx : (pa_laws_eqStateS 5).1.D → Kt R → Option R) (k : Kt R) (v0 : List ((List (ByteArray × ByteArray × Unit)) × Unit)) (v1 : List ((List (ByteArray × ByteArray × Unit)) × Unit)) (v5 : Int) : ev Try.prog ⟨ta_laws_eqStateS, 0, 27, pa_laws_eqStateS⟩ L_laws_eqStateS co_laws_eqStateS_5 ((pa_laws_eqStateS 5).1.st (v0, v1, v5, ())) (pa_laws_eqStateS 5).1.nid (roundK 0 (pa_laws_eqStateS 5) nx k) = tr_laws_eqStateS_5  (fun d => nx d k) (fun d => k (.exit 0) (((pa_laws_eqStateS 5).2 2).st d) (((pa_laws_eqStateS 5).2 2).nid)) (fun d => k .ret (((pa_laws_eqStateS 5).2 1).st d) (((pa_laws_eqStateS 5).2 1).nid)) v0 v1 v5 := by kernel_rfl
theorem lp_laws_eqStateS_5 {R : Type} : ∀ (m : Nat) (d : (pa_laws_eqStateS 5).1.D) (k : Kt R), loopN 0 (pa_laws_eqStateS 5) (fun s nid k => ev Try.prog ⟨ta_laws_eqStateS, 0, 27, pa_laws_eqStateS⟩ L_laws_eqStateS co_laws_eqStateS_5 s nid k) m d k = (lo_laws_eqStateS_5 m d.1 d.2.1 d.2.2.1).bind (ou_laws_eqStateS_5 k)
  | 0, _, _ => rfl
  | m + 1, ⟨v0, v1, v5, ⟨⟩⟩, k => (rd_laws_eqStateS_5 _ k v0 v1 v5).trans ((congrArg (fun F => tr_laws_eqStateS_5  F (fun d => k (.exit 0) (((pa_laws_eqStateS 5).2 2).st d) (((pa_laws_eqStateS 5).2 2).nid)) (fun d => k .ret (((pa_laws_eqStateS 5).2 1).st d) (((pa_laws_eqStateS 5).2 1).nid)) v0 v1 v5) (funext fun d => lp_laws_eqStateS_5 m d k)).trans (na_laws_eqStateS_5 (f := ou_laws_eqStateS_5 k)  (fun d => lo_laws_eqStateS_5 m d.1 d.2.1 d.2.2.1) (fun d => some (.inl (d))) (fun d => some (.inr (d))) v0 v1 v5))
theorem en_laws_eqStateS (a0 : List ((List (ByteArray × ByteArray × Unit)) × Unit)) (a1 : List ((List (ByteArray × ByteArray × Unit)) × Unit)) : evalF Try.prog ta_laws_eqStateS pa_laws_eqStateS sg_laws_eqStateS Try.f127 L_laws_eqStateS (a0, a1, ()) = de_laws_eqStateS a0 a1 := by kernel_rfl
theorem si_laws_eqStateS : SigsOk Try.prog ta_laws_eqStateS := SigsOk.of fun f sd h => by
  try dsimp only [Tb.of, ta_laws_eqStateS] at h
  split at h
  · rename_i e; subst e; cases h; exact sn_laws_eqState
  cases h
theorem lk_laws_eqStateS_5 {R : Type} : LoopOk Try.prog R 27 0 pa_laws_eqStateS L_laws_eqStateS co_laws_eqStateS_5 :=
  loop_key (cfg := ⟨ta_laws_eqStateS, 0, 27, pa_laws_eqStateS⟩) (key := 5) (by kernel_rfl) (by kernel_rfl) si_laws_eqStateS rfl rfl (fun d k r h => ⟨fu_laws_eqStateS_5 d.1 d.2.1 d.2.2.1, (lp_laws_eqStateS_5 _ d k).trans h⟩) (fun c hc => by rw [show loopsIn co_laws_eqStateS_5 = [] from by kernel_rfl] at hc; cases hc)
theorem sn_laws_eqStateS : Callable Try.prog 127 ∧ Sound Try.prog 127 sd_laws_eqStateS.sg sd_laws_eqStateS.den :=
  fn_loops (pat := pa_laws_eqStateS) L_laws_eqStateS (by kernel_rfl) si_laws_eqStateS Try.func127 (by kernel_rfl) (by kernel_rfl) (fun c hc => by rw [show loopsIn (bodyOf Try.f127) = [co_laws_eqStateS_5] from by kernel_rfl] at hc; simp only [List.mem_cons, List.not_mem_nil, or_false] at hc; rcases hc with rfl <;> first | exact lk_laws_eqStateS_5) fun x r h => by
    obtain ⟨a0, a1, ⟨⟩⟩ := x; obtain ⟨y, h1, h2⟩ := Option.bind_eq_some_iff.1 (show (m_laws_eqStateS a0 a1).bind (fun r => some ((r, ()), (()))) = some r from h); cases h2; exact (en_laws_eqStateS a0 a1).trans (eq_laws_eqStateS a0 a1 _ h1)
def m_laws_eqWorld (a b : Int × ((List ByteArray) × (List (Int × ByteArray × Unit)) × Unit) × Bool × (Int × Int × Int × (Int × Int × Int × Int × Unit) × Int × Int × ((List (ByteArray × ByteArray × Unit)) × Unit) × Unit) × (List ((List (ByteArray × ByteArray × Unit)) × Unit)) × (List ByteArray) × Unit) : Option Bool := eqM (.pair (.int .i64) (.pair (.pair (.sl .str) (.pair (.sl (.pair (.int .i64) (.pair .str .unit))) .unit)) (.pair .bool (.pair (.pair (.int .i64) (.pair (.int .i64) (.pair (.int .i64) (.pair (.pair (.int .i64) (.pair (.int .i64) (.pair (.int .i64) (.pair (.int .i64) .unit)))) (.pair (.int .i64) (.pair (.int .i64) (.pair (.pair (.sl (.pair .str (.pair .str .unit))) .unit) .unit))))))) (.pair (.sl (.pair (.sl (.pair .str (.pair .str .unit))) .unit)) (.pair (.sl .str) .unit)))))) a b
def sg_laws_eqWorld : Sig := ⟨[.rd (.pair (.int .i64) (.pair (.pair (.sl .str) (.pair (.sl (.pair (.int .i64) (.pair .str .unit))) .unit)) (.pair .bool (.pair (.pair (.int .i64) (.pair (.int .i64) (.pair (.int .i64) (.pair (.pair (.int .i64) (.pair (.int .i64) (.pair (.int .i64) (.pair (.int .i64) .unit)))) (.pair (.int .i64) (.pair (.int .i64) (.pair (.pair (.sl (.pair .str (.pair .str .unit))) .unit) .unit))))))) (.pair (.sl (.pair (.sl (.pair .str (.pair .str .unit))) .unit)) (.pair (.sl .str) .unit)))))), .rd (.pair (.int .i64) (.pair (.pair (.sl .str) (.pair (.sl (.pair (.int .i64) (.pair .str .unit))) .unit)) (.pair .bool (.pair (.pair (.int .i64) (.pair (.int .i64) (.pair (.int .i64) (.pair (.pair (.int .i64) (.pair (.int .i64) (.pair (.int .i64) (.pair (.int .i64) .unit)))) (.pair (.int .i64) (.pair (.int .i64) (.pair (.pair (.sl (.pair .str (.pair .str .unit))) .unit) .unit))))))) (.pair (.sl (.pair (.sl (.pair .str (.pair .str .unit))) .unit)) (.pair (.sl .str) .unit))))))], [some 16, some 16], [.rd .bool], [none]⟩
noncomputable def sd_laws_eqWorld : SD := ⟨sg_laws_eqWorld, fun x => (m_laws_eqWorld x.1 x.2.1).bind fun r => some ((r, ()), (()))⟩
noncomputable def ta_laws_eqWorld : Tb := Tb.of fun f => if f = 32 then some sd_laws_eqDisk else if f = 41 then some sd_laws_eqStore else if f = 111 then some sd_laws_eqStringS else if f = 127 then some sd_laws_eqStateS else none
def pa_laws_eqWorld : Nat → Pat × (Nat → Pat) := fun k => (⟨[], [], []⟩, fun _ => ⟨[], [], []⟩)
noncomputable def de_laws_eqWorld (a0 : Int × ((List ByteArray) × (List (Int × ByteArray × Unit)) × Unit) × Bool × (Int × Int × Int × (Int × Int × Int × Int × Unit) × Int × Int × ((List (ByteArray × ByteArray × Unit)) × Unit) × Unit) × (List ((List (ByteArray × ByteArray × Unit)) × Unit)) × (List ByteArray) × Unit) (a1 : Int × ((List ByteArray) × (List (Int × ByteArray × Unit)) × Unit) × Bool × (Int × Int × Int × (Int × Int × Int × Int × Unit) × Int × Int × ((List (ByteArray × ByteArray × Unit)) × Unit) × Unit) × (List ((List (ByteArray × ByteArray × Unit)) × Unit)) × (List ByteArray) × Unit) : Option ((((Bool) × Unit) × (Unit))) :=
  bif a0.fst != a1.fst then some ((false, ()), ())
  else
    Option.bind (Option.bind (m_laws_eqDisk (a0.snd.fst.fst, a0.snd.fst.snd.fst, ()) (a1.snd.fst.fst, a1.snd.fst.snd.fst, ())) fun val => some ((val, ()), ())) fun val =>
      bif !val.fst.fst then some ((false, ()), ())
      else
        bif !a0.snd.snd.fst == a1.snd.snd.fst then some ((false, ()), ())
        else
          Option.bind
            (Option.bind
              (m_laws_eqStore
                (a0.snd.snd.snd.fst.fst, a0.snd.snd.snd.fst.snd.fst, a0.snd.snd.snd.fst.snd.snd.fst,
                  (a0.snd.snd.snd.fst.snd.snd.snd.fst.fst, a0.snd.snd.snd.fst.snd.snd.snd.fst.snd.fst, a0.snd.snd.snd.fst.snd.snd.snd.fst.snd.snd.fst, a0.snd.snd.snd.fst.snd.snd.snd.fst.snd.snd.snd.fst,
                    ()),
                  a0.snd.snd.snd.fst.snd.snd.snd.snd.fst, a0.snd.snd.snd.fst.snd.snd.snd.snd.snd.fst, (a0.snd.snd.snd.fst.snd.snd.snd.snd.snd.snd.fst.fst, ()), ())
                (a1.snd.snd.snd.fst.fst, a1.snd.snd.snd.fst.snd.fst, a1.snd.snd.snd.fst.snd.snd.fst,
                  (a1.snd.snd.snd.fst.snd.snd.snd.fst.fst, a1.snd.snd.snd.fst.snd.snd.snd.fst.snd.fst, a1.snd.snd.snd.fst.snd.snd.snd.fst.snd.snd.fst, a1.snd.snd.snd.fst.snd.snd.snd.fst.snd.snd.snd.fst,
                    ()),
                  a1.snd.snd.snd.fst.snd.snd.snd.snd.fst, a1.snd.snd.snd.fst.snd.snd.snd.snd.snd.fst, (a1.snd.snd.snd.fst.snd.snd.snd.snd.snd.snd.fst.fst, ()), ()))
              fun val => some ((val, ()), ()))
            fun val =>
            bif !val.fst.fst then some ((false, ()), ())
            else
              Option.bind (Option.bind (m_laws_eqStateS a0.snd.snd.snd.snd.fst a1.snd.snd.snd.snd.fst) fun val => some ((val, ()), ())) fun val =>
                bif !val.fst.fst then some ((false, ()), ())
                else
                  Option.bind (Option.bind (m_laws_eqStringS a0.snd.snd.snd.snd.snd.fst a1.snd.snd.snd.snd.snd.fst) fun val => some ((val, ()), ())) fun val =>
                    bif !val.fst.fst then some ((false, ()), ()) else some ((true, ()), ())
theorem eq_laws_eqWorld (a0 : Int × ((List ByteArray) × (List (Int × ByteArray × Unit)) × Unit) × Bool × (Int × Int × Int × (Int × Int × Int × Int × Unit) × Int × Int × ((List (ByteArray × ByteArray × Unit)) × Unit) × Unit) × (List ((List (ByteArray × ByteArray × Unit)) × Unit)) × (List ByteArray) × Unit) (a1 : Int × ((List ByteArray) × (List (Int × ByteArray × Unit)) × Unit) × Bool × (Int × Int × Int × (Int × Int × Int × Int × Unit) × Int × Int × ((List (ByteArray × ByteArray × Unit)) × Unit) × Unit) × (List ((List (ByteArray × ByteArray × Unit)) × Unit)) × (List ByteArray) × Unit) r (h : m_laws_eqWorld a0 a1 = some r) : de_laws_eqWorld a0 a1 = some ((r, ()), (())) := by
  obtain ⟨hc, hd, rfl⟩ := eqM_some (t := (.pair (.int .i64) (.pair (.pair (.sl .str) (.pair (.sl (.pair (.int .i64) (.pair .str .unit))) .unit)) (.pair .bool (.pair (.pair (.int .i64) (.pair (.int .i64) (.pair (.int .i64) (.pair (.pair (.int .i64) (.pair (.int .i64) (.pair (.int .i64) (.pair (.int .i64) .unit)))) (.pair (.int .i64) (.pair (.int .i64) (.pair (.pair (.sl (.pair .str (.pair .str .unit))) .unit) .unit))))))) (.pair (.sl (.pair (.sl (.pair .str (.pair .str .unit))) .unit)) (.pair (.sl .str) .unit))))))) h
  obtain ⟨hc0, hc1, hc2, hc3, hc4, hc5, _⟩ : fineB (.int .i64) a0.1 = true ∧ fineB (.pair (.sl .str) (.pair (.sl (.pair (.int .i64) (.pair .str .unit))) .unit)) a0.2.1 = true ∧ fineB .bool a0.2.2.1 = true ∧ fineB (.pair (.int .i64) (.pair (.int .i64) (.pair (.int .i64) (.pair (.pair (.int .i64) (.pair (.int .i64) (.pair (.int .i64) (.pair (.int .i64) .unit)))) (.pair (.int .i64) (.pair (.int .i64) (.pair (.pair (.sl (.pair .str (.pair .str .unit))) .unit) .unit))))))) a0.2.2.2.1 = true ∧ fineB (.sl (.pair (.sl (.pair .str (.pair .str .unit))) .unit)) a0.2.2.2.2.1 = true ∧ fineB (.sl .str) a0.2.2.2.2.2.1 = true ∧ True := by
    have s := hc
    obtain ⟨h0, s⟩ := fineB_pair s
    obtain ⟨h1, s⟩ := fineB_pair s
    obtain ⟨h2, s⟩ := fineB_pair s
    obtain ⟨h3, s⟩ := fineB_pair s
    obtain ⟨h4, s⟩ := fineB_pair s
    obtain ⟨h5, s⟩ := fineB_pair s
    exact ⟨h0, h1, h2, h3, h4, h5, trivial⟩
  obtain ⟨hd0, hd1, hd2, hd3, hd4, hd5, _⟩ : fineB (.int .i64) a1.1 = true ∧ fineB (.pair (.sl .str) (.pair (.sl (.pair (.int .i64) (.pair .str .unit))) .unit)) a1.2.1 = true ∧ fineB .bool a1.2.2.1 = true ∧ fineB (.pair (.int .i64) (.pair (.int .i64) (.pair (.int .i64) (.pair (.pair (.int .i64) (.pair (.int .i64) (.pair (.int .i64) (.pair (.int .i64) .unit)))) (.pair (.int .i64) (.pair (.int .i64) (.pair (.pair (.sl (.pair .str (.pair .str .unit))) .unit) .unit))))))) a1.2.2.2.1 = true ∧ fineB (.sl (.pair (.sl (.pair .str (.pair .str .unit))) .unit)) a1.2.2.2.2.1 = true ∧ fineB (.sl .str) a1.2.2.2.2.2.1 = true ∧ True := by
    have s := hd
    obtain ⟨h0, s⟩ := fineB_pair s
    obtain ⟨h1, s⟩ := fineB_pair s
    obtain ⟨h2, s⟩ := fineB_pair s
    obtain ⟨h3, s⟩ := fineB_pair s
    obtain ⟨h4, s⟩ := fineB_pair s
    obtain ⟨h5, s⟩ := fineB_pair s
    exact ⟨h0, h1, h2, h3, h4, h5, trivial⟩
  unfold de_laws_eqWorld
  have e0 : (a0.1 != a1.1) = !eqI a0.1 a1.1 := bneI _ _
  have e1 : m_laws_eqDisk a0.2.1 a1.2.1 = some (eqB (.pair (.sl .str) (.pair (.sl (.pair (.int .i64) (.pair .str .unit))) .unit)) a0.2.1 a1.2.1) := eqM_is (t := (.pair (.sl .str) (.pair (.sl (.pair (.int .i64) (.pair .str .unit))) .unit))) hc1 hd1
  have e1 : m_laws_eqDisk (a0.2.1.fst, a0.2.1.snd.fst, ()) (a1.2.1.fst, a1.2.1.snd.fst, ()) = some (eqB (.pair (.sl .str) (.pair (.sl (.pair (.int .i64) (.pair .str .unit))) .unit)) a0.2.1 a1.2.1) := e1
  have e2 : (!(a0.2.2.1 == a1.2.2.1)) = !eqO a0.2.2.1 a1.2.2.1 := rfl
  have e3 : m_laws_eqStore a0.2.2.2.1 a1.2.2.2.1 = some (eqB (.pair (.int .i64) (.pair (.int .i64) (.pair (.int .i64) (.pair (.pair (.int .i64) (.pair (.int .i64) (.pair (.int .i64) (.pair (.int .i64) .unit)))) (.pair (.int .i64) (.pair (.int .i64) (.pair (.pair (.sl (.pair .str (.pair .str .unit))) .unit) .unit))))))) a0.2.2.2.1 a1.2.2.2.1) := eqM_is (t := (.pair (.int .i64) (.pair (.int .i64) (.pair (.int .i64) (.pair (.pair (.int .i64) (.pair (.int .i64) (.pair (.int .i64) (.pair (.int .i64) .unit)))) (.pair (.int .i64) (.pair (.int .i64) (.pair (.pair (.sl (.pair .str (.pair .str .unit))) .unit) .unit)))))))) hc3 hd3
  have e3 : m_laws_eqStore (a0.2.2.2.1.fst, a0.2.2.2.1.snd.fst, a0.2.2.2.1.snd.snd.fst, (a0.2.2.2.1.snd.snd.snd.fst.fst, a0.2.2.2.1.snd.snd.snd.fst.snd.fst, a0.2.2.2.1.snd.snd.snd.fst.snd.snd.fst, a0.2.2.2.1.snd.snd.snd.fst.snd.snd.snd.fst, ()), a0.2.2.2.1.snd.snd.snd.snd.fst, a0.2.2.2.1.snd.snd.snd.snd.snd.fst, (a0.2.2.2.1.snd.snd.snd.snd.snd.snd.fst.fst, ()), ()) (a1.2.2.2.1.fst, a1.2.2.2.1.snd.fst, a1.2.2.2.1.snd.snd.fst, (a1.2.2.2.1.snd.snd.snd.fst.fst, a1.2.2.2.1.snd.snd.snd.fst.snd.fst, a1.2.2.2.1.snd.snd.snd.fst.snd.snd.fst, a1.2.2.2.1.snd.snd.snd.fst.snd.snd.snd.fst, ()), a1.2.2.2.1.snd.snd.snd.snd.fst, a1.2.2.2.1.snd.snd.snd.snd.snd.fst, (a1.2.2.2.1.snd.snd.snd.snd.snd.snd.fst.fst, ()), ()) = some (eqB (.pair (.int .i64) (.pair (.int .i64) (.pair (.int .i64) (.pair (.pair (.int .i64) (.pair (.int .i64) (.pair (.int .i64) (.pair (.int .i64) .unit)))) (.pair (.int .i64) (.pair (.int .i64) (.pair (.pair (.sl (.pair .str (.pair .str .unit))) .unit) .unit))))))) a0.2.2.2.1 a1.2.2.2.1) := e3
  have e4 : m_laws_eqStateS a0.2.2.2.2.1 a1.2.2.2.2.1 = some (eqB (.sl (.pair (.sl (.pair .str (.pair .str .unit))) .unit)) a0.2.2.2.2.1 a1.2.2.2.2.1) := eqM_is (t := (.sl (.pair (.sl (.pair .str (.pair .str .unit))) .unit))) hc4 hd4
  have e5 : m_laws_eqStringS a0.2.2.2.2.2.1 a1.2.2.2.2.2.1 = some (eqB (.sl .str) a0.2.2.2.2.2.1 a1.2.2.2.2.2.1) := eqM_is (t := (.sl .str)) hc5 hd5
  simp only [e0, e1, e2, e3, e4, e5, Option.bind_some]
  show _ = some (((eqI a0.1 a1.1 && (eqB (.pair (.sl .str) (.pair (.sl (.pair (.int .i64) (.pair .str .unit))) .unit)) a0.2.1 a1.2.1 && (eqO a0.2.2.1 a1.2.2.1 && (eqB (.pair (.int .i64) (.pair (.int .i64) (.pair (.int .i64) (.pair (.pair (.int .i64) (.pair (.int .i64) (.pair (.int .i64) (.pair (.int .i64) .unit)))) (.pair (.int .i64) (.pair (.int .i64) (.pair (.pair (.sl (.pair .str (.pair .str .unit))) .unit) .unit))))))) a0.2.2.2.1 a1.2.2.2.1 && (eqB (.sl (.pair (.sl (.pair .str (.pair .str .unit))) .unit)) a0.2.2.2.2.1 a1.2.2.2.2.1 && (eqB (.sl .str) a0.2.2.2.2.2.1 a1.2.2.2.2.2.1 && true)))))), ()), ())
  generalize eqI a0.1 a1.1 = p0
  generalize eqB (.pair (.sl .str) (.pair (.sl (.pair (.int .i64) (.pair .str .unit))) .unit)) a0.2.1 a1.2.1 = p1
  generalize eqO a0.2.2.1 a1.2.2.1 = p2
  generalize eqB (.pair (.int .i64) (.pair (.int .i64) (.pair (.int .i64) (.pair (.pair (.int .i64) (.pair (.int .i64) (.pair (.int .i64) (.pair (.int .i64) .unit)))) (.pair (.int .i64) (.pair (.int .i64) (.pair (.pair (.sl (.pair .str (.pair .str .unit))) .unit) .unit))))))) a0.2.2.2.1 a1.2.2.2.1 = p3
  generalize eqB (.sl (.pair (.sl (.pair .str (.pair .str .unit))) .unit)) a0.2.2.2.2.1 a1.2.2.2.2.1 = p4
  generalize eqB (.sl .str) a0.2.2.2.2.2.1 a1.2.2.2.2.2.1 = p5
  cases p0 <;> cases p1 <;> cases p2 <;> cases p3 <;> cases p4 <;> cases p5 <;> rfl
theorem en_laws_eqWorld (a0 : Int × ((List ByteArray) × (List (Int × ByteArray × Unit)) × Unit) × Bool × (Int × Int × Int × (Int × Int × Int × Int × Unit) × Int × Int × ((List (ByteArray × ByteArray × Unit)) × Unit) × Unit) × (List ((List (ByteArray × ByteArray × Unit)) × Unit)) × (List ByteArray) × Unit) (a1 : Int × ((List ByteArray) × (List (Int × ByteArray × Unit)) × Unit) × Bool × (Int × Int × Int × (Int × Int × Int × Int × Unit) × Int × Int × ((List (ByteArray × ByteArray × Unit)) × Unit) × Unit) × (List ((List (ByteArray × ByteArray × Unit)) × Unit)) × (List ByteArray) × Unit) : evalF Try.prog ta_laws_eqWorld pa_laws_eqWorld sg_laws_eqWorld Try.f44 noL (a0, a1, ()) = de_laws_eqWorld a0 a1 := by kernel_rfl
theorem si_laws_eqWorld : SigsOk Try.prog ta_laws_eqWorld := SigsOk.of fun f sd h => by
  try dsimp only [Tb.of, ta_laws_eqWorld] at h
  split at h
  · rename_i e; subst e; cases h; exact sn_laws_eqDisk
  split at h
  · rename_i e; subst e; cases h; exact sn_laws_eqStore
  split at h
  · rename_i e; subst e; cases h; exact sn_laws_eqStringS
  split at h
  · rename_i e; subst e; cases h; exact sn_laws_eqStateS
  cases h
theorem sn_laws_eqWorld : Callable Try.prog 44 ∧ Sound Try.prog 44 sd_laws_eqWorld.sg sd_laws_eqWorld.den :=
  fn_plain (pat := pa_laws_eqWorld) (by kernel_rfl) si_laws_eqWorld Try.func44 (by kernel_rfl) (by kernel_rfl) (by kernel_rfl) fun x r h => by
    obtain ⟨a0, a1, ⟨⟩⟩ := x; obtain ⟨y, h1, h2⟩ := Option.bind_eq_some_iff.1 (show (m_laws_eqWorld a0 a1).bind (fun r => some ((r, ()), (()))) = some r from h); cases h2; exact (en_laws_eqWorld a0 a1).trans (eq_laws_eqWorld a0 a1 _ h1)
def m_laws_szStringS (a : List ByteArray) (left : Int) : Option Int := szM (.sl .str) a left
def sg_laws_szStringS : Sig := ⟨[.rd (.sl .str), .rd (.int .i64)], [none, none], [.rd (.int .i64)], [none]⟩
noncomputable def sd_laws_szStringS : SD := ⟨sg_laws_szStringS, fun x => (m_laws_szStringS x.1 x.2.1).bind fun r => some ((r, ()), (()))⟩
noncomputable def ta_laws_szStringS : Tb := Tb.of fun f => none
def pa_laws_szStringS : Nat → Pat × (Nat → Pat) := fun k => if k = 6 then (⟨[.sl 0 0 .str], [(0, .lf (.d (.sl .str))), (1, .lf (.d (.int .i64))), (5, .lf (.d (.int .i64)))], []⟩, fun e => if e = 1 then ⟨[], [(4, .lf (.d (.int .i64)))], []⟩ else if e = 2 then ⟨[], [(1, .lf (.d (.int .i64)))], []⟩ else ⟨[], [], []⟩) else (⟨[], [], []⟩, fun _ => ⟨[], [], []⟩)
noncomputable def co_laws_szStringS_6 : Code := (loopsIn (bodyOf Try.f99)).getD 0 .skip
def fu_laws_szStringS_6 (v0 : List ByteArray) (v1 : Int) (v5 : Int) : Nat := ((v0.length : Int) - v5).toNat + 1
noncomputable def tr_laws_szStringS_6 {R : Type}  (NX : ((List ByteArray) × (Int) × (Int) × Unit) → Option R) (X2 : ((Int) × Unit) → Option R) (X1 : ((Int) × Unit) → Option R) (v0 : List ByteArray) (v1 : Int) (v5 : Int) : Option R :=
  bif decide (v5 < nI (List.length v0)) then
    bif decide (0 ≤ v5) then
      bif decide (v5 < nI (List.length v0)) then
        bif decide (IntKind.wrap IntKind.i64 (v1 - nI (ByteArray.size (List.getD v0 (Int.toNat v5) (ByteArray.mk #[])))) < 0) then X1 (-1, ())
        else NX (v0, IntKind.wrap IntKind.i64 (v1 - nI (ByteArray.size (List.getD v0 (Int.toNat v5) (ByteArray.mk #[])))), IntKind.wrap IntKind.i64 (v5 + 1), ())
      else none
    else none
  else X2 (v1, ())
noncomputable def lo_laws_szStringS_6 : Nat → (List ByteArray) → (Int) → (Int) →  Option (((Int) × Unit) ⊕ ((Int) × Unit))
  | 0, _, _, _ => none
  | m + 1, v0, v1, v5 => tr_laws_szStringS_6  (fun d => lo_laws_szStringS_6 m d.1 d.2.1 d.2.2.1) (fun d => some (.inl (d))) (fun d => some (.inr (d))) v0 v1 v5
theorem na_laws_szStringS_6 {R S : Type}  (NX : ((List ByteArray) × (Int) × (Int) × Unit) → Option R) (X2 : ((Int) × Unit) → Option R) (X1 : ((Int) × Unit) → Option R) (v0 : List ByteArray) (v1 : Int) (v5 : Int) (f : R → Option S) : tr_laws_szStringS_6  (fun d => (NX d).bind f) (fun d => (X2 d).bind f) (fun d => (X1 d).bind f) v0 v1 v5 = (tr_laws_szStringS_6  NX X2 X1 v0 v1 v5).bind f := by
  unfold tr_laws_szStringS_6
  simp only [cond_bind, ite_bind, onSum_bind, Option.bind_assoc, Option.bind_none, Option.bind_some]
noncomputable def de_laws_szStringS (a0 : List ByteArray) (a1 : Int) : Option ((((Int) × Unit) × (Unit))) :=
  bif decide (IntKind.wrap IntKind.i64 (a1 - nI (List.length a0)) < 0) then some ((-1, ()), ())
  else Option.bind ((fun d => lo_laws_szStringS_6 (fu_laws_szStringS_6 d.1 d.2.1 d.2.2.1) d.1 d.2.1 d.2.2.1) (a0, IntKind.wrap IntKind.i64 (a1 - nI (List.length a0)), 0, ())) fun val => onSum (fun val => some ((val.fst, ()), ())) (fun val => some ((val.fst, ()), ())) val
theorem eq_laws_szStringS (a0 : List ByteArray) (a1 : Int) r (h : m_laws_szStringS a0 a1 = some r) : de_laws_szStringS a0 a1 = some ((r, ()), (())) := by
  obtain ⟨hc, g0, g1, rfl⟩ := szM_some (t := .sl .str) h
  obtain ⟨hl0, hall⟩ := fineB_sl hc
  have hl : a0.length < 1152921504606846976 := hl0
  clear hl0 hc
  · unfold de_laws_szStringS
    have hw1 : IntKind.i64.wrap (a1 - nI a0.length) = a1 - (a0.length : Int) := wrap_ok (by simp only [nI]; omega) (by simp only [nI]; omega)
    rw [hw1]
    have hL := sz_loop (xs := a0) (ByteArray.mk #[]) ByteArray.size (g := fun m l i => lo_laws_szStringS_6 m a0 l i) (ok := fun l => .inl (l, ())) (bad := .inr (-1, ())) (fun m i l hi h0 h1 => by
      show lo_laws_szStringS_6 (m + 1) a0 l i = _
      simp only [lo_laws_szStringS_6, tr_laws_szStringS_6]
      rw [cLt hi, cLe0, wI (by omega)]
      simp only [cond_true, Int.toNat_natCast]
      have hf : ByteArray.size (List.getD (α := ByteArray) a0 i (ByteArray.mk #[])) < 1152921504606846976 := fineB_str (hall _ (getD_mem (ByteArray.mk #[]) hi))
      have hw : IntKind.i64.wrap (l - nI (ByteArray.size (List.getD (α := ByteArray) a0 i (ByteArray.mk #[])))) = l - (ByteArray.size (List.getD (α := ByteArray) a0 i (ByteArray.mk #[])) : Int) := wrap_ok (by simp only [nI]; omega) (by simp only [nI]; omega)
      simp only [hw]
    ) (fun m l => by
      show lo_laws_szStringS_6 (m + 1) a0 l a0.length = _
      simp only [lo_laws_szStringS_6, tr_laws_szStringS_6]
      rw [cLtF]
      rfl) (fu_laws_szStringS_6 a0 (a1 - (a0.length : Int)) 0) 0 (a1 - (a0.length : Int)) (by omega) (by simp [fu_laws_szStringS_6])
    have hW : wt (.sl .str) a0 = a0.length + (a0.map ByteArray.size).sum := rfl
    rw [hW]
    by_cases q : a1 - (a0.length : Int) < 0
    · simp only [decide_eq_true q, cond_true]; rw [if_pos (by omega)]
    · simp only [decide_eq_false q, cond_false]
      have hL := hL (by omega) (by omega)
      rw [List.drop_zero] at hL
      show (lo_laws_szStringS_6 (fu_laws_szStringS_6 a0 (a1 - (a0.length : Int)) 0) a0 (a1 - (a0.length : Int)) 0).bind _ = _
      have hL' : lo_laws_szStringS_6 (fu_laws_szStringS_6 a0 (a1 - (a0.length : Int)) 0) a0 (a1 - (a0.length : Int)) 0 = _ := hL
      rw [hL']
      have hsum : a1 - ((a0.length + (a0.map ByteArray.size).sum : Nat) : Int) = a1 - (a0.length : Int) - ((a0.map ByteArray.size).sum : Int) := by omega
      rw [hsum]
      by_cases q2 : a1 - (a0.length : Int) - ((a0.map ByteArray.size).sum : Int) < 0
      · simp only [if_pos q2]; rfl
      · simp only [if_neg q2]; rfl
noncomputable def ou_laws_szStringS_6 {R : Type} (k : Kt R) : (((Int) × Unit) ⊕ ((Int) × Unit)) → Option R := (onSum (fun d => k (.exit 0) (((pa_laws_szStringS 6).2 2).st d) (((pa_laws_szStringS 6).2 2).nid)) (fun d => k .ret (((pa_laws_szStringS 6).2 1).st d) (((pa_laws_szStringS 6).2 1).nid)))
noncomputable def L_laws_szStringS {R : Type} : Lt R pa_laws_szStringS := (addL (pat := pa_laws_szStringS) 6 (fun d k => (lo_laws_szStringS_6 (fu_laws_szStringS_6 d.1 d.2.1 d.2.2.1) d.1 d.2.1 d.2.2.1).bind (ou_laws_szStringS_6 k)) noL)
theorem rd_laws_szStringS_6 {R : Type} (nx : (pa_laws_szStringS 6).1.D → Kt R → Option R) (k : Kt R) (v0 : List ByteArray) (v1 : Int) (v5 : Int) : ev Try.prog ⟨ta_laws_szStringS, 0, 28, pa_laws_szStringS⟩ L_laws_szStringS co_laws_szStringS_6 ((pa_laws_szStringS 6).1.st (v0, v1, v5, ())) (pa_laws_szStringS 6).1.nid (roundK 0 (pa_laws_szStringS 6) nx k) = tr_laws_szStringS_6  (fun d => nx d k) (fun d => k (.exit 0) (((pa_laws_szStringS 6).2 2).st d) (((pa_laws_szStringS 6).2 2).nid)) (fun d => k .ret (((pa_laws_szStringS 6).2 1).st d) (((pa_laws_szStringS 6).2 1).nid)) v0 v1 v5 := by kernel_rfl
theorem lp_laws_szStringS_6 {R : Type} : ∀ (m : Nat) (d : (pa_laws_szStringS 6).1.D) (k : Kt R), loopN 0 (pa_laws_szStringS 6) (fun s nid k => ev Try.prog ⟨ta_laws_szStringS, 0, 28, pa_laws_szStringS⟩ L_laws_szStringS co_laws_szStringS_6 s nid k) m d k = (lo_laws_szStringS_6 m d.1 d.2.1 d.2.2.1).bind (ou_laws_szStringS_6 k)
  | 0, _, _ => rfl
  | m + 1, ⟨v0, v1, v5, ⟨⟩⟩, k => (rd_laws_szStringS_6 _ k v0 v1 v5).trans ((congrArg (fun F => tr_laws_szStringS_6  F (fun d => k (.exit 0) (((pa_laws_szStringS 6).2 2).st d) (((pa_laws_szStringS 6).2 2).nid)) (fun d => k .ret (((pa_laws_szStringS 6).2 1).st d) (((pa_laws_szStringS 6).2 1).nid)) v0 v1 v5) (funext fun d => lp_laws_szStringS_6 m d k)).trans (na_laws_szStringS_6 (f := ou_laws_szStringS_6 k)  (fun d => lo_laws_szStringS_6 m d.1 d.2.1 d.2.2.1) (fun d => some (.inl (d))) (fun d => some (.inr (d))) v0 v1 v5))
theorem en_laws_szStringS (a0 : List ByteArray) (a1 : Int) : evalF Try.prog ta_laws_szStringS pa_laws_szStringS sg_laws_szStringS Try.f99 L_laws_szStringS (a0, a1, ()) = de_laws_szStringS a0 a1 := by kernel_rfl
theorem si_laws_szStringS : SigsOk Try.prog ta_laws_szStringS := SigsOk.of fun f sd h => by
  try dsimp only [Tb.of, ta_laws_szStringS] at h
  cases h
theorem lk_laws_szStringS_6 {R : Type} : LoopOk Try.prog R 28 0 pa_laws_szStringS L_laws_szStringS co_laws_szStringS_6 :=
  loop_key (cfg := ⟨ta_laws_szStringS, 0, 28, pa_laws_szStringS⟩) (key := 6) (by kernel_rfl) (by kernel_rfl) si_laws_szStringS rfl rfl (fun d k r h => ⟨fu_laws_szStringS_6 d.1 d.2.1 d.2.2.1, (lp_laws_szStringS_6 _ d k).trans h⟩) (fun c hc => by rw [show loopsIn co_laws_szStringS_6 = [] from by kernel_rfl] at hc; cases hc)
theorem sn_laws_szStringS : Callable Try.prog 99 ∧ Sound Try.prog 99 sd_laws_szStringS.sg sd_laws_szStringS.den :=
  fn_loops (pat := pa_laws_szStringS) L_laws_szStringS (by kernel_rfl) si_laws_szStringS Try.func99 (by kernel_rfl) (by kernel_rfl) (fun c hc => by rw [show loopsIn (bodyOf Try.f99) = [co_laws_szStringS_6] from by kernel_rfl] at hc; simp only [List.mem_cons, List.not_mem_nil, or_false] at hc; rcases hc with rfl <;> first | exact lk_laws_szStringS_6) fun x r h => by
    obtain ⟨a0, a1, ⟨⟩⟩ := x; obtain ⟨y, h1, h2⟩ := Option.bind_eq_some_iff.1 (show (m_laws_szStringS a0 a1).bind (fun r => some ((r, ()), (()))) = some r from h); cases h2; exact (en_laws_szStringS a0 a1).trans (eq_laws_szStringS a0 a1 _ h1)
def m_laws_szWrite (a : Int × ByteArray × Unit) (left : Int) : Option Int := szM (.pair (.int .i64) (.pair .str .unit)) a left
def sg_laws_szWrite : Sig := ⟨[.rd (.pair (.int .i64) (.pair .str .unit)), .rd (.int .i64)], [some 2, none], [.rd (.int .i64)], [none]⟩
noncomputable def sd_laws_szWrite : SD := ⟨sg_laws_szWrite, fun x => (m_laws_szWrite x.1 x.2.1).bind fun r => some ((r, ()), (()))⟩
noncomputable def ta_laws_szWrite : Tb := Tb.of fun f => none
def pa_laws_szWrite : Nat → Pat × (Nat → Pat) := fun k => (⟨[], [], []⟩, fun _ => ⟨[], [], []⟩)
noncomputable def de_laws_szWrite (a0 : Int × ByteArray × Unit) (a1 : Int) : Option ((((Int) × Unit) × (Unit))) :=
  bif decide (IntKind.wrap IntKind.i64 (a1 - nI (ByteArray.size a0.snd.fst)) < 0) then some ((-1, ()), ()) else some ((IntKind.wrap IntKind.i64 (a1 - nI (ByteArray.size a0.snd.fst)), ()), ())
theorem eq_laws_szWrite (a0 : Int × ByteArray × Unit) (a1 : Int) r (h : m_laws_szWrite a0 a1 = some r) : de_laws_szWrite a0 a1 = some ((r, ()), (())) := by
  obtain ⟨hc, g0, g1, rfl⟩ := szM_some (t := (.pair (.int .i64) (.pair .str .unit))) h
  obtain ⟨hc0, hc1, _⟩ : fineB (.int .i64) a0.1 = true ∧ fineB .str a0.2.1 = true ∧ True := by
    have s := hc
    obtain ⟨h0, s⟩ := fineB_pair s
    obtain ⟨h1, s⟩ := fineB_pair s
    exact ⟨h0, h1, trivial⟩
  unfold de_laws_szWrite
  have hwt : (wt (.pair (.int .i64) (.pair .str .unit)) a0 : Int) = (ByteArray.size a0.2.1 : Int) := by simp only [wt]; omega
  rw [hwt]
  have hs0 : ByteArray.size a0.2.1 < 1152921504606846976 := fineB_str hc1
  have e0 : IntKind.i64.wrap (a1 - nI (ByteArray.size a0.2.1)) = a1 - (ByteArray.size a0.2.1 : Int) := wrap_ok (by simp only [nI]; omega) (by simp only [nI]; omega)
  simp only [e0]
  by_cases q0 : a1 - (ByteArray.size a0.2.1 : Int) < 0
  · simp only [decide_eq_true q0, cond_true]; try rw [if_pos (by omega)]
  · simp only [decide_eq_false q0, cond_false]
    try rw [if_neg q0]
theorem en_laws_szWrite (a0 : Int × ByteArray × Unit) (a1 : Int) : evalF Try.prog ta_laws_szWrite pa_laws_szWrite sg_laws_szWrite Try.f177 noL (a0, a1, ()) = de_laws_szWrite a0 a1 := by kernel_rfl
theorem si_laws_szWrite : SigsOk Try.prog ta_laws_szWrite := SigsOk.of fun f sd h => by
  try dsimp only [Tb.of, ta_laws_szWrite] at h
  cases h
theorem sn_laws_szWrite : Callable Try.prog 177 ∧ Sound Try.prog 177 sd_laws_szWrite.sg sd_laws_szWrite.den :=
  fn_plain (pat := pa_laws_szWrite) (by kernel_rfl) si_laws_szWrite Try.func177 (by kernel_rfl) (by kernel_rfl) (by kernel_rfl) fun x r h => by
    obtain ⟨a0, a1, ⟨⟩⟩ := x; obtain ⟨y, h1, h2⟩ := Option.bind_eq_some_iff.1 (show (m_laws_szWrite a0 a1).bind (fun r => some ((r, ()), (()))) = some r from h); cases h2; exact (en_laws_szWrite a0 a1).trans (eq_laws_szWrite a0 a1 _ h1)
def m_laws_szWriteS (a : List (Int × ByteArray × Unit)) (left : Int) : Option Int := szM (.sl (.pair (.int .i64) (.pair .str .unit))) a left
def sg_laws_szWriteS : Sig := ⟨[.rd (.sl (.pair (.int .i64) (.pair .str .unit))), .rd (.int .i64)], [none, none], [.rd (.int .i64)], [none]⟩
noncomputable def sd_laws_szWriteS : SD := ⟨sg_laws_szWriteS, fun x => (m_laws_szWriteS x.1 x.2.1).bind fun r => some ((r, ()), (()))⟩
noncomputable def ta_laws_szWriteS : Tb := Tb.of fun f => if f = 177 then some sd_laws_szWrite else none
def pa_laws_szWriteS : Nat → Pat × (Nat → Pat) := fun k => if k = 6 then (⟨[.sl 0 0 (.pair (.int .i64) (.pair .str .unit))], [(0, .lf (.d (.sl (.pair (.int .i64) (.pair .str .unit))))), (1, .lf (.d (.int .i64))), (5, .lf (.d (.int .i64)))], []⟩, fun e => if e = 1 then ⟨[], [(4, .lf (.d (.int .i64)))], []⟩ else if e = 2 then ⟨[], [(1, .lf (.d (.int .i64)))], []⟩ else ⟨[], [], []⟩) else (⟨[], [], []⟩, fun _ => ⟨[], [], []⟩)
noncomputable def co_laws_szWriteS_6 : Code := (loopsIn (bodyOf Try.f100)).getD 0 .skip
def fu_laws_szWriteS_6 (v0 : List (Int × ByteArray × Unit)) (v1 : Int) (v5 : Int) : Nat := ((v0.length : Int) - v5).toNat + 1
noncomputable def tr_laws_szWriteS_6 {R : Type}  (NX : ((List (Int × ByteArray × Unit)) × (Int) × (Int) × Unit) → Option R) (X2 : ((Int) × Unit) → Option R) (X1 : ((Int) × Unit) → Option R) (v0 : List (Int × ByteArray × Unit)) (v1 : Int) (v5 : Int) : Option R :=
  bif decide (v5 < nI (List.length v0)) then
    bif decide (0 ≤ v5) then
      bif decide (v5 < nI (List.length v0)) then
        Option.bind
          (Option.bind (m_laws_szWrite ((List.getD v0 (Int.toNat v5) (0, ByteArray.mk #[], ())).fst, (List.getD v0 (Int.toNat v5) (0, ByteArray.mk #[], ())).snd.fst, ()) v1) fun val =>
            some ((val, ()), ()))
          fun val => bif decide (val.fst.fst < 0) then X1 (-1, ()) else NX (v0, val.fst.fst, IntKind.wrap IntKind.i64 (v5 + 1), ())
      else none
    else none
  else X2 (v1, ())
noncomputable def lo_laws_szWriteS_6 : Nat → (List (Int × ByteArray × Unit)) → (Int) → (Int) →  Option (((Int) × Unit) ⊕ ((Int) × Unit))
  | 0, _, _, _ => none
  | m + 1, v0, v1, v5 => tr_laws_szWriteS_6  (fun d => lo_laws_szWriteS_6 m d.1 d.2.1 d.2.2.1) (fun d => some (.inl (d))) (fun d => some (.inr (d))) v0 v1 v5
theorem na_laws_szWriteS_6 {R S : Type}  (NX : ((List (Int × ByteArray × Unit)) × (Int) × (Int) × Unit) → Option R) (X2 : ((Int) × Unit) → Option R) (X1 : ((Int) × Unit) → Option R) (v0 : List (Int × ByteArray × Unit)) (v1 : Int) (v5 : Int) (f : R → Option S) : tr_laws_szWriteS_6  (fun d => (NX d).bind f) (fun d => (X2 d).bind f) (fun d => (X1 d).bind f) v0 v1 v5 = (tr_laws_szWriteS_6  NX X2 X1 v0 v1 v5).bind f := by
  unfold tr_laws_szWriteS_6
  simp only [cond_bind, ite_bind, onSum_bind, Option.bind_assoc, Option.bind_none, Option.bind_some]
noncomputable def de_laws_szWriteS (a0 : List (Int × ByteArray × Unit)) (a1 : Int) : Option ((((Int) × Unit) × (Unit))) :=
  bif decide (IntKind.wrap IntKind.i64 (a1 - nI (List.length a0)) < 0) then some ((-1, ()), ())
  else Option.bind ((fun d => lo_laws_szWriteS_6 (fu_laws_szWriteS_6 d.1 d.2.1 d.2.2.1) d.1 d.2.1 d.2.2.1) (a0, IntKind.wrap IntKind.i64 (a1 - nI (List.length a0)), 0, ())) fun val => onSum (fun val => some ((val.fst, ()), ())) (fun val => some ((val.fst, ()), ())) val
theorem eq_laws_szWriteS (a0 : List (Int × ByteArray × Unit)) (a1 : Int) r (h : m_laws_szWriteS a0 a1 = some r) : de_laws_szWriteS a0 a1 = some ((r, ()), (())) := by
  obtain ⟨hc, g0, g1, rfl⟩ := szM_some (t := .sl (.pair (.int .i64) (.pair .str .unit))) h
  obtain ⟨hl0, hall⟩ := fineB_sl hc
  have hl : a0.length < 1152921504606846976 := hl0
  clear hl0 hc
  · unfold de_laws_szWriteS
    have hw1 : IntKind.i64.wrap (a1 - nI a0.length) = a1 - (a0.length : Int) := wrap_ok (by simp only [nI]; omega) (by simp only [nI]; omega)
    rw [hw1]
    have hL := sz_loop (xs := a0) (0, (ByteArray.mk #[]), ()) (fun x : Int × ByteArray × Unit => wt (.pair (.int .i64) (.pair .str .unit)) x) (g := fun m l i => lo_laws_szWriteS_6 m a0 l i) (ok := fun l => .inl (l, ())) (bad := .inr (-1, ())) (fun m i l hi h0 h1 => by
      show lo_laws_szWriteS_6 (m + 1) a0 l i = _
      simp only [lo_laws_szWriteS_6, tr_laws_szWriteS_6]
      rw [cLt hi, cLe0, wI (by omega)]
      simp only [cond_true, Int.toNat_natCast]
      have hE : m_laws_szWrite ((List.getD (α := Int × ByteArray × Unit) a0 i (0, (ByteArray.mk #[]), ())).fst, (List.getD (α := Int × ByteArray × Unit) a0 i (0, (ByteArray.mk #[]), ())).snd.fst, ()) l = some (if l - (wt (.pair (.int .i64) (.pair .str .unit)) (List.getD (α := Int × ByteArray × Unit) a0 i (0, (ByteArray.mk #[]), ())) : Int) < 0 then -1 else l - wt (.pair (.int .i64) (.pair .str .unit)) (List.getD (α := Int × ByteArray × Unit) a0 i (0, (ByteArray.mk #[]), ()))) := by
        exact szM_is (t := (.pair (.int .i64) (.pair .str .unit))) (x := (List.getD (α := Int × ByteArray × Unit) a0 i (0, (ByteArray.mk #[]), ()))) (hall _ (getD_mem (0, (ByteArray.mk #[]), ()) hi)) h0 h1
      rw [hE]
      by_cases q : l - (wt (.pair (.int .i64) (.pair .str .unit)) (List.getD (α := Int × ByteArray × Unit) a0 i (0, (ByteArray.mk #[]), ())) : Int) < 0
      · simp only [if_pos q, decide_eq_true q, Option.bind_some, cond_true]; rfl
      · simp only [if_neg q, decide_eq_false q, Option.bind_some, cond_false]
    ) (fun m l => by
      show lo_laws_szWriteS_6 (m + 1) a0 l a0.length = _
      simp only [lo_laws_szWriteS_6, tr_laws_szWriteS_6]
      rw [cLtF]
      rfl) (fu_laws_szWriteS_6 a0 (a1 - (a0.length : Int)) 0) 0 (a1 - (a0.length : Int)) (by omega) (by simp [fu_laws_szWriteS_6])
    have hW : wt (.sl (.pair (.int .i64) (.pair .str .unit))) a0 = a0.length + (a0.map (fun x : Int × ByteArray × Unit => wt (.pair (.int .i64) (.pair .str .unit)) x)).sum := rfl
    rw [hW]
    by_cases q : a1 - (a0.length : Int) < 0
    · simp only [decide_eq_true q, cond_true]; rw [if_pos (by omega)]
    · simp only [decide_eq_false q, cond_false]
      have hL := hL (by omega) (by omega)
      rw [List.drop_zero] at hL
      show (lo_laws_szWriteS_6 (fu_laws_szWriteS_6 a0 (a1 - (a0.length : Int)) 0) a0 (a1 - (a0.length : Int)) 0).bind _ = _
      have hL' : lo_laws_szWriteS_6 (fu_laws_szWriteS_6 a0 (a1 - (a0.length : Int)) 0) a0 (a1 - (a0.length : Int)) 0 = _ := hL
      rw [hL']
      have hsum : a1 - ((a0.length + (a0.map (fun x : Int × ByteArray × Unit => wt (.pair (.int .i64) (.pair .str .unit)) x)).sum : Nat) : Int) = a1 - (a0.length : Int) - ((a0.map (fun x : Int × ByteArray × Unit => wt (.pair (.int .i64) (.pair .str .unit)) x)).sum : Int) := by omega
      rw [hsum]
      by_cases q2 : a1 - (a0.length : Int) - ((a0.map (fun x : Int × ByteArray × Unit => wt (.pair (.int .i64) (.pair .str .unit)) x)).sum : Int) < 0
      · simp only [if_pos q2]; rfl
      · simp only [if_neg q2]; rfl
noncomputable def ou_laws_szWriteS_6 {R : Type} (k : Kt R) : (((Int) × Unit) ⊕ ((Int) × Unit)) → Option R := (onSum (fun d => k (.exit 0) (((pa_laws_szWriteS 6).2 2).st d) (((pa_laws_szWriteS 6).2 2).nid)) (fun d => k .ret (((pa_laws_szWriteS 6).2 1).st d) (((pa_laws_szWriteS 6).2 1).nid)))
noncomputable def L_laws_szWriteS {R : Type} : Lt R pa_laws_szWriteS := (addL (pat := pa_laws_szWriteS) 6 (fun d k => (lo_laws_szWriteS_6 (fu_laws_szWriteS_6 d.1 d.2.1 d.2.2.1) d.1 d.2.1 d.2.2.1).bind (ou_laws_szWriteS_6 k)) noL)
theorem rd_laws_szWriteS_6 {R : Type} (nx : (pa_laws_szWriteS 6).1.D → Kt R → Option R) (k : Kt R) (v0 : List (Int × ByteArray × Unit)) (v1 : Int) (v5 : Int) : ev Try.prog ⟨ta_laws_szWriteS, 0, 27, pa_laws_szWriteS⟩ L_laws_szWriteS co_laws_szWriteS_6 ((pa_laws_szWriteS 6).1.st (v0, v1, v5, ())) (pa_laws_szWriteS 6).1.nid (roundK 0 (pa_laws_szWriteS 6) nx k) = tr_laws_szWriteS_6  (fun d => nx d k) (fun d => k (.exit 0) (((pa_laws_szWriteS 6).2 2).st d) (((pa_laws_szWriteS 6).2 2).nid)) (fun d => k .ret (((pa_laws_szWriteS 6).2 1).st d) (((pa_laws_szWriteS 6).2 1).nid)) v0 v1 v5 := by kernel_rfl
theorem lp_laws_szWriteS_6 {R : Type} : ∀ (m : Nat) (d : (pa_laws_szWriteS 6).1.D) (k : Kt R), loopN 0 (pa_laws_szWriteS 6) (fun s nid k => ev Try.prog ⟨ta_laws_szWriteS, 0, 27, pa_laws_szWriteS⟩ L_laws_szWriteS co_laws_szWriteS_6 s nid k) m d k = (lo_laws_szWriteS_6 m d.1 d.2.1 d.2.2.1).bind (ou_laws_szWriteS_6 k)
  | 0, _, _ => rfl
  | m + 1, ⟨v0, v1, v5, ⟨⟩⟩, k => (rd_laws_szWriteS_6 _ k v0 v1 v5).trans ((congrArg (fun F => tr_laws_szWriteS_6  F (fun d => k (.exit 0) (((pa_laws_szWriteS 6).2 2).st d) (((pa_laws_szWriteS 6).2 2).nid)) (fun d => k .ret (((pa_laws_szWriteS 6).2 1).st d) (((pa_laws_szWriteS 6).2 1).nid)) v0 v1 v5) (funext fun d => lp_laws_szWriteS_6 m d k)).trans (na_laws_szWriteS_6 (f := ou_laws_szWriteS_6 k)  (fun d => lo_laws_szWriteS_6 m d.1 d.2.1 d.2.2.1) (fun d => some (.inl (d))) (fun d => some (.inr (d))) v0 v1 v5))
theorem en_laws_szWriteS (a0 : List (Int × ByteArray × Unit)) (a1 : Int) : evalF Try.prog ta_laws_szWriteS pa_laws_szWriteS sg_laws_szWriteS Try.f100 L_laws_szWriteS (a0, a1, ()) = de_laws_szWriteS a0 a1 := by kernel_rfl
theorem si_laws_szWriteS : SigsOk Try.prog ta_laws_szWriteS := SigsOk.of fun f sd h => by
  try dsimp only [Tb.of, ta_laws_szWriteS] at h
  split at h
  · rename_i e; subst e; cases h; exact sn_laws_szWrite
  cases h
theorem lk_laws_szWriteS_6 {R : Type} : LoopOk Try.prog R 27 0 pa_laws_szWriteS L_laws_szWriteS co_laws_szWriteS_6 :=
  loop_key (cfg := ⟨ta_laws_szWriteS, 0, 27, pa_laws_szWriteS⟩) (key := 6) (by kernel_rfl) (by kernel_rfl) si_laws_szWriteS rfl rfl (fun d k r h => ⟨fu_laws_szWriteS_6 d.1 d.2.1 d.2.2.1, (lp_laws_szWriteS_6 _ d k).trans h⟩) (fun c hc => by rw [show loopsIn co_laws_szWriteS_6 = [] from by kernel_rfl] at hc; cases hc)
theorem sn_laws_szWriteS : Callable Try.prog 100 ∧ Sound Try.prog 100 sd_laws_szWriteS.sg sd_laws_szWriteS.den :=
  fn_loops (pat := pa_laws_szWriteS) L_laws_szWriteS (by kernel_rfl) si_laws_szWriteS Try.func100 (by kernel_rfl) (by kernel_rfl) (fun c hc => by rw [show loopsIn (bodyOf Try.f100) = [co_laws_szWriteS_6] from by kernel_rfl] at hc; simp only [List.mem_cons, List.not_mem_nil, or_false] at hc; rcases hc with rfl <;> first | exact lk_laws_szWriteS_6) fun x r h => by
    obtain ⟨a0, a1, ⟨⟩⟩ := x; obtain ⟨y, h1, h2⟩ := Option.bind_eq_some_iff.1 (show (m_laws_szWriteS a0 a1).bind (fun r => some ((r, ()), (()))) = some r from h); cases h2; exact (en_laws_szWriteS a0 a1).trans (eq_laws_szWriteS a0 a1 _ h1)
def m_laws_szDisk (a : (List ByteArray) × (List (Int × ByteArray × Unit)) × Unit) (left : Int) : Option Int := szM (.pair (.sl .str) (.pair (.sl (.pair (.int .i64) (.pair .str .unit))) .unit)) a left
def sg_laws_szDisk : Sig := ⟨[.rd (.pair (.sl .str) (.pair (.sl (.pair (.int .i64) (.pair .str .unit))) .unit)), .rd (.int .i64)], [some 2, none], [.rd (.int .i64)], [none]⟩
noncomputable def sd_laws_szDisk : SD := ⟨sg_laws_szDisk, fun x => (m_laws_szDisk x.1 x.2.1).bind fun r => some ((r, ()), (()))⟩
noncomputable def ta_laws_szDisk : Tb := Tb.of fun f => if f = 99 then some sd_laws_szStringS else if f = 100 then some sd_laws_szWriteS else none
def pa_laws_szDisk : Nat → Pat × (Nat → Pat) := fun k => (⟨[], [], []⟩, fun _ => ⟨[], [], []⟩)
noncomputable def de_laws_szDisk (a0 : (List ByteArray) × (List (Int × ByteArray × Unit)) × Unit) (a1 : Int) : Option ((((Int) × Unit) × (Unit))) :=
  Option.bind (Option.bind (m_laws_szStringS a0.fst a1) fun val => some ((val, ()), ())) fun val =>
    bif decide (val.fst.fst < 0) then some ((-1, ()), ())
    else
      Option.bind (Option.bind (m_laws_szWriteS a0.snd.fst val.fst.fst) fun val => some ((val, ()), ())) fun val =>
        bif decide (val.fst.fst < 0) then some ((-1, ()), ()) else some ((val.fst.fst, ()), ())
theorem eq_laws_szDisk (a0 : (List ByteArray) × (List (Int × ByteArray × Unit)) × Unit) (a1 : Int) r (h : m_laws_szDisk a0 a1 = some r) : de_laws_szDisk a0 a1 = some ((r, ()), (())) := by
  obtain ⟨hc, g0, g1, rfl⟩ := szM_some (t := (.pair (.sl .str) (.pair (.sl (.pair (.int .i64) (.pair .str .unit))) .unit))) h
  obtain ⟨hc0, hc1, _⟩ : fineB (.sl .str) a0.1 = true ∧ fineB (.sl (.pair (.int .i64) (.pair .str .unit))) a0.2.1 = true ∧ True := by
    have s := hc
    obtain ⟨h0, s⟩ := fineB_pair s
    obtain ⟨h1, s⟩ := fineB_pair s
    exact ⟨h0, h1, trivial⟩
  unfold de_laws_szDisk
  have hwt : (wt (.pair (.sl .str) (.pair (.sl (.pair (.int .i64) (.pair .str .unit))) .unit)) a0 : Int) = (wt (.sl .str) a0.1 : Int) + (wt (.sl (.pair (.int .i64) (.pair .str .unit))) a0.2.1 : Int) := by simp only [wt]; omega
  rw [hwt]
  have e0 : m_laws_szStringS a0.1 (a1) = some (if a1 - (wt (.sl .str) a0.1 : Int) < 0 then -1 else a1 - (wt (.sl .str) a0.1 : Int)) := szM_is (t := (.sl .str)) (x := a0.1) hc0 (by omega) (by omega)
  simp only [show m_laws_szStringS a0.1 (a1) = _ from e0, Option.bind_some]
  by_cases q0 : a1 - (wt (.sl .str) a0.1 : Int) < 0
  · simp only [if_pos q0, show decide ((-1 : Int) < 0) = true from rfl, cond_true]; try rw [if_pos (by omega)]
  · simp only [if_neg q0, decide_eq_false q0, cond_false]
    have e1 : m_laws_szWriteS a0.2.1 (a1 - (wt (.sl .str) a0.1 : Int)) = some (if a1 - (wt (.sl .str) a0.1 : Int) - (wt (.sl (.pair (.int .i64) (.pair .str .unit))) a0.2.1 : Int) < 0 then -1 else a1 - (wt (.sl .str) a0.1 : Int) - (wt (.sl (.pair (.int .i64) (.pair .str .unit))) a0.2.1 : Int)) := szM_is (t := (.sl (.pair (.int .i64) (.pair .str .unit)))) (x := a0.2.1) hc1 (by omega) (by omega)
    simp only [show m_laws_szWriteS a0.2.1 (a1 - (wt (.sl .str) a0.1 : Int)) = _ from e1, Option.bind_some]
    by_cases q1 : a1 - (wt (.sl .str) a0.1 : Int) - (wt (.sl (.pair (.int .i64) (.pair .str .unit))) a0.2.1 : Int) < 0
    · simp only [if_pos q1, show decide ((-1 : Int) < 0) = true from rfl, cond_true]; try rw [if_pos (by omega)]
    · simp only [if_neg q1, decide_eq_false q1, cond_false]
      rw [if_neg (by omega)]
      simp only [Int.sub_sub, Int.add_assoc]
theorem en_laws_szDisk (a0 : (List ByteArray) × (List (Int × ByteArray × Unit)) × Unit) (a1 : Int) : evalF Try.prog ta_laws_szDisk pa_laws_szDisk sg_laws_szDisk Try.f26 noL (a0, a1, ()) = de_laws_szDisk a0 a1 := by kernel_rfl
theorem si_laws_szDisk : SigsOk Try.prog ta_laws_szDisk := SigsOk.of fun f sd h => by
  try dsimp only [Tb.of, ta_laws_szDisk] at h
  split at h
  · rename_i e; subst e; cases h; exact sn_laws_szStringS
  split at h
  · rename_i e; subst e; cases h; exact sn_laws_szWriteS
  cases h
theorem sn_laws_szDisk : Callable Try.prog 26 ∧ Sound Try.prog 26 sd_laws_szDisk.sg sd_laws_szDisk.den :=
  fn_plain (pat := pa_laws_szDisk) (by kernel_rfl) si_laws_szDisk Try.func26 (by kernel_rfl) (by kernel_rfl) (by kernel_rfl) fun x r h => by
    obtain ⟨a0, a1, ⟨⟩⟩ := x; obtain ⟨y, h1, h2⟩ := Option.bind_eq_some_iff.1 (show (m_laws_szDisk a0 a1).bind (fun r => some ((r, ()), (()))) = some r from h); cases h2; exact (en_laws_szDisk a0 a1).trans (eq_laws_szDisk a0 a1 _ h1)
def m_laws_szPair (a : ByteArray × ByteArray × Unit) (left : Int) : Option Int := szM (.pair .str (.pair .str .unit)) a left
def sg_laws_szPair : Sig := ⟨[.rd (.pair .str (.pair .str .unit)), .rd (.int .i64)], [some 2, none], [.rd (.int .i64)], [none]⟩
noncomputable def sd_laws_szPair : SD := ⟨sg_laws_szPair, fun x => (m_laws_szPair x.1 x.2.1).bind fun r => some ((r, ()), (()))⟩
noncomputable def ta_laws_szPair : Tb := Tb.of fun f => none
def pa_laws_szPair : Nat → Pat × (Nat → Pat) := fun k => (⟨[], [], []⟩, fun _ => ⟨[], [], []⟩)
noncomputable def de_laws_szPair (a0 : ByteArray × ByteArray × Unit) (a1 : Int) : Option ((((Int) × Unit) × (Unit))) :=
  bif decide (IntKind.wrap IntKind.i64 (a1 - nI (ByteArray.size a0.fst)) < 0) then some ((-1, ()), ())
  else
    bif decide (IntKind.wrap IntKind.i64 (IntKind.wrap IntKind.i64 (a1 - nI (ByteArray.size a0.fst)) - nI (ByteArray.size a0.snd.fst)) < 0) then some ((-1, ()), ())
    else some ((IntKind.wrap IntKind.i64 (IntKind.wrap IntKind.i64 (a1 - nI (ByteArray.size a0.fst)) - nI (ByteArray.size a0.snd.fst)), ()), ())
theorem eq_laws_szPair (a0 : ByteArray × ByteArray × Unit) (a1 : Int) r (h : m_laws_szPair a0 a1 = some r) : de_laws_szPair a0 a1 = some ((r, ()), (())) := by
  obtain ⟨hc, g0, g1, rfl⟩ := szM_some (t := (.pair .str (.pair .str .unit))) h
  obtain ⟨hc0, hc1, _⟩ : fineB .str a0.1 = true ∧ fineB .str a0.2.1 = true ∧ True := by
    have s := hc
    obtain ⟨h0, s⟩ := fineB_pair s
    obtain ⟨h1, s⟩ := fineB_pair s
    exact ⟨h0, h1, trivial⟩
  unfold de_laws_szPair
  have hwt : (wt (.pair .str (.pair .str .unit)) a0 : Int) = (ByteArray.size a0.1 : Int) + (ByteArray.size a0.2.1 : Int) := by simp only [wt]; omega
  rw [hwt]
  have hs0 : ByteArray.size a0.1 < 1152921504606846976 := fineB_str hc0
  have e0 : IntKind.i64.wrap (a1 - nI (ByteArray.size a0.1)) = a1 - (ByteArray.size a0.1 : Int) := wrap_ok (by simp only [nI]; omega) (by simp only [nI]; omega)
  simp only [e0]
  by_cases q0 : a1 - (ByteArray.size a0.1 : Int) < 0
  · simp only [decide_eq_true q0, cond_true]; try rw [if_pos (by omega)]
  · simp only [decide_eq_false q0, cond_false]
    have hs1 : ByteArray.size a0.2.1 < 1152921504606846976 := fineB_str hc1
    have e1 : IntKind.i64.wrap (a1 - (ByteArray.size a0.1 : Int) - nI (ByteArray.size a0.2.1)) = a1 - (ByteArray.size a0.1 : Int) - (ByteArray.size a0.2.1 : Int) := wrap_ok (by simp only [nI]; omega) (by simp only [nI]; omega)
    simp only [e1]
    by_cases q1 : a1 - (ByteArray.size a0.1 : Int) - (ByteArray.size a0.2.1 : Int) < 0
    · simp only [decide_eq_true q1, cond_true]; try rw [if_pos (by omega)]
    · simp only [decide_eq_false q1, cond_false]
      rw [if_neg (by omega)]
      simp only [Int.sub_sub, Int.add_assoc]
theorem en_laws_szPair (a0 : ByteArray × ByteArray × Unit) (a1 : Int) : evalF Try.prog ta_laws_szPair pa_laws_szPair sg_laws_szPair Try.f173 noL (a0, a1, ()) = de_laws_szPair a0 a1 := by kernel_rfl
theorem si_laws_szPair : SigsOk Try.prog ta_laws_szPair := SigsOk.of fun f sd h => by
  try dsimp only [Tb.of, ta_laws_szPair] at h
  cases h
theorem sn_laws_szPair : Callable Try.prog 173 ∧ Sound Try.prog 173 sd_laws_szPair.sg sd_laws_szPair.den :=
  fn_plain (pat := pa_laws_szPair) (by kernel_rfl) si_laws_szPair Try.func173 (by kernel_rfl) (by kernel_rfl) (by kernel_rfl) fun x r h => by
    obtain ⟨a0, a1, ⟨⟩⟩ := x; obtain ⟨y, h1, h2⟩ := Option.bind_eq_some_iff.1 (show (m_laws_szPair a0 a1).bind (fun r => some ((r, ()), (()))) = some r from h); cases h2; exact (en_laws_szPair a0 a1).trans (eq_laws_szPair a0 a1 _ h1)
def m_laws_szPairS (a : List (ByteArray × ByteArray × Unit)) (left : Int) : Option Int := szM (.sl (.pair .str (.pair .str .unit))) a left
def sg_laws_szPairS : Sig := ⟨[.rd (.sl (.pair .str (.pair .str .unit))), .rd (.int .i64)], [none, none], [.rd (.int .i64)], [none]⟩
noncomputable def sd_laws_szPairS : SD := ⟨sg_laws_szPairS, fun x => (m_laws_szPairS x.1 x.2.1).bind fun r => some ((r, ()), (()))⟩
noncomputable def ta_laws_szPairS : Tb := Tb.of fun f => if f = 173 then some sd_laws_szPair else none
def pa_laws_szPairS : Nat → Pat × (Nat → Pat) := fun k => if k = 6 then (⟨[.sl 0 0 (.pair .str (.pair .str .unit))], [(0, .lf (.d (.sl (.pair .str (.pair .str .unit))))), (1, .lf (.d (.int .i64))), (5, .lf (.d (.int .i64)))], []⟩, fun e => if e = 1 then ⟨[], [(4, .lf (.d (.int .i64)))], []⟩ else if e = 2 then ⟨[], [(1, .lf (.d (.int .i64)))], []⟩ else ⟨[], [], []⟩) else (⟨[], [], []⟩, fun _ => ⟨[], [], []⟩)
noncomputable def co_laws_szPairS_6 : Code := (loopsIn (bodyOf Try.f91)).getD 0 .skip
def fu_laws_szPairS_6 (v0 : List (ByteArray × ByteArray × Unit)) (v1 : Int) (v5 : Int) : Nat := ((v0.length : Int) - v5).toNat + 1
noncomputable def tr_laws_szPairS_6 {R : Type}  (NX : ((List (ByteArray × ByteArray × Unit)) × (Int) × (Int) × Unit) → Option R) (X2 : ((Int) × Unit) → Option R) (X1 : ((Int) × Unit) → Option R) (v0 : List (ByteArray × ByteArray × Unit)) (v1 : Int) (v5 : Int) : Option R :=
  bif decide (v5 < nI (List.length v0)) then
    bif decide (0 ≤ v5) then
      bif decide (v5 < nI (List.length v0)) then
        Option.bind
          (Option.bind (m_laws_szPair ((List.getD v0 (Int.toNat v5) (ByteArray.mk #[], ByteArray.mk #[], ())).fst, (List.getD v0 (Int.toNat v5) (ByteArray.mk #[], ByteArray.mk #[], ())).snd.fst, ()) v1)
            fun val => some ((val, ()), ()))
          fun val => bif decide (val.fst.fst < 0) then X1 (-1, ()) else NX (v0, val.fst.fst, IntKind.wrap IntKind.i64 (v5 + 1), ())
      else none
    else none
  else X2 (v1, ())
noncomputable def lo_laws_szPairS_6 : Nat → (List (ByteArray × ByteArray × Unit)) → (Int) → (Int) →  Option (((Int) × Unit) ⊕ ((Int) × Unit))
  | 0, _, _, _ => none
  | m + 1, v0, v1, v5 => tr_laws_szPairS_6  (fun d => lo_laws_szPairS_6 m d.1 d.2.1 d.2.2.1) (fun d => some (.inl (d))) (fun d => some (.inr (d))) v0 v1 v5
theorem na_laws_szPairS_6 {R S : Type}  (NX : ((List (ByteArray × ByteArray × Unit)) × (Int) × (Int) × Unit) → Option R) (X2 : ((Int) × Unit) → Option R) (X1 : ((Int) × Unit) → Option R) (v0 : List (ByteArray × ByteArray × Unit)) (v1 : Int) (v5 : Int) (f : R → Option S) : tr_laws_szPairS_6  (fun d => (NX d).bind f) (fun d => (X2 d).bind f) (fun d => (X1 d).bind f) v0 v1 v5 = (tr_laws_szPairS_6  NX X2 X1 v0 v1 v5).bind f := by
  unfold tr_laws_szPairS_6
  simp only [cond_bind, ite_bind, onSum_bind, Option.bind_assoc, Option.bind_none, Option.bind_some]
noncomputable def de_laws_szPairS (a0 : List (ByteArray × ByteArray × Unit)) (a1 : Int) : Option ((((Int) × Unit) × (Unit))) :=
  bif decide (IntKind.wrap IntKind.i64 (a1 - nI (List.length a0)) < 0) then some ((-1, ()), ())
  else Option.bind ((fun d => lo_laws_szPairS_6 (fu_laws_szPairS_6 d.1 d.2.1 d.2.2.1) d.1 d.2.1 d.2.2.1) (a0, IntKind.wrap IntKind.i64 (a1 - nI (List.length a0)), 0, ())) fun val => onSum (fun val => some ((val.fst, ()), ())) (fun val => some ((val.fst, ()), ())) val
theorem eq_laws_szPairS (a0 : List (ByteArray × ByteArray × Unit)) (a1 : Int) r (h : m_laws_szPairS a0 a1 = some r) : de_laws_szPairS a0 a1 = some ((r, ()), (())) := by
  obtain ⟨hc, g0, g1, rfl⟩ := szM_some (t := .sl (.pair .str (.pair .str .unit))) h
  obtain ⟨hl0, hall⟩ := fineB_sl hc
  have hl : a0.length < 1152921504606846976 := hl0
  clear hl0 hc
  · unfold de_laws_szPairS
    have hw1 : IntKind.i64.wrap (a1 - nI a0.length) = a1 - (a0.length : Int) := wrap_ok (by simp only [nI]; omega) (by simp only [nI]; omega)
    rw [hw1]
    have hL := sz_loop (xs := a0) ((ByteArray.mk #[]), (ByteArray.mk #[]), ()) (fun x : ByteArray × ByteArray × Unit => wt (.pair .str (.pair .str .unit)) x) (g := fun m l i => lo_laws_szPairS_6 m a0 l i) (ok := fun l => .inl (l, ())) (bad := .inr (-1, ())) (fun m i l hi h0 h1 => by
      show lo_laws_szPairS_6 (m + 1) a0 l i = _
      simp only [lo_laws_szPairS_6, tr_laws_szPairS_6]
      rw [cLt hi, cLe0, wI (by omega)]
      simp only [cond_true, Int.toNat_natCast]
      have hE : m_laws_szPair ((List.getD (α := ByteArray × ByteArray × Unit) a0 i ((ByteArray.mk #[]), (ByteArray.mk #[]), ())).fst, (List.getD (α := ByteArray × ByteArray × Unit) a0 i ((ByteArray.mk #[]), (ByteArray.mk #[]), ())).snd.fst, ()) l = some (if l - (wt (.pair .str (.pair .str .unit)) (List.getD (α := ByteArray × ByteArray × Unit) a0 i ((ByteArray.mk #[]), (ByteArray.mk #[]), ())) : Int) < 0 then -1 else l - wt (.pair .str (.pair .str .unit)) (List.getD (α := ByteArray × ByteArray × Unit) a0 i ((ByteArray.mk #[]), (ByteArray.mk #[]), ()))) := by
        exact szM_is (t := (.pair .str (.pair .str .unit))) (x := (List.getD (α := ByteArray × ByteArray × Unit) a0 i ((ByteArray.mk #[]), (ByteArray.mk #[]), ()))) (hall _ (getD_mem ((ByteArray.mk #[]), (ByteArray.mk #[]), ()) hi)) h0 h1
      rw [hE]
      by_cases q : l - (wt (.pair .str (.pair .str .unit)) (List.getD (α := ByteArray × ByteArray × Unit) a0 i ((ByteArray.mk #[]), (ByteArray.mk #[]), ())) : Int) < 0
      · simp only [if_pos q, decide_eq_true q, Option.bind_some, cond_true]; rfl
      · simp only [if_neg q, decide_eq_false q, Option.bind_some, cond_false]
    ) (fun m l => by
      show lo_laws_szPairS_6 (m + 1) a0 l a0.length = _
      simp only [lo_laws_szPairS_6, tr_laws_szPairS_6]
      rw [cLtF]
      rfl) (fu_laws_szPairS_6 a0 (a1 - (a0.length : Int)) 0) 0 (a1 - (a0.length : Int)) (by omega) (by simp [fu_laws_szPairS_6])
    have hW : wt (.sl (.pair .str (.pair .str .unit))) a0 = a0.length + (a0.map (fun x : ByteArray × ByteArray × Unit => wt (.pair .str (.pair .str .unit)) x)).sum := rfl
    rw [hW]
    by_cases q : a1 - (a0.length : Int) < 0
    · simp only [decide_eq_true q, cond_true]; rw [if_pos (by omega)]
    · simp only [decide_eq_false q, cond_false]
      have hL := hL (by omega) (by omega)
      rw [List.drop_zero] at hL
      show (lo_laws_szPairS_6 (fu_laws_szPairS_6 a0 (a1 - (a0.length : Int)) 0) a0 (a1 - (a0.length : Int)) 0).bind _ = _
      have hL' : lo_laws_szPairS_6 (fu_laws_szPairS_6 a0 (a1 - (a0.length : Int)) 0) a0 (a1 - (a0.length : Int)) 0 = _ := hL
      rw [hL']
      have hsum : a1 - ((a0.length + (a0.map (fun x : ByteArray × ByteArray × Unit => wt (.pair .str (.pair .str .unit)) x)).sum : Nat) : Int) = a1 - (a0.length : Int) - ((a0.map (fun x : ByteArray × ByteArray × Unit => wt (.pair .str (.pair .str .unit)) x)).sum : Int) := by omega
      rw [hsum]
      by_cases q2 : a1 - (a0.length : Int) - ((a0.map (fun x : ByteArray × ByteArray × Unit => wt (.pair .str (.pair .str .unit)) x)).sum : Int) < 0
      · simp only [if_pos q2]; rfl
      · simp only [if_neg q2]; rfl
noncomputable def ou_laws_szPairS_6 {R : Type} (k : Kt R) : (((Int) × Unit) ⊕ ((Int) × Unit)) → Option R := (onSum (fun d => k (.exit 0) (((pa_laws_szPairS 6).2 2).st d) (((pa_laws_szPairS 6).2 2).nid)) (fun d => k .ret (((pa_laws_szPairS 6).2 1).st d) (((pa_laws_szPairS 6).2 1).nid)))
noncomputable def L_laws_szPairS {R : Type} : Lt R pa_laws_szPairS := (addL (pat := pa_laws_szPairS) 6 (fun d k => (lo_laws_szPairS_6 (fu_laws_szPairS_6 d.1 d.2.1 d.2.2.1) d.1 d.2.1 d.2.2.1).bind (ou_laws_szPairS_6 k)) noL)
theorem rd_laws_szPairS_6 {R : Type} (nx : (pa_laws_szPairS 6).1.D → Kt R → Option R) (k : Kt R) (v0 : List (ByteArray × ByteArray × Unit)) (v1 : Int) (v5 : Int) : ev Try.prog ⟨ta_laws_szPairS, 0, 27, pa_laws_szPairS⟩ L_laws_szPairS co_laws_szPairS_6 ((pa_laws_szPairS 6).1.st (v0, v1, v5, ())) (pa_laws_szPairS 6).1.nid (roundK 0 (pa_laws_szPairS 6) nx k) = tr_laws_szPairS_6  (fun d => nx d k) (fun d => k (.exit 0) (((pa_laws_szPairS 6).2 2).st d) (((pa_laws_szPairS 6).2 2).nid)) (fun d => k .ret (((pa_laws_szPairS 6).2 1).st d) (((pa_laws_szPairS 6).2 1).nid)) v0 v1 v5 := by kernel_rfl
theorem lp_laws_szPairS_6 {R : Type} : ∀ (m : Nat) (d : (pa_laws_szPairS 6).1.D) (k : Kt R), loopN 0 (pa_laws_szPairS 6) (fun s nid k => ev Try.prog ⟨ta_laws_szPairS, 0, 27, pa_laws_szPairS⟩ L_laws_szPairS co_laws_szPairS_6 s nid k) m d k = (lo_laws_szPairS_6 m d.1 d.2.1 d.2.2.1).bind (ou_laws_szPairS_6 k)
  | 0, _, _ => rfl
  | m + 1, ⟨v0, v1, v5, ⟨⟩⟩, k => (rd_laws_szPairS_6 _ k v0 v1 v5).trans ((congrArg (fun F => tr_laws_szPairS_6  F (fun d => k (.exit 0) (((pa_laws_szPairS 6).2 2).st d) (((pa_laws_szPairS 6).2 2).nid)) (fun d => k .ret (((pa_laws_szPairS 6).2 1).st d) (((pa_laws_szPairS 6).2 1).nid)) v0 v1 v5) (funext fun d => lp_laws_szPairS_6 m d k)).trans (na_laws_szPairS_6 (f := ou_laws_szPairS_6 k)  (fun d => lo_laws_szPairS_6 m d.1 d.2.1 d.2.2.1) (fun d => some (.inl (d))) (fun d => some (.inr (d))) v0 v1 v5))
theorem en_laws_szPairS (a0 : List (ByteArray × ByteArray × Unit)) (a1 : Int) : evalF Try.prog ta_laws_szPairS pa_laws_szPairS sg_laws_szPairS Try.f91 L_laws_szPairS (a0, a1, ()) = de_laws_szPairS a0 a1 := by kernel_rfl
theorem si_laws_szPairS : SigsOk Try.prog ta_laws_szPairS := SigsOk.of fun f sd h => by
  try dsimp only [Tb.of, ta_laws_szPairS] at h
  split at h
  · rename_i e; subst e; cases h; exact sn_laws_szPair
  cases h
theorem lk_laws_szPairS_6 {R : Type} : LoopOk Try.prog R 27 0 pa_laws_szPairS L_laws_szPairS co_laws_szPairS_6 :=
  loop_key (cfg := ⟨ta_laws_szPairS, 0, 27, pa_laws_szPairS⟩) (key := 6) (by kernel_rfl) (by kernel_rfl) si_laws_szPairS rfl rfl (fun d k r h => ⟨fu_laws_szPairS_6 d.1 d.2.1 d.2.2.1, (lp_laws_szPairS_6 _ d k).trans h⟩) (fun c hc => by rw [show loopsIn co_laws_szPairS_6 = [] from by kernel_rfl] at hc; cases hc)
theorem sn_laws_szPairS : Callable Try.prog 91 ∧ Sound Try.prog 91 sd_laws_szPairS.sg sd_laws_szPairS.den :=
  fn_loops (pat := pa_laws_szPairS) L_laws_szPairS (by kernel_rfl) si_laws_szPairS Try.func91 (by kernel_rfl) (by kernel_rfl) (fun c hc => by rw [show loopsIn (bodyOf Try.f91) = [co_laws_szPairS_6] from by kernel_rfl] at hc; simp only [List.mem_cons, List.not_mem_nil, or_false] at hc; rcases hc with rfl <;> first | exact lk_laws_szPairS_6) fun x r h => by
    obtain ⟨a0, a1, ⟨⟩⟩ := x; obtain ⟨y, h1, h2⟩ := Option.bind_eq_some_iff.1 (show (m_laws_szPairS a0 a1).bind (fun r => some ((r, ()), (()))) = some r from h); cases h2; exact (en_laws_szPairS a0 a1).trans (eq_laws_szPairS a0 a1 _ h1)
def m_laws_szState (a : (List (ByteArray × ByteArray × Unit)) × Unit) (left : Int) : Option Int := szM (.pair (.sl (.pair .str (.pair .str .unit))) .unit) a left
def sg_laws_szState : Sig := ⟨[.rd (.pair (.sl (.pair .str (.pair .str .unit))) .unit), .rd (.int .i64)], [some 1, none], [.rd (.int .i64)], [none]⟩
noncomputable def sd_laws_szState : SD := ⟨sg_laws_szState, fun x => (m_laws_szState x.1 x.2.1).bind fun r => some ((r, ()), (()))⟩
noncomputable def ta_laws_szState : Tb := Tb.of fun f => if f = 91 then some sd_laws_szPairS else none
def pa_laws_szState : Nat → Pat × (Nat → Pat) := fun k => (⟨[], [], []⟩, fun _ => ⟨[], [], []⟩)
noncomputable def de_laws_szState (a0 : (List (ByteArray × ByteArray × Unit)) × Unit) (a1 : Int) : Option ((((Int) × Unit) × (Unit))) :=
  Option.bind (Option.bind (m_laws_szPairS a0.fst a1) fun val => some ((val, ()), ())) fun val => bif decide (val.fst.fst < 0) then some ((-1, ()), ()) else some ((val.fst.fst, ()), ())
theorem eq_laws_szState (a0 : (List (ByteArray × ByteArray × Unit)) × Unit) (a1 : Int) r (h : m_laws_szState a0 a1 = some r) : de_laws_szState a0 a1 = some ((r, ()), (())) := by
  obtain ⟨hc, g0, g1, rfl⟩ := szM_some (t := (.pair (.sl (.pair .str (.pair .str .unit))) .unit)) h
  obtain ⟨hc0, _⟩ : fineB (.sl (.pair .str (.pair .str .unit))) a0.1 = true ∧ True := by
    have s := hc
    obtain ⟨h0, s⟩ := fineB_pair s
    exact ⟨h0, trivial⟩
  unfold de_laws_szState
  have hwt : (wt (.pair (.sl (.pair .str (.pair .str .unit))) .unit) a0 : Int) = (wt (.sl (.pair .str (.pair .str .unit))) a0.1 : Int) := by simp only [wt]; omega
  rw [hwt]
  have e0 : m_laws_szPairS a0.1 (a1) = some (if a1 - (wt (.sl (.pair .str (.pair .str .unit))) a0.1 : Int) < 0 then -1 else a1 - (wt (.sl (.pair .str (.pair .str .unit))) a0.1 : Int)) := szM_is (t := (.sl (.pair .str (.pair .str .unit)))) (x := a0.1) hc0 (by omega) (by omega)
  simp only [show m_laws_szPairS a0.1 (a1) = _ from e0, Option.bind_some]
  by_cases q0 : a1 - (wt (.sl (.pair .str (.pair .str .unit))) a0.1 : Int) < 0
  · simp only [if_pos q0, show decide ((-1 : Int) < 0) = true from rfl, cond_true]; try rw [if_pos (by omega)]
  · simp only [if_neg q0, decide_eq_false q0, cond_false]
    try rw [if_neg q0]
theorem en_laws_szState (a0 : (List (ByteArray × ByteArray × Unit)) × Unit) (a1 : Int) : evalF Try.prog ta_laws_szState pa_laws_szState sg_laws_szState Try.f15 noL (a0, a1, ()) = de_laws_szState a0 a1 := by kernel_rfl
theorem si_laws_szState : SigsOk Try.prog ta_laws_szState := SigsOk.of fun f sd h => by
  try dsimp only [Tb.of, ta_laws_szState] at h
  split at h
  · rename_i e; subst e; cases h; exact sn_laws_szPairS
  cases h
theorem sn_laws_szState : Callable Try.prog 15 ∧ Sound Try.prog 15 sd_laws_szState.sg sd_laws_szState.den :=
  fn_plain (pat := pa_laws_szState) (by kernel_rfl) si_laws_szState Try.func15 (by kernel_rfl) (by kernel_rfl) (by kernel_rfl) fun x r h => by
    obtain ⟨a0, a1, ⟨⟩⟩ := x; obtain ⟨y, h1, h2⟩ := Option.bind_eq_some_iff.1 (show (m_laws_szState a0 a1).bind (fun r => some ((r, ()), (()))) = some r from h); cases h2; exact (en_laws_szState a0 a1).trans (eq_laws_szState a0 a1 _ h1)
def m_laws_szStore (a : Int × Int × Int × (Int × Int × Int × Int × Unit) × Int × Int × ((List (ByteArray × ByteArray × Unit)) × Unit) × Unit) (left : Int) : Option Int := szM (.pair (.int .i64) (.pair (.int .i64) (.pair (.int .i64) (.pair (.pair (.int .i64) (.pair (.int .i64) (.pair (.int .i64) (.pair (.int .i64) .unit)))) (.pair (.int .i64) (.pair (.int .i64) (.pair (.pair (.sl (.pair .str (.pair .str .unit))) .unit) .unit))))))) a left
def sg_laws_szStore : Sig := ⟨[.rd (.pair (.int .i64) (.pair (.int .i64) (.pair (.int .i64) (.pair (.pair (.int .i64) (.pair (.int .i64) (.pair (.int .i64) (.pair (.int .i64) .unit)))) (.pair (.int .i64) (.pair (.int .i64) (.pair (.pair (.sl (.pair .str (.pair .str .unit))) .unit) .unit))))))), .rd (.int .i64)], [some 10, none], [.rd (.int .i64)], [none]⟩
noncomputable def sd_laws_szStore : SD := ⟨sg_laws_szStore, fun x => (m_laws_szStore x.1 x.2.1).bind fun r => some ((r, ()), (()))⟩
noncomputable def ta_laws_szStore : Tb := Tb.of fun f => if f = 15 then some sd_laws_szState else none
def pa_laws_szStore : Nat → Pat × (Nat → Pat) := fun k => (⟨[], [], []⟩, fun _ => ⟨[], [], []⟩)
noncomputable def de_laws_szStore (a0 : Int × Int × Int × (Int × Int × Int × Int × Unit) × Int × Int × ((List (ByteArray × ByteArray × Unit)) × Unit) × Unit) (a1 : Int) : Option ((((Int) × Unit) × (Unit))) :=
  Option.bind (Option.bind (m_laws_szState (a0.snd.snd.snd.snd.snd.snd.fst.fst, ()) a1) fun val => some ((val, ()), ())) fun val =>
    bif decide (val.fst.fst < 0) then some ((-1, ()), ()) else some ((val.fst.fst, ()), ())
theorem eq_laws_szStore (a0 : Int × Int × Int × (Int × Int × Int × Int × Unit) × Int × Int × ((List (ByteArray × ByteArray × Unit)) × Unit) × Unit) (a1 : Int) r (h : m_laws_szStore a0 a1 = some r) : de_laws_szStore a0 a1 = some ((r, ()), (())) := by
  obtain ⟨hc, g0, g1, rfl⟩ := szM_some (t := (.pair (.int .i64) (.pair (.int .i64) (.pair (.int .i64) (.pair (.pair (.int .i64) (.pair (.int .i64) (.pair (.int .i64) (.pair (.int .i64) .unit)))) (.pair (.int .i64) (.pair (.int .i64) (.pair (.pair (.sl (.pair .str (.pair .str .unit))) .unit) .unit)))))))) h
  obtain ⟨hc0, hc1, hc2, hc3, hc4, hc5, hc6, _⟩ : fineB (.int .i64) a0.1 = true ∧ fineB (.int .i64) a0.2.1 = true ∧ fineB (.int .i64) a0.2.2.1 = true ∧ fineB (.pair (.int .i64) (.pair (.int .i64) (.pair (.int .i64) (.pair (.int .i64) .unit)))) a0.2.2.2.1 = true ∧ fineB (.int .i64) a0.2.2.2.2.1 = true ∧ fineB (.int .i64) a0.2.2.2.2.2.1 = true ∧ fineB (.pair (.sl (.pair .str (.pair .str .unit))) .unit) a0.2.2.2.2.2.2.1 = true ∧ True := by
    have s := hc
    obtain ⟨h0, s⟩ := fineB_pair s
    obtain ⟨h1, s⟩ := fineB_pair s
    obtain ⟨h2, s⟩ := fineB_pair s
    obtain ⟨h3, s⟩ := fineB_pair s
    obtain ⟨h4, s⟩ := fineB_pair s
    obtain ⟨h5, s⟩ := fineB_pair s
    obtain ⟨h6, s⟩ := fineB_pair s
    exact ⟨h0, h1, h2, h3, h4, h5, h6, trivial⟩
  unfold de_laws_szStore
  have hwt : (wt (.pair (.int .i64) (.pair (.int .i64) (.pair (.int .i64) (.pair (.pair (.int .i64) (.pair (.int .i64) (.pair (.int .i64) (.pair (.int .i64) .unit)))) (.pair (.int .i64) (.pair (.int .i64) (.pair (.pair (.sl (.pair .str (.pair .str .unit))) .unit) .unit))))))) a0 : Int) = (wt (.pair (.sl (.pair .str (.pair .str .unit))) .unit) a0.2.2.2.2.2.2.1 : Int) := by simp only [wt]; omega
  rw [hwt]
  have e0 : m_laws_szState a0.2.2.2.2.2.2.1 (a1) = some (if a1 - (wt (.pair (.sl (.pair .str (.pair .str .unit))) .unit) a0.2.2.2.2.2.2.1 : Int) < 0 then -1 else a1 - (wt (.pair (.sl (.pair .str (.pair .str .unit))) .unit) a0.2.2.2.2.2.2.1 : Int)) := szM_is (t := (.pair (.sl (.pair .str (.pair .str .unit))) .unit)) (x := a0.2.2.2.2.2.2.1) hc6 (by omega) (by omega)
  simp only [show m_laws_szState (a0.2.2.2.2.2.2.1.fst, ()) (a1) = _ from e0, Option.bind_some]
  by_cases q0 : a1 - (wt (.pair (.sl (.pair .str (.pair .str .unit))) .unit) a0.2.2.2.2.2.2.1 : Int) < 0
  · simp only [if_pos q0, show decide ((-1 : Int) < 0) = true from rfl, cond_true]; try rw [if_pos (by omega)]
  · simp only [if_neg q0, decide_eq_false q0, cond_false]
    try rw [if_neg q0]
theorem en_laws_szStore (a0 : Int × Int × Int × (Int × Int × Int × Int × Unit) × Int × Int × ((List (ByteArray × ByteArray × Unit)) × Unit) × Unit) (a1 : Int) : evalF Try.prog ta_laws_szStore pa_laws_szStore sg_laws_szStore Try.f37 noL (a0, a1, ()) = de_laws_szStore a0 a1 := by kernel_rfl
theorem si_laws_szStore : SigsOk Try.prog ta_laws_szStore := SigsOk.of fun f sd h => by
  try dsimp only [Tb.of, ta_laws_szStore] at h
  split at h
  · rename_i e; subst e; cases h; exact sn_laws_szState
  cases h
theorem sn_laws_szStore : Callable Try.prog 37 ∧ Sound Try.prog 37 sd_laws_szStore.sg sd_laws_szStore.den :=
  fn_plain (pat := pa_laws_szStore) (by kernel_rfl) si_laws_szStore Try.func37 (by kernel_rfl) (by kernel_rfl) (by kernel_rfl) fun x r h => by
    obtain ⟨a0, a1, ⟨⟩⟩ := x; obtain ⟨y, h1, h2⟩ := Option.bind_eq_some_iff.1 (show (m_laws_szStore a0 a1).bind (fun r => some ((r, ()), (()))) = some r from h); cases h2; exact (en_laws_szStore a0 a1).trans (eq_laws_szStore a0 a1 _ h1)
def m_laws_szStateS (a : List ((List (ByteArray × ByteArray × Unit)) × Unit)) (left : Int) : Option Int := szM (.sl (.pair (.sl (.pair .str (.pair .str .unit))) .unit)) a left
def sg_laws_szStateS : Sig := ⟨[.rd (.sl (.pair (.sl (.pair .str (.pair .str .unit))) .unit)), .rd (.int .i64)], [none, none], [.rd (.int .i64)], [none]⟩
noncomputable def sd_laws_szStateS : SD := ⟨sg_laws_szStateS, fun x => (m_laws_szStateS x.1 x.2.1).bind fun r => some ((r, ()), (()))⟩
noncomputable def ta_laws_szStateS : Tb := Tb.of fun f => if f = 15 then some sd_laws_szState else none
def pa_laws_szStateS : Nat → Pat × (Nat → Pat) := fun k => if k = 6 then (⟨[.sl 0 0 (.pair (.sl (.pair .str (.pair .str .unit))) .unit)], [(0, .lf (.d (.sl (.pair (.sl (.pair .str (.pair .str .unit))) .unit)))), (1, .lf (.d (.int .i64))), (5, .lf (.d (.int .i64)))], []⟩, fun e => if e = 1 then ⟨[], [(4, .lf (.d (.int .i64)))], []⟩ else if e = 2 then ⟨[], [(1, .lf (.d (.int .i64)))], []⟩ else ⟨[], [], []⟩) else (⟨[], [], []⟩, fun _ => ⟨[], [], []⟩)
noncomputable def co_laws_szStateS_6 : Code := (loopsIn (bodyOf Try.f136)).getD 0 .skip
def fu_laws_szStateS_6 (v0 : List ((List (ByteArray × ByteArray × Unit)) × Unit)) (v1 : Int) (v5 : Int) : Nat := ((v0.length : Int) - v5).toNat + 1
noncomputable def tr_laws_szStateS_6 {R : Type}  (NX : ((List ((List (ByteArray × ByteArray × Unit)) × Unit)) × (Int) × (Int) × Unit) → Option R) (X2 : ((Int) × Unit) → Option R) (X1 : ((Int) × Unit) → Option R) (v0 : List ((List (ByteArray × ByteArray × Unit)) × Unit)) (v1 : Int) (v5 : Int) : Option R :=
  bif decide (v5 < nI (List.length v0)) then
    bif decide (0 ≤ v5) then
      bif decide (v5 < nI (List.length v0)) then
        Option.bind (Option.bind (m_laws_szState ((List.getD v0 (Int.toNat v5) ([], ())).fst, ()) v1) fun val => some ((val, ()), ())) fun val =>
          bif decide (val.fst.fst < 0) then X1 (-1, ()) else NX (v0, val.fst.fst, IntKind.wrap IntKind.i64 (v5 + 1), ())
      else none
    else none
  else X2 (v1, ())
noncomputable def lo_laws_szStateS_6 : Nat → (List ((List (ByteArray × ByteArray × Unit)) × Unit)) → (Int) → (Int) →  Option (((Int) × Unit) ⊕ ((Int) × Unit))
  | 0, _, _, _ => none
  | m + 1, v0, v1, v5 => tr_laws_szStateS_6  (fun d => lo_laws_szStateS_6 m d.1 d.2.1 d.2.2.1) (fun d => some (.inl (d))) (fun d => some (.inr (d))) v0 v1 v5
theorem na_laws_szStateS_6 {R S : Type}  (NX : ((List ((List (ByteArray × ByteArray × Unit)) × Unit)) × (Int) × (Int) × Unit) → Option R) (X2 : ((Int) × Unit) → Option R) (X1 : ((Int) × Unit) → Option R) (v0 : List ((List (ByteArray × ByteArray × Unit)) × Unit)) (v1 : Int) (v5 : Int) (f : R → Option S) : tr_laws_szStateS_6  (fun d => (NX d).bind f) (fun d => (X2 d).bind f) (fun d => (X1 d).bind f) v0 v1 v5 = (tr_laws_szStateS_6  NX X2 X1 v0 v1 v5).bind f := by
  unfold tr_laws_szStateS_6
  simp only [cond_bind, ite_bind, onSum_bind, Option.bind_assoc, Option.bind_none, Option.bind_some]
noncomputable def de_laws_szStateS (a0 : List ((List (ByteArray × ByteArray × Unit)) × Unit)) (a1 : Int) : Option ((((Int) × Unit) × (Unit))) :=
  bif decide (IntKind.wrap IntKind.i64 (a1 - nI (List.length a0)) < 0) then some ((-1, ()), ())
  else Option.bind ((fun d => lo_laws_szStateS_6 (fu_laws_szStateS_6 d.1 d.2.1 d.2.2.1) d.1 d.2.1 d.2.2.1) (a0, IntKind.wrap IntKind.i64 (a1 - nI (List.length a0)), 0, ())) fun val => onSum (fun val => some ((val.fst, ()), ())) (fun val => some ((val.fst, ()), ())) val
theorem eq_laws_szStateS (a0 : List ((List (ByteArray × ByteArray × Unit)) × Unit)) (a1 : Int) r (h : m_laws_szStateS a0 a1 = some r) : de_laws_szStateS a0 a1 = some ((r, ()), (())) := by
  obtain ⟨hc, g0, g1, rfl⟩ := szM_some (t := .sl (.pair (.sl (.pair .str (.pair .str .unit))) .unit)) h
  obtain ⟨hl0, hall⟩ := fineB_sl hc
  have hl : a0.length < 1152921504606846976 := hl0
  clear hl0 hc
  · unfold de_laws_szStateS
    have hw1 : IntKind.i64.wrap (a1 - nI a0.length) = a1 - (a0.length : Int) := wrap_ok (by simp only [nI]; omega) (by simp only [nI]; omega)
    rw [hw1]
    have hL := sz_loop (xs := a0) ([], ()) (fun x : (List (ByteArray × ByteArray × Unit)) × Unit => wt (.pair (.sl (.pair .str (.pair .str .unit))) .unit) x) (g := fun m l i => lo_laws_szStateS_6 m a0 l i) (ok := fun l => .inl (l, ())) (bad := .inr (-1, ())) (fun m i l hi h0 h1 => by
      show lo_laws_szStateS_6 (m + 1) a0 l i = _
      simp only [lo_laws_szStateS_6, tr_laws_szStateS_6]
      rw [cLt hi, cLe0, wI (by omega)]
      simp only [cond_true, Int.toNat_natCast]
      have hE : m_laws_szState ((List.getD (α := (List (ByteArray × ByteArray × Unit)) × Unit) a0 i ([], ())).fst, ()) l = some (if l - (wt (.pair (.sl (.pair .str (.pair .str .unit))) .unit) (List.getD (α := (List (ByteArray × ByteArray × Unit)) × Unit) a0 i ([], ())) : Int) < 0 then -1 else l - wt (.pair (.sl (.pair .str (.pair .str .unit))) .unit) (List.getD (α := (List (ByteArray × ByteArray × Unit)) × Unit) a0 i ([], ()))) := by
        exact szM_is (t := (.pair (.sl (.pair .str (.pair .str .unit))) .unit)) (x := (List.getD (α := (List (ByteArray × ByteArray × Unit)) × Unit) a0 i ([], ()))) (hall _ (getD_mem ([], ()) hi)) h0 h1
      rw [hE]
      by_cases q : l - (wt (.pair (.sl (.pair .str (.pair .str .unit))) .unit) (List.getD (α := (List (ByteArray × ByteArray × Unit)) × Unit) a0 i ([], ())) : Int) < 0
      · simp only [if_pos q, decide_eq_true q, Option.bind_some, cond_true]; rfl
      · simp only [if_neg q, decide_eq_false q, Option.bind_some, cond_false]
    ) (fun m l => by
      show lo_laws_szStateS_6 (m + 1) a0 l a0.length = _
      simp only [lo_laws_szStateS_6, tr_laws_szStateS_6]
      rw [cLtF]
      rfl) (fu_laws_szStateS_6 a0 (a1 - (a0.length : Int)) 0) 0 (a1 - (a0.length : Int)) (by omega) (by simp [fu_laws_szStateS_6])
    have hW : wt (.sl (.pair (.sl (.pair .str (.pair .str .unit))) .unit)) a0 = a0.length + (a0.map (fun x : (List (ByteArray × ByteArray × Unit)) × Unit => wt (.pair (.sl (.pair .str (.pair .str .unit))) .unit) x)).sum := rfl
    rw [hW]
    by_cases q : a1 - (a0.length : Int) < 0
    · simp only [decide_eq_true q, cond_true]; rw [if_pos (by omega)]
    · simp only [decide_eq_false q, cond_false]
      have hL := hL (by omega) (by omega)
      rw [List.drop_zero] at hL
      show (lo_laws_szStateS_6 (fu_laws_szStateS_6 a0 (a1 - (a0.length : Int)) 0) a0 (a1 - (a0.length : Int)) 0).bind _ = _
      have hL' : lo_laws_szStateS_6 (fu_laws_szStateS_6 a0 (a1 - (a0.length : Int)) 0) a0 (a1 - (a0.length : Int)) 0 = _ := hL
      rw [hL']
      have hsum : a1 - ((a0.length + (a0.map (fun x : (List (ByteArray × ByteArray × Unit)) × Unit => wt (.pair (.sl (.pair .str (.pair .str .unit))) .unit) x)).sum : Nat) : Int) = a1 - (a0.length : Int) - ((a0.map (fun x : (List (ByteArray × ByteArray × Unit)) × Unit => wt (.pair (.sl (.pair .str (.pair .str .unit))) .unit) x)).sum : Int) := by omega
      rw [hsum]
      by_cases q2 : a1 - (a0.length : Int) - ((a0.map (fun x : (List (ByteArray × ByteArray × Unit)) × Unit => wt (.pair (.sl (.pair .str (.pair .str .unit))) .unit) x)).sum : Int) < 0
      · simp only [if_pos q2]; rfl
      · simp only [if_neg q2]; rfl
noncomputable def ou_laws_szStateS_6 {R : Type} (k : Kt R) : (((Int) × Unit) ⊕ ((Int) × Unit)) → Option R := (onSum (fun d => k (.exit 0) (((pa_laws_szStateS 6).2 2).st d) (((pa_laws_szStateS 6).2 2).nid)) (fun d => k .ret (((pa_laws_szStateS 6).2 1).st d) (((pa_laws_szStateS 6).2 1).nid)))
noncomputable def L_laws_szStateS {R : Type} : Lt R pa_laws_szStateS := (addL (pat := pa_laws_szStateS) 6 (fun d k => (lo_laws_szStateS_6 (fu_laws_szStateS_6 d.1 d.2.1 d.2.2.1) d.1 d.2.1 d.2.2.1).bind (ou_laws_szStateS_6 k)) noL)
theorem rd_laws_szStateS_6 {R : Type} (nx : (pa_laws_szStateS 6).1.D → Kt R → Option R) (k : Kt R) (v0 : List ((List (ByteArray × ByteArray × Unit)) × Unit)) (v1 : Int) (v5 : Int) : ev Try.prog ⟨ta_laws_szStateS, 0, 27, pa_laws_szStateS⟩ L_laws_szStateS co_laws_szStateS_6 ((pa_laws_szStateS 6).1.st (v0, v1, v5, ())) (pa_laws_szStateS 6).1.nid (roundK 0 (pa_laws_szStateS 6) nx k) = tr_laws_szStateS_6  (fun d => nx d k) (fun d => k (.exit 0) (((pa_laws_szStateS 6).2 2).st d) (((pa_laws_szStateS 6).2 2).nid)) (fun d => k .ret (((pa_laws_szStateS 6).2 1).st d) (((pa_laws_szStateS 6).2 1).nid)) v0 v1 v5 := by kernel_rfl
theorem lp_laws_szStateS_6 {R : Type} : ∀ (m : Nat) (d : (pa_laws_szStateS 6).1.D) (k : Kt R), loopN 0 (pa_laws_szStateS 6) (fun s nid k => ev Try.prog ⟨ta_laws_szStateS, 0, 27, pa_laws_szStateS⟩ L_laws_szStateS co_laws_szStateS_6 s nid k) m d k = (lo_laws_szStateS_6 m d.1 d.2.1 d.2.2.1).bind (ou_laws_szStateS_6 k)
  | 0, _, _ => rfl
  | m + 1, ⟨v0, v1, v5, ⟨⟩⟩, k => (rd_laws_szStateS_6 _ k v0 v1 v5).trans ((congrArg (fun F => tr_laws_szStateS_6  F (fun d => k (.exit 0) (((pa_laws_szStateS 6).2 2).st d) (((pa_laws_szStateS 6).2 2).nid)) (fun d => k .ret (((pa_laws_szStateS 6).2 1).st d) (((pa_laws_szStateS 6).2 1).nid)) v0 v1 v5) (funext fun d => lp_laws_szStateS_6 m d k)).trans (na_laws_szStateS_6 (f := ou_laws_szStateS_6 k)  (fun d => lo_laws_szStateS_6 m d.1 d.2.1 d.2.2.1) (fun d => some (.inl (d))) (fun d => some (.inr (d))) v0 v1 v5))
theorem en_laws_szStateS (a0 : List ((List (ByteArray × ByteArray × Unit)) × Unit)) (a1 : Int) : evalF Try.prog ta_laws_szStateS pa_laws_szStateS sg_laws_szStateS Try.f136 L_laws_szStateS (a0, a1, ()) = de_laws_szStateS a0 a1 := by kernel_rfl
theorem si_laws_szStateS : SigsOk Try.prog ta_laws_szStateS := SigsOk.of fun f sd h => by
  try dsimp only [Tb.of, ta_laws_szStateS] at h
  split at h
  · rename_i e; subst e; cases h; exact sn_laws_szState
  cases h
theorem lk_laws_szStateS_6 {R : Type} : LoopOk Try.prog R 27 0 pa_laws_szStateS L_laws_szStateS co_laws_szStateS_6 :=
  loop_key (cfg := ⟨ta_laws_szStateS, 0, 27, pa_laws_szStateS⟩) (key := 6) (by kernel_rfl) (by kernel_rfl) si_laws_szStateS rfl rfl (fun d k r h => ⟨fu_laws_szStateS_6 d.1 d.2.1 d.2.2.1, (lp_laws_szStateS_6 _ d k).trans h⟩) (fun c hc => by rw [show loopsIn co_laws_szStateS_6 = [] from by kernel_rfl] at hc; cases hc)
theorem sn_laws_szStateS : Callable Try.prog 136 ∧ Sound Try.prog 136 sd_laws_szStateS.sg sd_laws_szStateS.den :=
  fn_loops (pat := pa_laws_szStateS) L_laws_szStateS (by kernel_rfl) si_laws_szStateS Try.func136 (by kernel_rfl) (by kernel_rfl) (fun c hc => by rw [show loopsIn (bodyOf Try.f136) = [co_laws_szStateS_6] from by kernel_rfl] at hc; simp only [List.mem_cons, List.not_mem_nil, or_false] at hc; rcases hc with rfl <;> first | exact lk_laws_szStateS_6) fun x r h => by
    obtain ⟨a0, a1, ⟨⟩⟩ := x; obtain ⟨y, h1, h2⟩ := Option.bind_eq_some_iff.1 (show (m_laws_szStateS a0 a1).bind (fun r => some ((r, ()), (()))) = some r from h); cases h2; exact (en_laws_szStateS a0 a1).trans (eq_laws_szStateS a0 a1 _ h1)
def m_laws_szWorld (a : Int × ((List ByteArray) × (List (Int × ByteArray × Unit)) × Unit) × Bool × (Int × Int × Int × (Int × Int × Int × Int × Unit) × Int × Int × ((List (ByteArray × ByteArray × Unit)) × Unit) × Unit) × (List ((List (ByteArray × ByteArray × Unit)) × Unit)) × (List ByteArray) × Unit) (left : Int) : Option Int := szM (.pair (.int .i64) (.pair (.pair (.sl .str) (.pair (.sl (.pair (.int .i64) (.pair .str .unit))) .unit)) (.pair .bool (.pair (.pair (.int .i64) (.pair (.int .i64) (.pair (.int .i64) (.pair (.pair (.int .i64) (.pair (.int .i64) (.pair (.int .i64) (.pair (.int .i64) .unit)))) (.pair (.int .i64) (.pair (.int .i64) (.pair (.pair (.sl (.pair .str (.pair .str .unit))) .unit) .unit))))))) (.pair (.sl (.pair (.sl (.pair .str (.pair .str .unit))) .unit)) (.pair (.sl .str) .unit)))))) a left
def sg_laws_szWorld : Sig := ⟨[.rd (.pair (.int .i64) (.pair (.pair (.sl .str) (.pair (.sl (.pair (.int .i64) (.pair .str .unit))) .unit)) (.pair .bool (.pair (.pair (.int .i64) (.pair (.int .i64) (.pair (.int .i64) (.pair (.pair (.int .i64) (.pair (.int .i64) (.pair (.int .i64) (.pair (.int .i64) .unit)))) (.pair (.int .i64) (.pair (.int .i64) (.pair (.pair (.sl (.pair .str (.pair .str .unit))) .unit) .unit))))))) (.pair (.sl (.pair (.sl (.pair .str (.pair .str .unit))) .unit)) (.pair (.sl .str) .unit)))))), .rd (.int .i64)], [some 16, none], [.rd (.int .i64)], [none]⟩
noncomputable def sd_laws_szWorld : SD := ⟨sg_laws_szWorld, fun x => (m_laws_szWorld x.1 x.2.1).bind fun r => some ((r, ()), (()))⟩
noncomputable def ta_laws_szWorld : Tb := Tb.of fun f => if f = 26 then some sd_laws_szDisk else if f = 37 then some sd_laws_szStore else if f = 99 then some sd_laws_szStringS else if f = 136 then some sd_laws_szStateS else none
def pa_laws_szWorld : Nat → Pat × (Nat → Pat) := fun k => (⟨[], [], []⟩, fun _ => ⟨[], [], []⟩)
noncomputable def de_laws_szWorld (a0 : Int × ((List ByteArray) × (List (Int × ByteArray × Unit)) × Unit) × Bool × (Int × Int × Int × (Int × Int × Int × Int × Unit) × Int × Int × ((List (ByteArray × ByteArray × Unit)) × Unit) × Unit) × (List ((List (ByteArray × ByteArray × Unit)) × Unit)) × (List ByteArray) × Unit) (a1 : Int) : Option ((((Int) × Unit) × (Unit))) :=
  Option.bind (Option.bind (m_laws_szDisk (a0.snd.fst.fst, a0.snd.fst.snd.fst, ()) a1) fun val => some ((val, ()), ())) fun val =>
    bif decide (val.fst.fst < 0) then some ((-1, ()), ())
    else
      Option.bind
        (Option.bind
          (m_laws_szStore
            (a0.snd.snd.snd.fst.fst, a0.snd.snd.snd.fst.snd.fst, a0.snd.snd.snd.fst.snd.snd.fst,
              (a0.snd.snd.snd.fst.snd.snd.snd.fst.fst, a0.snd.snd.snd.fst.snd.snd.snd.fst.snd.fst, a0.snd.snd.snd.fst.snd.snd.snd.fst.snd.snd.fst, a0.snd.snd.snd.fst.snd.snd.snd.fst.snd.snd.snd.fst,
                ()),
              a0.snd.snd.snd.fst.snd.snd.snd.snd.fst, a0.snd.snd.snd.fst.snd.snd.snd.snd.snd.fst, (a0.snd.snd.snd.fst.snd.snd.snd.snd.snd.snd.fst.fst, ()), ())
            val.fst.fst)
          fun val => some ((val, ()), ()))
        fun val =>
        bif decide (val.fst.fst < 0) then some ((-1, ()), ())
        else
          Option.bind (Option.bind (m_laws_szStateS a0.snd.snd.snd.snd.fst val.fst.fst) fun val => some ((val, ()), ())) fun val =>
            bif decide (val.fst.fst < 0) then some ((-1, ()), ())
            else
              Option.bind (Option.bind (m_laws_szStringS a0.snd.snd.snd.snd.snd.fst val.fst.fst) fun val => some ((val, ()), ())) fun val =>
                bif decide (val.fst.fst < 0) then some ((-1, ()), ()) else some ((val.fst.fst, ()), ())
theorem eq_laws_szWorld (a0 : Int × ((List ByteArray) × (List (Int × ByteArray × Unit)) × Unit) × Bool × (Int × Int × Int × (Int × Int × Int × Int × Unit) × Int × Int × ((List (ByteArray × ByteArray × Unit)) × Unit) × Unit) × (List ((List (ByteArray × ByteArray × Unit)) × Unit)) × (List ByteArray) × Unit) (a1 : Int) r (h : m_laws_szWorld a0 a1 = some r) : de_laws_szWorld a0 a1 = some ((r, ()), (())) := by
  obtain ⟨hc, g0, g1, rfl⟩ := szM_some (t := (.pair (.int .i64) (.pair (.pair (.sl .str) (.pair (.sl (.pair (.int .i64) (.pair .str .unit))) .unit)) (.pair .bool (.pair (.pair (.int .i64) (.pair (.int .i64) (.pair (.int .i64) (.pair (.pair (.int .i64) (.pair (.int .i64) (.pair (.int .i64) (.pair (.int .i64) .unit)))) (.pair (.int .i64) (.pair (.int .i64) (.pair (.pair (.sl (.pair .str (.pair .str .unit))) .unit) .unit))))))) (.pair (.sl (.pair (.sl (.pair .str (.pair .str .unit))) .unit)) (.pair (.sl .str) .unit))))))) h
  obtain ⟨hc0, hc1, hc2, hc3, hc4, hc5, _⟩ : fineB (.int .i64) a0.1 = true ∧ fineB (.pair (.sl .str) (.pair (.sl (.pair (.int .i64) (.pair .str .unit))) .unit)) a0.2.1 = true ∧ fineB .bool a0.2.2.1 = true ∧ fineB (.pair (.int .i64) (.pair (.int .i64) (.pair (.int .i64) (.pair (.pair (.int .i64) (.pair (.int .i64) (.pair (.int .i64) (.pair (.int .i64) .unit)))) (.pair (.int .i64) (.pair (.int .i64) (.pair (.pair (.sl (.pair .str (.pair .str .unit))) .unit) .unit))))))) a0.2.2.2.1 = true ∧ fineB (.sl (.pair (.sl (.pair .str (.pair .str .unit))) .unit)) a0.2.2.2.2.1 = true ∧ fineB (.sl .str) a0.2.2.2.2.2.1 = true ∧ True := by
    have s := hc
    obtain ⟨h0, s⟩ := fineB_pair s
    obtain ⟨h1, s⟩ := fineB_pair s
    obtain ⟨h2, s⟩ := fineB_pair s
    obtain ⟨h3, s⟩ := fineB_pair s
    obtain ⟨h4, s⟩ := fineB_pair s
    obtain ⟨h5, s⟩ := fineB_pair s
    exact ⟨h0, h1, h2, h3, h4, h5, trivial⟩
  unfold de_laws_szWorld
  have hwt : (wt (.pair (.int .i64) (.pair (.pair (.sl .str) (.pair (.sl (.pair (.int .i64) (.pair .str .unit))) .unit)) (.pair .bool (.pair (.pair (.int .i64) (.pair (.int .i64) (.pair (.int .i64) (.pair (.pair (.int .i64) (.pair (.int .i64) (.pair (.int .i64) (.pair (.int .i64) .unit)))) (.pair (.int .i64) (.pair (.int .i64) (.pair (.pair (.sl (.pair .str (.pair .str .unit))) .unit) .unit))))))) (.pair (.sl (.pair (.sl (.pair .str (.pair .str .unit))) .unit)) (.pair (.sl .str) .unit)))))) a0 : Int) = (wt (.pair (.sl .str) (.pair (.sl (.pair (.int .i64) (.pair .str .unit))) .unit)) a0.2.1 : Int) + (wt (.pair (.int .i64) (.pair (.int .i64) (.pair (.int .i64) (.pair (.pair (.int .i64) (.pair (.int .i64) (.pair (.int .i64) (.pair (.int .i64) .unit)))) (.pair (.int .i64) (.pair (.int .i64) (.pair (.pair (.sl (.pair .str (.pair .str .unit))) .unit) .unit))))))) a0.2.2.2.1 : Int) + (wt (.sl (.pair (.sl (.pair .str (.pair .str .unit))) .unit)) a0.2.2.2.2.1 : Int) + (wt (.sl .str) a0.2.2.2.2.2.1 : Int) := by simp only [wt]; omega
  rw [hwt]
  have e0 : m_laws_szDisk a0.2.1 (a1) = some (if a1 - (wt (.pair (.sl .str) (.pair (.sl (.pair (.int .i64) (.pair .str .unit))) .unit)) a0.2.1 : Int) < 0 then -1 else a1 - (wt (.pair (.sl .str) (.pair (.sl (.pair (.int .i64) (.pair .str .unit))) .unit)) a0.2.1 : Int)) := szM_is (t := (.pair (.sl .str) (.pair (.sl (.pair (.int .i64) (.pair .str .unit))) .unit))) (x := a0.2.1) hc1 (by omega) (by omega)
  simp only [show m_laws_szDisk (a0.2.1.fst, a0.2.1.snd.fst, ()) (a1) = _ from e0, Option.bind_some]
  by_cases q0 : a1 - (wt (.pair (.sl .str) (.pair (.sl (.pair (.int .i64) (.pair .str .unit))) .unit)) a0.2.1 : Int) < 0
  · simp only [if_pos q0, show decide ((-1 : Int) < 0) = true from rfl, cond_true]; try rw [if_pos (by omega)]
  · simp only [if_neg q0, decide_eq_false q0, cond_false]
    have e1 : m_laws_szStore a0.2.2.2.1 (a1 - (wt (.pair (.sl .str) (.pair (.sl (.pair (.int .i64) (.pair .str .unit))) .unit)) a0.2.1 : Int)) = some (if a1 - (wt (.pair (.sl .str) (.pair (.sl (.pair (.int .i64) (.pair .str .unit))) .unit)) a0.2.1 : Int) - (wt (.pair (.int .i64) (.pair (.int .i64) (.pair (.int .i64) (.pair (.pair (.int .i64) (.pair (.int .i64) (.pair (.int .i64) (.pair (.int .i64) .unit)))) (.pair (.int .i64) (.pair (.int .i64) (.pair (.pair (.sl (.pair .str (.pair .str .unit))) .unit) .unit))))))) a0.2.2.2.1 : Int) < 0 then -1 else a1 - (wt (.pair (.sl .str) (.pair (.sl (.pair (.int .i64) (.pair .str .unit))) .unit)) a0.2.1 : Int) - (wt (.pair (.int .i64) (.pair (.int .i64) (.pair (.int .i64) (.pair (.pair (.int .i64) (.pair (.int .i64) (.pair (.int .i64) (.pair (.int .i64) .unit)))) (.pair (.int .i64) (.pair (.int .i64) (.pair (.pair (.sl (.pair .str (.pair .str .unit))) .unit) .unit))))))) a0.2.2.2.1 : Int)) := szM_is (t := (.pair (.int .i64) (.pair (.int .i64) (.pair (.int .i64) (.pair (.pair (.int .i64) (.pair (.int .i64) (.pair (.int .i64) (.pair (.int .i64) .unit)))) (.pair (.int .i64) (.pair (.int .i64) (.pair (.pair (.sl (.pair .str (.pair .str .unit))) .unit) .unit)))))))) (x := a0.2.2.2.1) hc3 (by omega) (by omega)
    simp only [show m_laws_szStore (a0.2.2.2.1.fst, a0.2.2.2.1.snd.fst, a0.2.2.2.1.snd.snd.fst, (a0.2.2.2.1.snd.snd.snd.fst.fst, a0.2.2.2.1.snd.snd.snd.fst.snd.fst, a0.2.2.2.1.snd.snd.snd.fst.snd.snd.fst, a0.2.2.2.1.snd.snd.snd.fst.snd.snd.snd.fst, ()), a0.2.2.2.1.snd.snd.snd.snd.fst, a0.2.2.2.1.snd.snd.snd.snd.snd.fst, (a0.2.2.2.1.snd.snd.snd.snd.snd.snd.fst.fst, ()), ()) (a1 - (wt (.pair (.sl .str) (.pair (.sl (.pair (.int .i64) (.pair .str .unit))) .unit)) a0.2.1 : Int)) = _ from e1, Option.bind_some]
    by_cases q1 : a1 - (wt (.pair (.sl .str) (.pair (.sl (.pair (.int .i64) (.pair .str .unit))) .unit)) a0.2.1 : Int) - (wt (.pair (.int .i64) (.pair (.int .i64) (.pair (.int .i64) (.pair (.pair (.int .i64) (.pair (.int .i64) (.pair (.int .i64) (.pair (.int .i64) .unit)))) (.pair (.int .i64) (.pair (.int .i64) (.pair (.pair (.sl (.pair .str (.pair .str .unit))) .unit) .unit))))))) a0.2.2.2.1 : Int) < 0
    · simp only [if_pos q1, show decide ((-1 : Int) < 0) = true from rfl, cond_true]; try rw [if_pos (by omega)]
    · simp only [if_neg q1, decide_eq_false q1, cond_false]
      have e2 : m_laws_szStateS a0.2.2.2.2.1 (a1 - (wt (.pair (.sl .str) (.pair (.sl (.pair (.int .i64) (.pair .str .unit))) .unit)) a0.2.1 : Int) - (wt (.pair (.int .i64) (.pair (.int .i64) (.pair (.int .i64) (.pair (.pair (.int .i64) (.pair (.int .i64) (.pair (.int .i64) (.pair (.int .i64) .unit)))) (.pair (.int .i64) (.pair (.int .i64) (.pair (.pair (.sl (.pair .str (.pair .str .unit))) .unit) .unit))))))) a0.2.2.2.1 : Int)) = some (if a1 - (wt (.pair (.sl .str) (.pair (.sl (.pair (.int .i64) (.pair .str .unit))) .unit)) a0.2.1 : Int) - (wt (.pair (.int .i64) (.pair (.int .i64) (.pair (.int .i64) (.pair (.pair (.int .i64) (.pair (.int .i64) (.pair (.int .i64) (.pair (.int .i64) .unit)))) (.pair (.int .i64) (.pair (.int .i64) (.pair (.pair (.sl (.pair .str (.pair .str .unit))) .unit) .unit))))))) a0.2.2.2.1 : Int) - (wt (.sl (.pair (.sl (.pair .str (.pair .str .unit))) .unit)) a0.2.2.2.2.1 : Int) < 0 then -1 else a1 - (wt (.pair (.sl .str) (.pair (.sl (.pair (.int .i64) (.pair .str .unit))) .unit)) a0.2.1 : Int) - (wt (.pair (.int .i64) (.pair (.int .i64) (.pair (.int .i64) (.pair (.pair (.int .i64) (.pair (.int .i64) (.pair (.int .i64) (.pair (.int .i64) .unit)))) (.pair (.int .i64) (.pair (.int .i64) (.pair (.pair (.sl (.pair .str (.pair .str .unit))) .unit) .unit))))))) a0.2.2.2.1 : Int) - (wt (.sl (.pair (.sl (.pair .str (.pair .str .unit))) .unit)) a0.2.2.2.2.1 : Int)) := szM_is (t := (.sl (.pair (.sl (.pair .str (.pair .str .unit))) .unit))) (x := a0.2.2.2.2.1) hc4 (by omega) (by omega)
      simp only [show m_laws_szStateS a0.2.2.2.2.1 (a1 - (wt (.pair (.sl .str) (.pair (.sl (.pair (.int .i64) (.pair .str .unit))) .unit)) a0.2.1 : Int) - (wt (.pair (.int .i64) (.pair (.int .i64) (.pair (.int .i64) (.pair (.pair (.int .i64) (.pair (.int .i64) (.pair (.int .i64) (.pair (.int .i64) .unit)))) (.pair (.int .i64) (.pair (.int .i64) (.pair (.pair (.sl (.pair .str (.pair .str .unit))) .unit) .unit))))))) a0.2.2.2.1 : Int)) = _ from e2, Option.bind_some]
      by_cases q2 : a1 - (wt (.pair (.sl .str) (.pair (.sl (.pair (.int .i64) (.pair .str .unit))) .unit)) a0.2.1 : Int) - (wt (.pair (.int .i64) (.pair (.int .i64) (.pair (.int .i64) (.pair (.pair (.int .i64) (.pair (.int .i64) (.pair (.int .i64) (.pair (.int .i64) .unit)))) (.pair (.int .i64) (.pair (.int .i64) (.pair (.pair (.sl (.pair .str (.pair .str .unit))) .unit) .unit))))))) a0.2.2.2.1 : Int) - (wt (.sl (.pair (.sl (.pair .str (.pair .str .unit))) .unit)) a0.2.2.2.2.1 : Int) < 0
      · simp only [if_pos q2, show decide ((-1 : Int) < 0) = true from rfl, cond_true]; try rw [if_pos (by omega)]
      · simp only [if_neg q2, decide_eq_false q2, cond_false]
        have e3 : m_laws_szStringS a0.2.2.2.2.2.1 (a1 - (wt (.pair (.sl .str) (.pair (.sl (.pair (.int .i64) (.pair .str .unit))) .unit)) a0.2.1 : Int) - (wt (.pair (.int .i64) (.pair (.int .i64) (.pair (.int .i64) (.pair (.pair (.int .i64) (.pair (.int .i64) (.pair (.int .i64) (.pair (.int .i64) .unit)))) (.pair (.int .i64) (.pair (.int .i64) (.pair (.pair (.sl (.pair .str (.pair .str .unit))) .unit) .unit))))))) a0.2.2.2.1 : Int) - (wt (.sl (.pair (.sl (.pair .str (.pair .str .unit))) .unit)) a0.2.2.2.2.1 : Int)) = some (if a1 - (wt (.pair (.sl .str) (.pair (.sl (.pair (.int .i64) (.pair .str .unit))) .unit)) a0.2.1 : Int) - (wt (.pair (.int .i64) (.pair (.int .i64) (.pair (.int .i64) (.pair (.pair (.int .i64) (.pair (.int .i64) (.pair (.int .i64) (.pair (.int .i64) .unit)))) (.pair (.int .i64) (.pair (.int .i64) (.pair (.pair (.sl (.pair .str (.pair .str .unit))) .unit) .unit))))))) a0.2.2.2.1 : Int) - (wt (.sl (.pair (.sl (.pair .str (.pair .str .unit))) .unit)) a0.2.2.2.2.1 : Int) - (wt (.sl .str) a0.2.2.2.2.2.1 : Int) < 0 then -1 else a1 - (wt (.pair (.sl .str) (.pair (.sl (.pair (.int .i64) (.pair .str .unit))) .unit)) a0.2.1 : Int) - (wt (.pair (.int .i64) (.pair (.int .i64) (.pair (.int .i64) (.pair (.pair (.int .i64) (.pair (.int .i64) (.pair (.int .i64) (.pair (.int .i64) .unit)))) (.pair (.int .i64) (.pair (.int .i64) (.pair (.pair (.sl (.pair .str (.pair .str .unit))) .unit) .unit))))))) a0.2.2.2.1 : Int) - (wt (.sl (.pair (.sl (.pair .str (.pair .str .unit))) .unit)) a0.2.2.2.2.1 : Int) - (wt (.sl .str) a0.2.2.2.2.2.1 : Int)) := szM_is (t := (.sl .str)) (x := a0.2.2.2.2.2.1) hc5 (by omega) (by omega)
        simp only [show m_laws_szStringS a0.2.2.2.2.2.1 (a1 - (wt (.pair (.sl .str) (.pair (.sl (.pair (.int .i64) (.pair .str .unit))) .unit)) a0.2.1 : Int) - (wt (.pair (.int .i64) (.pair (.int .i64) (.pair (.int .i64) (.pair (.pair (.int .i64) (.pair (.int .i64) (.pair (.int .i64) (.pair (.int .i64) .unit)))) (.pair (.int .i64) (.pair (.int .i64) (.pair (.pair (.sl (.pair .str (.pair .str .unit))) .unit) .unit))))))) a0.2.2.2.1 : Int) - (wt (.sl (.pair (.sl (.pair .str (.pair .str .unit))) .unit)) a0.2.2.2.2.1 : Int)) = _ from e3, Option.bind_some]
        by_cases q3 : a1 - (wt (.pair (.sl .str) (.pair (.sl (.pair (.int .i64) (.pair .str .unit))) .unit)) a0.2.1 : Int) - (wt (.pair (.int .i64) (.pair (.int .i64) (.pair (.int .i64) (.pair (.pair (.int .i64) (.pair (.int .i64) (.pair (.int .i64) (.pair (.int .i64) .unit)))) (.pair (.int .i64) (.pair (.int .i64) (.pair (.pair (.sl (.pair .str (.pair .str .unit))) .unit) .unit))))))) a0.2.2.2.1 : Int) - (wt (.sl (.pair (.sl (.pair .str (.pair .str .unit))) .unit)) a0.2.2.2.2.1 : Int) - (wt (.sl .str) a0.2.2.2.2.2.1 : Int) < 0
        · simp only [if_pos q3, show decide ((-1 : Int) < 0) = true from rfl, cond_true]; try rw [if_pos (by omega)]
        · simp only [if_neg q3, decide_eq_false q3, cond_false]
          rw [if_neg (by omega)]
          simp only [Int.sub_sub, Int.add_assoc]
theorem en_laws_szWorld (a0 : Int × ((List ByteArray) × (List (Int × ByteArray × Unit)) × Unit) × Bool × (Int × Int × Int × (Int × Int × Int × Int × Unit) × Int × Int × ((List (ByteArray × ByteArray × Unit)) × Unit) × Unit) × (List ((List (ByteArray × ByteArray × Unit)) × Unit)) × (List ByteArray) × Unit) (a1 : Int) : evalF Try.prog ta_laws_szWorld pa_laws_szWorld sg_laws_szWorld Try.f58 noL (a0, a1, ()) = de_laws_szWorld a0 a1 := by kernel_rfl
theorem si_laws_szWorld : SigsOk Try.prog ta_laws_szWorld := SigsOk.of fun f sd h => by
  try dsimp only [Tb.of, ta_laws_szWorld] at h
  split at h
  · rename_i e; subst e; cases h; exact sn_laws_szDisk
  split at h
  · rename_i e; subst e; cases h; exact sn_laws_szStore
  split at h
  · rename_i e; subst e; cases h; exact sn_laws_szStringS
  split at h
  · rename_i e; subst e; cases h; exact sn_laws_szStateS
  cases h
theorem sn_laws_szWorld : Callable Try.prog 58 ∧ Sound Try.prog 58 sd_laws_szWorld.sg sd_laws_szWorld.den :=
  fn_plain (pat := pa_laws_szWorld) (by kernel_rfl) si_laws_szWorld Try.func58 (by kernel_rfl) (by kernel_rfl) (by kernel_rfl) fun x r h => by
    obtain ⟨a0, a1, ⟨⟩⟩ := x; obtain ⟨y, h1, h2⟩ := Option.bind_eq_some_iff.1 (show (m_laws_szWorld a0 a1).bind (fun r => some ((r, ()), (()))) = some r from h); cases h2; exact (en_laws_szWorld a0 a1).trans (eq_laws_szWorld a0 a1 _ h1)
def m_spec_l4KeyOk (k : ByteArray) : Bool := keyOk k
def sg_spec_l4KeyOk : Sig := ⟨[.rd .str], [none], [.rd .bool], [none]⟩
noncomputable def sd_spec_l4KeyOk : SD := ⟨sg_spec_l4KeyOk, fun x => some (((m_spec_l4KeyOk x.1), ()), (()))⟩
noncomputable def ta_spec_l4KeyOk : Tb := Tb.of fun f => none
def pa_spec_l4KeyOk : Nat → Pat × (Nat → Pat) := fun k => (⟨[], [], []⟩, fun _ => ⟨[], [], []⟩)
noncomputable def de_spec_l4KeyOk (a0 : ByteArray) : Option ((((Bool) × Unit) × (Unit))) :=
  bif decide (nI (ByteArray.size a0) ≥ 1) then some ((decide (nI (ByteArray.size a0) ≤ 20), ()), ()) else some ((false, ()), ())
theorem eq_spec_l4KeyOk (a0 : ByteArray) : de_spec_l4KeyOk a0 = some ((m_spec_l4KeyOk a0, ()), ()) := by
  unfold de_spec_l4KeyOk m_spec_l4KeyOk keyOk inB
  by_cases h : (a0.size : Int) ≥ 1
  · have : decide ((1 : Int) ≤ (a0.size : Int)) = true := by simpa using h
    simp [nI, this]
  · have h' : ¬ (1 : Int) ≤ (a0.size : Int) := h
    simp [nI, h']
theorem en_spec_l4KeyOk (a0 : ByteArray) : evalF Try.prog ta_spec_l4KeyOk pa_spec_l4KeyOk sg_spec_l4KeyOk Try.f155 noL (a0, ()) = de_spec_l4KeyOk a0 := by kernel_rfl
theorem si_spec_l4KeyOk : SigsOk Try.prog ta_spec_l4KeyOk := SigsOk.of fun f sd h => by
  try dsimp only [Tb.of, ta_spec_l4KeyOk] at h
  cases h
theorem sn_spec_l4KeyOk : Callable Try.prog 155 ∧ Sound Try.prog 155 sd_spec_l4KeyOk.sg sd_spec_l4KeyOk.den :=
  fn_plain (pat := pa_spec_l4KeyOk) (by kernel_rfl) si_spec_l4KeyOk Try.func155 (by kernel_rfl) (by kernel_rfl) (by kernel_rfl) fun x r h => by
    obtain ⟨a0, ⟨⟩⟩ := x; rw [← h]; exact (en_spec_l4KeyOk a0).trans (eq_spec_l4KeyOk a0)
def m_spec_ValidState (s : Stt) : Bool := validState s
def sg_spec_ValidState : Sig := ⟨[.rd (.pair (.sl (.pair .str (.pair .str .unit))) .unit)], [some 1], [.rd .bool], [none]⟩
noncomputable def sd_spec_ValidState : SD := ⟨sg_spec_ValidState, fun x => some (((m_spec_ValidState x.1), ()), (()))⟩
noncomputable def ta_spec_ValidState : Tb := Tb.of fun f => if f = 155 then some sd_spec_l4KeyOk else none
def pa_spec_ValidState : Nat → Pat × (Nat → Pat) := fun k => if k = 5 then (⟨[.boxSl 1 0 (.pair .str (.pair .str .unit))], [(1, .lf (.ptr 0 0)), (3, .lf (.d (.int .i64)))], [.box 30 [.d (.sl (.pair .str (.pair .str .unit)))]]⟩, fun e => if e = 1 then ⟨[], [(2, .lf (.d .bool))], []⟩ else if e = 2 then ⟨[], [], []⟩ else ⟨[], [], []⟩) else (⟨[], [], []⟩, fun _ => ⟨[], [], []⟩)
noncomputable def co_spec_ValidState_5 : Code := (loopsIn (bodyOf Try.f92)).getD 0 .skip
def fu_spec_ValidState_5 (v3 : Int) (b0_0 : List (ByteArray × ByteArray × Unit)) : Nat := ((b0_0.length : Int) - v3).toNat + 1
noncomputable def tr_spec_ValidState_5 {R : Type}  (NX : ((Int) × (List (ByteArray × ByteArray × Unit)) × Unit) → Option R) (X2 : (Unit) → Option R) (X1 : ((Bool) × Unit) → Option R) (v3 : Int) (b0_0 : List (ByteArray × ByteArray × Unit)) : Option R :=
  bif decide (v3 < nI (List.length b0_0)) then
    bif decide (0 ≤ v3) then
      bif decide (v3 < nI (List.length b0_0)) then
        bif !m_spec_l4KeyOk (List.getD b0_0 (Int.toNat v3) (ByteArray.mk #[], ByteArray.mk #[], ())).fst then X1 (false, ())
        else
          bif decide (0 ≤ v3) then
            bif decide (v3 < nI (List.length b0_0)) then
              bif decide (nI (ByteArray.size (List.getD b0_0 (Int.toNat v3) (ByteArray.mk #[], ByteArray.mk #[], ())).snd.fst) > 100) then X1 (false, ())
              else
                bif decide (v3 > 0) then
                  bif decide (0 ≤ IntKind.wrap IntKind.i64 (v3 - 1)) then
                    bif decide (IntKind.wrap IntKind.i64 (v3 - 1) < nI (List.length b0_0)) then
                      bif decide (0 ≤ v3) then
                        bif decide (v3 < nI (List.length b0_0)) then
                          bif
                              !Op.bytesLess (ByteArray.toList (List.getD b0_0 (Int.toNat (IntKind.wrap IntKind.i64 (v3 - 1))) (ByteArray.mk #[], ByteArray.mk #[], ())).fst)
                                  (ByteArray.toList (List.getD b0_0 (Int.toNat v3) (ByteArray.mk #[], ByteArray.mk #[], ())).fst) then
                            X1 (false, ())
                          else NX (IntKind.wrap IntKind.i64 (v3 + 1), b0_0, ())
                        else none
                      else none
                    else none
                  else none
                else NX (IntKind.wrap IntKind.i64 (v3 + 1), b0_0, ())
            else none
          else none
      else none
    else none
  else X2 PUnit.unit
noncomputable def lo_spec_ValidState_5 : Nat → (Int) → (List (ByteArray × ByteArray × Unit)) →  Option ((Unit) ⊕ ((Bool) × Unit))
  | 0, _, _ => none
  | m + 1, v3, b0_0 => tr_spec_ValidState_5  (fun d => lo_spec_ValidState_5 m d.1 d.2.1) (fun d => some (.inl (d))) (fun d => some (.inr (d))) v3 b0_0
theorem na_spec_ValidState_5 {R S : Type}  (NX : ((Int) × (List (ByteArray × ByteArray × Unit)) × Unit) → Option R) (X2 : (Unit) → Option R) (X1 : ((Bool) × Unit) → Option R) (v3 : Int) (b0_0 : List (ByteArray × ByteArray × Unit)) (f : R → Option S) : tr_spec_ValidState_5  (fun d => (NX d).bind f) (fun d => (X2 d).bind f) (fun d => (X1 d).bind f) v3 b0_0 = (tr_spec_ValidState_5  NX X2 X1 v3 b0_0).bind f := by
  unfold tr_spec_ValidState_5
  simp only [cond_bind, ite_bind, onSum_bind, Option.bind_assoc, Option.bind_none, Option.bind_some]
noncomputable def de_spec_ValidState (a0 : (List (ByteArray × ByteArray × Unit)) × Unit) : Option ((((Bool) × Unit) × (Unit))) :=
  bif decide (nI (List.length a0.fst) > 100) then some ((false, ()), ())
  else Option.bind ((fun d => lo_spec_ValidState_5 (fu_spec_ValidState_5 d.1 d.2.1) d.1 d.2.1) (0, a0.fst, ())) fun val => onSum (fun val => some ((true, ()), ())) (fun val => some ((val.fst, ()), ())) val
theorem eq_spec_ValidState (a0 : Stt) : de_spec_ValidState a0 = some ((m_spec_ValidState a0, ()), ()) := by
  unfold de_spec_ValidState m_spec_ValidState validState
  have c1 : decide (nI a0.1.length > 100) = !decide (a0.1.length ≤ 100) := gt100 _ 100
  by_cases hl : a0.1.length ≤ 100
  · have hL := all_loop (n := a0.1.length) (okPairAt a0.1) (g := fun m i => lo_spec_ValidState_5 m i a0.1) (ok := .inl ()) (bad := .inr (false, ())) (fun m i hi => by
      show lo_spec_ValidState_5 (m + 1) i a0.1 = _
      simp only [lo_spec_ValidState_5, tr_spec_ValidState_5]
      have g1 : decide (nI (ByteArray.size (List.getD a0.1 i (ByteArray.mk #[], ByteArray.mk #[], ())).2.1) > 100) = !decide (ByteArray.size (List.getD a0.1 i zP).2.1 ≤ 100) := gt100 _ 100
      rw [cLt hi, cLe0, wI (show i < 4611686018427387904 by omega), Int.toNat_natCast, gt0, g1]
      simp only [cond_true]
      unfold okPairAt bl
      show (bif !keyOk (List.getD a0.1 i zP).1 then _ else _) = _
      cases i with
      | zero =>
        show (bif !keyOk (List.getD a0.1 0 zP).1 then _ else bif !decide (ByteArray.size (List.getD a0.1 0 zP).2.1 ≤ 100) then _ else _) = _
        cases keyOk (List.getD a0.1 0 zP).1 <;> cases decide (ByteArray.size (List.getD a0.1 0 zP).2.1 ≤ 100) <;> rfl
      | succ j =>
        rw [wP j (by omega), cLe0, cLt (show j < a0.1.length by omega)]
        show (bif !keyOk (List.getD a0.1 (j + 1) zP).1 then _ else bif !decide (ByteArray.size (List.getD a0.1 (j + 1) zP).2.1 ≤ 100) then _ else bif !Op.bytesLess (ByteArray.toList (List.getD a0.1 j zP).1) (ByteArray.toList (List.getD a0.1 (j + 1) zP).1) then _ else _) = _
        rw [Nat.add_sub_cancel]
        cases keyOk (List.getD a0.1 (j + 1) zP).1 <;> cases decide (ByteArray.size (List.getD a0.1 (j + 1) zP).2.1 ≤ 100) <;> cases Op.bytesLess (ByteArray.toList (List.getD a0.1 j zP).1) (ByteArray.toList (List.getD a0.1 (j + 1) zP).1) <;> rfl) (fun m => by
      show lo_spec_ValidState_5 (m + 1) (a0.1.length : Int) a0.1 = _
      simp only [lo_spec_ValidState_5, tr_spec_ValidState_5]
      rw [cLtF]
      rfl) (fu_spec_ValidState_5 0 a0.1) 0 (by omega) (by simp [fu_spec_ValidState_5, nI])
    have hL' : lo_spec_ValidState_5 (fu_spec_ValidState_5 0 a0.1) 0 a0.1 = _ := hL
    rw [c1, decide_eq_true hl]
    show (lo_spec_ValidState_5 (fu_spec_ValidState_5 0 a0.1) 0 a0.1).bind _ = _
    rw [hL']
    cases (List.range' 0 (a0.1.length - 0)).all (okPairAt a0.1) <;> rfl
  · rw [c1, decide_eq_false hl]
    rfl
noncomputable def ou_spec_ValidState_5 {R : Type} (k : Kt R) : ((Unit) ⊕ ((Bool) × Unit)) → Option R := (onSum (fun d => k (.exit 0) (((pa_spec_ValidState 5).2 2).st d) (((pa_spec_ValidState 5).2 2).nid)) (fun d => k .ret (((pa_spec_ValidState 5).2 1).st d) (((pa_spec_ValidState 5).2 1).nid)))
noncomputable def L_spec_ValidState {R : Type} : Lt R pa_spec_ValidState := (addL (pat := pa_spec_ValidState) 5 (fun d k => (lo_spec_ValidState_5 (fu_spec_ValidState_5 d.1 d.2.1) d.1 d.2.1).bind (ou_spec_ValidState_5 k)) noL)
theorem rd_spec_ValidState_5 {R : Type} (nx : (pa_spec_ValidState 5).1.D → Kt R → Option R) (k : Kt R) (v3 : Int) (b0_0 : List (ByteArray × ByteArray × Unit)) : ev Try.prog ⟨ta_spec_ValidState, 0, 53, pa_spec_ValidState⟩ L_spec_ValidState co_spec_ValidState_5 ((pa_spec_ValidState 5).1.st (v3, b0_0, ())) (pa_spec_ValidState 5).1.nid (roundK 0 (pa_spec_ValidState 5) nx k) = tr_spec_ValidState_5  (fun d => nx d k) (fun d => k (.exit 0) (((pa_spec_ValidState 5).2 2).st d) (((pa_spec_ValidState 5).2 2).nid)) (fun d => k .ret (((pa_spec_ValidState 5).2 1).st d) (((pa_spec_ValidState 5).2 1).nid)) v3 b0_0 := by kernel_rfl
theorem lp_spec_ValidState_5 {R : Type} : ∀ (m : Nat) (d : (pa_spec_ValidState 5).1.D) (k : Kt R), loopN 0 (pa_spec_ValidState 5) (fun s nid k => ev Try.prog ⟨ta_spec_ValidState, 0, 53, pa_spec_ValidState⟩ L_spec_ValidState co_spec_ValidState_5 s nid k) m d k = (lo_spec_ValidState_5 m d.1 d.2.1).bind (ou_spec_ValidState_5 k)
  | 0, _, _ => rfl
  | m + 1, ⟨v3, b0_0, ⟨⟩⟩, k => (rd_spec_ValidState_5 _ k v3 b0_0).trans ((congrArg (fun F => tr_spec_ValidState_5  F (fun d => k (.exit 0) (((pa_spec_ValidState 5).2 2).st d) (((pa_spec_ValidState 5).2 2).nid)) (fun d => k .ret (((pa_spec_ValidState 5).2 1).st d) (((pa_spec_ValidState 5).2 1).nid)) v3 b0_0) (funext fun d => lp_spec_ValidState_5 m d k)).trans (na_spec_ValidState_5 (f := ou_spec_ValidState_5 k)  (fun d => lo_spec_ValidState_5 m d.1 d.2.1) (fun d => some (.inl (d))) (fun d => some (.inr (d))) v3 b0_0))
theorem en_spec_ValidState (a0 : (List (ByteArray × ByteArray × Unit)) × Unit) : evalF Try.prog ta_spec_ValidState pa_spec_ValidState sg_spec_ValidState Try.f92 L_spec_ValidState (a0, ()) = de_spec_ValidState a0 := by kernel_rfl
theorem si_spec_ValidState : SigsOk Try.prog ta_spec_ValidState := SigsOk.of fun f sd h => by
  try dsimp only [Tb.of, ta_spec_ValidState] at h
  split at h
  · rename_i e; subst e; cases h; exact sn_spec_l4KeyOk
  cases h
theorem lk_spec_ValidState_5 {R : Type} : LoopOk Try.prog R 53 0 pa_spec_ValidState L_spec_ValidState co_spec_ValidState_5 :=
  loop_key (cfg := ⟨ta_spec_ValidState, 0, 53, pa_spec_ValidState⟩) (key := 5) (by kernel_rfl) (by kernel_rfl) si_spec_ValidState rfl rfl (fun d k r h => ⟨fu_spec_ValidState_5 d.1 d.2.1, (lp_spec_ValidState_5 _ d k).trans h⟩) (fun c hc => by rw [show loopsIn co_spec_ValidState_5 = [] from by kernel_rfl] at hc; cases hc)
theorem sn_spec_ValidState : Callable Try.prog 92 ∧ Sound Try.prog 92 sd_spec_ValidState.sg sd_spec_ValidState.den :=
  fn_loops (pat := pa_spec_ValidState) L_spec_ValidState (by kernel_rfl) si_spec_ValidState Try.func92 (by kernel_rfl) (by kernel_rfl) (fun c hc => by rw [show loopsIn (bodyOf Try.f92) = [co_spec_ValidState_5] from by kernel_rfl] at hc; simp only [List.mem_cons, List.not_mem_nil, or_false] at hc; rcases hc with rfl <;> first | exact lk_spec_ValidState_5) fun x r h => by
    obtain ⟨a0, ⟨⟩⟩ := x; rw [← h]; exact (en_spec_ValidState a0).trans (eq_spec_ValidState a0)
def m_spec_Snapshot (s : Stt) : List (List Chg) := snapS s
def sg_spec_Snapshot : Sig := ⟨[.rd (.pair (.sl (.pair .str (.pair .str .unit))) .unit)], [some 1], [.rd (.sl (.sl (.pair .str (.pair .str (.pair .bool .unit)))))], [none]⟩
noncomputable def sd_spec_Snapshot : SD := ⟨sg_spec_Snapshot, fun x => some (((m_spec_Snapshot x.1), ()), (()))⟩
noncomputable def ta_spec_Snapshot : Tb := Tb.of fun f => if f = 92 then some sd_spec_ValidState else none
def pa_spec_Snapshot : Nat → Pat × (Nat → Pat) := fun k => if k = 6 then (⟨[.last 3 135 (.pair .str (.pair .str (.pair .bool .unit))), .boxSl 1 0 (.pair .str (.pair .str .unit))], [(1, .lf (.ptr 0 0)), (3, .lf (.row 1)), (4, .lf (.d (.int .i64)))], [.box 30 [.d (.sl (.pair .str (.pair .str .unit)))], .last 99 (.pair .str (.pair .str (.pair .bool .unit))) 2, .row 135 (.pair .str (.pair .str (.pair .bool .unit)))]⟩, fun e => if e = 2 then ⟨[.last 3 135 (.pair .str (.pair .str (.pair .bool .unit)))], [(3, .lf (.row 0))], [.last 99 (.pair .str (.pair .str (.pair .bool .unit))) 1, .row 135 (.pair .str (.pair .str (.pair .bool .unit)))]⟩ else ⟨[], [], []⟩) else (⟨[], [], []⟩, fun _ => ⟨[], [], []⟩)
noncomputable def co_spec_Snapshot_6 : Code := (loopsIn (bodyOf Try.f16)).getD 0 .skip
def fu_spec_Snapshot_6 (v4 : Int) (b0_0 : List (ByteArray × ByteArray × Unit)) (r1 : List (List (ByteArray × ByteArray × Bool × Unit))) (c1 : Bool) (r2 : List (ByteArray × ByteArray × Bool × Unit)) : Nat := ((b0_0.length : Int) - v4).toNat + 1
noncomputable def tr_spec_Snapshot_6 {R : Type}  (NX : ((Int) × (List (ByteArray × ByteArray × Unit)) × (List (List (ByteArray × ByteArray × Bool × Unit))) × (Bool) × (List (ByteArray × ByteArray × Bool × Unit)) × Unit) → Option R) (X2 : ((List (List (ByteArray × ByteArray × Bool × Unit))) × (Bool) × (List (ByteArray × ByteArray × Bool × Unit)) × Unit) → Option R) (v4 : Int) (b0_0 : List (ByteArray × ByteArray × Unit)) (r1 : List (List (ByteArray × ByteArray × Bool × Unit))) (c1 : Bool) (r2 : List (ByteArray × ByteArray × Bool × Unit)) : Option R :=
  bif decide (v4 < nI (List.length b0_0)) then
    bif Int.tmod v4 20 == 0 then
      bif decide ((List.length r1 + Bool.toNat c1 + 1) * 24 ≤ 140737488355328) then
        bif decide (0 ≤ IntKind.wrap IntKind.i64 (nI (List.length (bif c1 then r1 ++ [r2] else r1) + Bool.toNat true) - 1)) then
          bif decide (IntKind.wrap IntKind.i64 (nI (List.length (bif c1 then r1 ++ [r2] else r1) + Bool.toNat true) - 1) < nI (List.length (bif c1 then r1 ++ [r2] else r1) + Bool.toNat true)) then
            bif decide (Int.toNat (IntKind.wrap IntKind.i64 (nI (List.length (bif c1 then r1 ++ [r2] else r1) + Bool.toNat true) - 1)) = List.length (bif c1 then r1 ++ [r2] else r1)) then
              bif decide (0 ≤ v4) then
                bif decide (v4 < nI (List.length b0_0)) then
                  bif decide (0 ≤ v4) then
                    bif decide (v4 < nI (List.length b0_0)) then
                      bif decide (0 ≤ IntKind.wrap IntKind.i64 (nI (List.length (bif c1 then r1 ++ [r2] else r1) + Bool.toNat true) - 1)) then
                        bif
                            decide
                              (IntKind.wrap IntKind.i64 (nI (List.length (bif c1 then r1 ++ [r2] else r1) + Bool.toNat true) - 1) <
                                nI (List.length (bif c1 then r1 ++ [r2] else r1) + Bool.toNat true)) then
                          bif decide (Int.toNat (IntKind.wrap IntKind.i64 (nI (List.length (bif c1 then r1 ++ [r2] else r1) + Bool.toNat true) - 1)) = List.length (bif c1 then r1 ++ [r2] else r1)) then
                            NX
                              (IntKind.wrap IntKind.i64 (v4 + 1), b0_0, bif c1 then r1 ++ [r2] else r1, true,
                                [] ++
                                  [((List.getD b0_0 (Int.toNat v4) (ByteArray.mk #[], ByteArray.mk #[], ())).fst, (List.getD b0_0 (Int.toNat v4) (ByteArray.mk #[], ByteArray.mk #[], ())).snd.fst, false,
                                      ())],
                                ())
                          else none
                        else none
                      else none
                    else none
                  else none
                else none
              else none
            else none
          else none
        else none
      else none
    else
      bif decide (0 ≤ IntKind.wrap IntKind.i64 (nI (List.length r1 + Bool.toNat c1) - 1)) then
        bif decide (IntKind.wrap IntKind.i64 (nI (List.length r1 + Bool.toNat c1) - 1) < nI (List.length r1 + Bool.toNat c1)) then
          bif c1 then
            bif decide (Int.toNat (IntKind.wrap IntKind.i64 (nI (List.length r1 + Bool.toNat c1) - 1)) = List.length r1) then
              bif decide (0 ≤ v4) then
                bif decide (v4 < nI (List.length b0_0)) then
                  bif decide (0 ≤ v4) then
                    bif decide (v4 < nI (List.length b0_0)) then
                      bif
                          decide
                            ((List.length r2 +
                                  List.length
                                    [((List.getD b0_0 (Int.toNat v4) (ByteArray.mk #[], ByteArray.mk #[], ())).fst, (List.getD b0_0 (Int.toNat v4) (ByteArray.mk #[], ByteArray.mk #[], ())).snd.fst,
                                        false, ())]) *
                                40 ≤
                              140737488355328) then
                        bif decide (0 ≤ IntKind.wrap IntKind.i64 (nI (List.length r1 + Bool.toNat c1) - 1)) then
                          bif decide (IntKind.wrap IntKind.i64 (nI (List.length r1 + Bool.toNat c1) - 1) < nI (List.length r1 + Bool.toNat c1)) then
                            bif c1 then
                              bif decide (Int.toNat (IntKind.wrap IntKind.i64 (nI (List.length r1 + Bool.toNat c1) - 1)) = List.length r1) then
                                NX
                                  (IntKind.wrap IntKind.i64 (v4 + 1), b0_0, r1, c1,
                                    r2 ++
                                      [((List.getD b0_0 (Int.toNat v4) (ByteArray.mk #[], ByteArray.mk #[], ())).fst, (List.getD b0_0 (Int.toNat v4) (ByteArray.mk #[], ByteArray.mk #[], ())).snd.fst,
                                          false, ())],
                                    ())
                              else none
                            else none
                          else none
                        else none
                      else none
                    else none
                  else none
                else none
              else none
            else none
          else none
        else none
      else none
  else X2 (r1, c1, r2, ())
noncomputable def lo_spec_Snapshot_6 : Nat → (Int) → (List (ByteArray × ByteArray × Unit)) → (List (List (ByteArray × ByteArray × Bool × Unit))) → (Bool) → (List (ByteArray × ByteArray × Bool × Unit)) →  Option ((List (List (ByteArray × ByteArray × Bool × Unit))) × (Bool) × (List (ByteArray × ByteArray × Bool × Unit)) × Unit)
  | 0, _, _, _, _, _ => none
  | m + 1, v4, b0_0, r1, c1, r2 => tr_spec_Snapshot_6  (fun d => lo_spec_Snapshot_6 m d.1 d.2.1 d.2.2.1 d.2.2.2.1 d.2.2.2.2.1) (fun d => some (d)) v4 b0_0 r1 c1 r2
theorem na_spec_Snapshot_6 {R S : Type}  (NX : ((Int) × (List (ByteArray × ByteArray × Unit)) × (List (List (ByteArray × ByteArray × Bool × Unit))) × (Bool) × (List (ByteArray × ByteArray × Bool × Unit)) × Unit) → Option R) (X2 : ((List (List (ByteArray × ByteArray × Bool × Unit))) × (Bool) × (List (ByteArray × ByteArray × Bool × Unit)) × Unit) → Option R) (v4 : Int) (b0_0 : List (ByteArray × ByteArray × Unit)) (r1 : List (List (ByteArray × ByteArray × Bool × Unit))) (c1 : Bool) (r2 : List (ByteArray × ByteArray × Bool × Unit)) (f : R → Option S) : tr_spec_Snapshot_6  (fun d => (NX d).bind f) (fun d => (X2 d).bind f) v4 b0_0 r1 c1 r2 = (tr_spec_Snapshot_6  NX X2 v4 b0_0 r1 c1 r2).bind f := by
  unfold tr_spec_Snapshot_6
  simp only [cond_bind, ite_bind, onSum_bind, Option.bind_assoc, Option.bind_none, Option.bind_some]
noncomputable def de_spec_Snapshot (a0 : (List (ByteArray × ByteArray × Unit)) × Unit) : Option ((((List (List (ByteArray × ByteArray × Bool × Unit))) × Unit) × (Unit))) :=
  bif !m_spec_ValidState (a0.fst, ()) then some (([], ()), ())
  else Option.bind ((fun d => lo_spec_Snapshot_6 (fu_spec_Snapshot_6 d.1 d.2.1 d.2.2.1 d.2.2.2.1 d.2.2.2.2.1) d.1 d.2.1 d.2.2.1 d.2.2.2.1 d.2.2.2.2.1) (0, a0.fst, [], false, [], ())) fun val => some ((bif val.snd.fst then val.fst ++ [val.snd.snd.fst] else val.fst, ()), ())
theorem eq_spec_Snapshot (a0 : Stt) : de_spec_Snapshot a0 = some (((m_spec_Snapshot a0), ()), (())) := by
  unfold de_spec_Snapshot m_spec_Snapshot snapS
  show (bif !validState a0 then _ else _) = _
  cases hv : validState a0 with
  | false => rfl
  | true =>
    have hl := validState_len hv
    have hL := foldi_loop (xs := a0.1) zP SnapI snapStep (g := fun m i s => lo_spec_Snapshot_6 m i a0.1 s.1 s.2.1 s.2.2) (ok := fun s => (s.1, s.2.1, s.2.2, ())) (fun m i s hi hI => by
      show lo_spec_Snapshot_6 (m + 1) i a0.1 s.1 s.2.1 s.2.2 = _
      obtain ⟨r0, c0, r1⟩ := s
      obtain ⟨h1, h2, h3, h4⟩ := hI
      simp only at h2 h3 h4 ⊢
      simp only [lo_spec_Snapshot_6, tr_spec_Snapshot_6]
      rw [cLt hi, cLe0, wI (show i < 4611686018427387904 by omega), Int.toNat_natCast, tmod20]
      unfold snapStep
      cases hc : (i % 20 == 0)
      · have hp : 0 < i := Nat.pos_of_ne_zero fun q => by subst q; cases hc
        have hc0 := h3 hp
        subst hc0
        have e1 := lastIx r0.length (by omega)
        have e2 : decide ((r0.length : Int) < nI (r0.length + 1)) = true := cLt (Nat.lt_succ_self _)
        have e3 : decide ((r1.length + 1) * 40 ≤ 140737488355328) = true := decide_eq_true (by omega)
        simp only [Bool.toNat_true, List.length_singleton, cond_true, cond_false, e1, e2, e3, cLe0, Int.toNat_natCast, decide_true]
        rfl
      · have hL : List.length (bif c0 then r0 ++ [r1] else r0) ≤ i + 1 := by cases c0 <;> simp <;> omega
        have e1 := lastIx (List.length (bif c0 then r0 ++ [r1] else r0)) (by omega)
        have e2 : decide (((List.length (bif c0 then r0 ++ [r1] else r0) : Nat) : Int) < nI (List.length (bif c0 then r0 ++ [r1] else r0) + 1)) = true := cLt (Nat.lt_succ_self _)
        have e3 : decide ((r0.length + Bool.toNat c0 + 1) * 24 ≤ 140737488355328) = true := decide_eq_true (by cases c0 <;> simp <;> omega)
        simp only [Bool.toNat_true, cond_true, e1, e2, e3, cLe0, Int.toNat_natCast, decide_true]
        rfl) (fun i s hi hI => hI.step (by omega) _) (fun m s hI => by
      show lo_spec_Snapshot_6 (m + 1) (a0.1.length : Int) a0.1 s.1 s.2.1 s.2.2 = _
      simp only [lo_spec_Snapshot_6, tr_spec_Snapshot_6]
      rw [cLtF]
      rfl) (fu_spec_Snapshot_6 0 a0.1 [] false []) 0 ([], false, []) (by omega) (by simp [fu_spec_Snapshot_6, nI]) ⟨by omega, by simp, fun q => by omega, by simp⟩
    have hL' : lo_spec_Snapshot_6 (fu_spec_Snapshot_6 0 a0.1 [] false []) 0 a0.1 [] false [] = _ := hL
    show (lo_spec_Snapshot_6 (fu_spec_Snapshot_6 0 a0.1 [] false []) 0 a0.1 [] false []).bind _ = _
    rw [hL']
    rfl
noncomputable def ou_spec_Snapshot_6 {R : Type} (k : Kt R) : ((List (List (ByteArray × ByteArray × Bool × Unit))) × (Bool) × (List (ByteArray × ByteArray × Bool × Unit)) × Unit) → Option R := (fun d => k (.exit 0) (((pa_spec_Snapshot 6).2 2).st d) (((pa_spec_Snapshot 6).2 2).nid))
noncomputable def L_spec_Snapshot {R : Type} : Lt R pa_spec_Snapshot := (addL (pat := pa_spec_Snapshot) 6 (fun d k => (lo_spec_Snapshot_6 (fu_spec_Snapshot_6 d.1 d.2.1 d.2.2.1 d.2.2.2.1 d.2.2.2.2.1) d.1 d.2.1 d.2.2.1 d.2.2.2.1 d.2.2.2.2.1).bind (ou_spec_Snapshot_6 k)) noL)
theorem rd_spec_Snapshot_6 {R : Type} (nx : (pa_spec_Snapshot 6).1.D → Kt R → Option R) (k : Kt R) (v4 : Int) (b0_0 : List (ByteArray × ByteArray × Unit)) (r1 : List (List (ByteArray × ByteArray × Bool × Unit))) (c1 : Bool) (r2 : List (ByteArray × ByteArray × Bool × Unit)) : ev Try.prog ⟨ta_spec_Snapshot, 0, 51, pa_spec_Snapshot⟩ L_spec_Snapshot co_spec_Snapshot_6 ((pa_spec_Snapshot 6).1.st (v4, b0_0, r1, c1, r2, ())) (pa_spec_Snapshot 6).1.nid (roundK 0 (pa_spec_Snapshot 6) nx k) = tr_spec_Snapshot_6  (fun d => nx d k) (fun d => k (.exit 0) (((pa_spec_Snapshot 6).2 2).st d) (((pa_spec_Snapshot 6).2 2).nid)) v4 b0_0 r1 c1 r2 := by kernel_rfl
theorem lp_spec_Snapshot_6 {R : Type} : ∀ (m : Nat) (d : (pa_spec_Snapshot 6).1.D) (k : Kt R), loopN 0 (pa_spec_Snapshot 6) (fun s nid k => ev Try.prog ⟨ta_spec_Snapshot, 0, 51, pa_spec_Snapshot⟩ L_spec_Snapshot co_spec_Snapshot_6 s nid k) m d k = (lo_spec_Snapshot_6 m d.1 d.2.1 d.2.2.1 d.2.2.2.1 d.2.2.2.2.1).bind (ou_spec_Snapshot_6 k)
  | 0, _, _ => rfl
  | m + 1, ⟨v4, b0_0, r1, c1, r2, ⟨⟩⟩, k => (rd_spec_Snapshot_6 _ k v4 b0_0 r1 c1 r2).trans ((congrArg (fun F => tr_spec_Snapshot_6  F (fun d => k (.exit 0) (((pa_spec_Snapshot 6).2 2).st d) (((pa_spec_Snapshot 6).2 2).nid)) v4 b0_0 r1 c1 r2) (funext fun d => lp_spec_Snapshot_6 m d k)).trans (na_spec_Snapshot_6 (f := ou_spec_Snapshot_6 k)  (fun d => lo_spec_Snapshot_6 m d.1 d.2.1 d.2.2.1 d.2.2.2.1 d.2.2.2.2.1) (fun d => some (d)) v4 b0_0 r1 c1 r2))
theorem en_spec_Snapshot (a0 : (List (ByteArray × ByteArray × Unit)) × Unit) : evalF Try.prog ta_spec_Snapshot pa_spec_Snapshot sg_spec_Snapshot Try.f16 L_spec_Snapshot (a0, ()) = de_spec_Snapshot a0 := by kernel_rfl
theorem si_spec_Snapshot : SigsOk Try.prog ta_spec_Snapshot := SigsOk.of fun f sd h => by
  try dsimp only [Tb.of, ta_spec_Snapshot] at h
  split at h
  · rename_i e; subst e; cases h; exact sn_spec_ValidState
  cases h
theorem lk_spec_Snapshot_6 {R : Type} : LoopOk Try.prog R 51 0 pa_spec_Snapshot L_spec_Snapshot co_spec_Snapshot_6 :=
  loop_key (cfg := ⟨ta_spec_Snapshot, 0, 51, pa_spec_Snapshot⟩) (key := 6) (by kernel_rfl) (by kernel_rfl) si_spec_Snapshot rfl rfl (fun d k r h => ⟨fu_spec_Snapshot_6 d.1 d.2.1 d.2.2.1 d.2.2.2.1 d.2.2.2.2.1, (lp_spec_Snapshot_6 _ d k).trans h⟩) (fun c hc => by rw [show loopsIn co_spec_Snapshot_6 = [] from by kernel_rfl] at hc; cases hc)
theorem sn_spec_Snapshot : Callable Try.prog 16 ∧ Sound Try.prog 16 sd_spec_Snapshot.sg sd_spec_Snapshot.den :=
  fn_loops (pat := pa_spec_Snapshot) L_spec_Snapshot (by kernel_rfl) si_spec_Snapshot Try.func16 (by kernel_rfl) (by kernel_rfl) (fun c hc => by rw [show loopsIn (bodyOf Try.f16) = [co_spec_Snapshot_6] from by kernel_rfl] at hc; simp only [List.mem_cons, List.not_mem_nil, or_false] at hc; rcases hc with rfl <;> first | exact lk_spec_Snapshot_6) fun x r h => by
    obtain ⟨a0, ⟨⟩⟩ := x; rw [← h]; exact (en_spec_Snapshot a0).trans (eq_spec_Snapshot a0)
def m_spec_ValidBatch (b : List Chg) : Bool := validBatch b
def sg_spec_ValidBatch : Sig := ⟨[.rd (.sl (.pair .str (.pair .str (.pair .bool .unit))))], [none], [.rd .bool], [none]⟩
noncomputable def sd_spec_ValidBatch : SD := ⟨sg_spec_ValidBatch, fun x => some (((m_spec_ValidBatch x.1), ()), (()))⟩
noncomputable def ta_spec_ValidBatch : Tb := Tb.of fun f => if f = 155 then some sd_spec_l4KeyOk else none
def pa_spec_ValidBatch : Nat → Pat × (Nat → Pat) := fun k => if k = 5 then (⟨[.sl 0 0 (.pair .str (.pair .str (.pair .bool .unit)))], [(0, .lf (.d (.sl (.pair .str (.pair .str (.pair .bool .unit)))))), (3, .lf (.d (.int .i64)))], []⟩, fun e => if e = 1 then ⟨[], [(2, .lf (.d .bool))], []⟩ else if e = 2 then ⟨[], [], []⟩ else ⟨[], [], []⟩) else (⟨[], [], []⟩, fun _ => ⟨[], [], []⟩)
noncomputable def co_spec_ValidBatch_5 : Code := (loopsIn (bodyOf Try.f72)).getD 0 .skip
def fu_spec_ValidBatch_5 (v0 : List (ByteArray × ByteArray × Bool × Unit)) (v3 : Int) : Nat := ((v0.length : Int) - v3).toNat + 1
noncomputable def tr_spec_ValidBatch_5 {R : Type}  (NX : ((List (ByteArray × ByteArray × Bool × Unit)) × (Int) × Unit) → Option R) (X2 : (Unit) → Option R) (X1 : ((Bool) × Unit) → Option R) (v0 : List (ByteArray × ByteArray × Bool × Unit)) (v3 : Int) : Option R :=
  bif decide (v3 < nI (List.length v0)) then
    bif decide (0 ≤ v3) then
      bif decide (v3 < nI (List.length v0)) then
        bif !m_spec_l4KeyOk (List.getD v0 (Int.toNat v3) (ByteArray.mk #[], ByteArray.mk #[], false, ())).fst then X1 (false, ())
        else
          bif decide (0 ≤ v3) then
            bif decide (v3 < nI (List.length v0)) then
              bif decide (nI (ByteArray.size (List.getD v0 (Int.toNat v3) (ByteArray.mk #[], ByteArray.mk #[], false, ())).snd.fst) > 100) then X1 (false, ())
              else
                bif decide (0 ≤ v3) then
                  bif decide (v3 < nI (List.length v0)) then
                    bif (List.getD v0 (Int.toNat v3) (ByteArray.mk #[], ByteArray.mk #[], false, ())).snd.snd.fst then
                      bif decide (0 ≤ v3) then
                        bif decide (v3 < nI (List.length v0)) then
                          bif !ByteArray.toList (List.getD v0 (Int.toNat v3) (ByteArray.mk #[], ByteArray.mk #[], false, ())).snd.fst == ByteArray.toList (ByteArray.mk #[]) then X1 (false, ())
                          else NX (v0, IntKind.wrap IntKind.i64 (v3 + 1), ())
                        else none
                      else none
                    else NX (v0, IntKind.wrap IntKind.i64 (v3 + 1), ())
                  else none
                else none
            else none
          else none
      else none
    else none
  else X2 PUnit.unit
noncomputable def lo_spec_ValidBatch_5 : Nat → (List (ByteArray × ByteArray × Bool × Unit)) → (Int) →  Option ((Unit) ⊕ ((Bool) × Unit))
  | 0, _, _ => none
  | m + 1, v0, v3 => tr_spec_ValidBatch_5  (fun d => lo_spec_ValidBatch_5 m d.1 d.2.1) (fun d => some (.inl (d))) (fun d => some (.inr (d))) v0 v3
theorem na_spec_ValidBatch_5 {R S : Type}  (NX : ((List (ByteArray × ByteArray × Bool × Unit)) × (Int) × Unit) → Option R) (X2 : (Unit) → Option R) (X1 : ((Bool) × Unit) → Option R) (v0 : List (ByteArray × ByteArray × Bool × Unit)) (v3 : Int) (f : R → Option S) : tr_spec_ValidBatch_5  (fun d => (NX d).bind f) (fun d => (X2 d).bind f) (fun d => (X1 d).bind f) v0 v3 = (tr_spec_ValidBatch_5  NX X2 X1 v0 v3).bind f := by
  unfold tr_spec_ValidBatch_5
  simp only [cond_bind, ite_bind, onSum_bind, Option.bind_assoc, Option.bind_none, Option.bind_some]
noncomputable def de_spec_ValidBatch (a0 : List (ByteArray × ByteArray × Bool × Unit)) : Option ((((Bool) × Unit) × (Unit))) :=
  bif decide (nI (List.length a0) < 1) then some ((false, ()), ())
  else bif decide (nI (List.length a0) > 20) then some ((false, ()), ()) else Option.bind ((fun d => lo_spec_ValidBatch_5 (fu_spec_ValidBatch_5 d.1 d.2.1) d.1 d.2.1) (a0, 0, ())) fun val => onSum (fun val => some ((true, ()), ())) (fun val => some ((val.fst, ()), ())) val
theorem eq_spec_ValidBatch (a0 : List (ByteArray × ByteArray × Bool × Unit)) : de_spec_ValidBatch a0 = some (((m_spec_ValidBatch a0), ()), (())) := by
  unfold de_spec_ValidBatch m_spec_ValidBatch validBatch
  have tl : ByteArray.toList (ByteArray.mk #[]) = [] := by decide +kernel
  rw [inB_lt (nI (List.length a0))]
  show (bif inB (a0.length : Int) 1 20 then _ else _) = _
  cases hin : inB (a0.length : Int) 1 20 with
  | false => rfl
  | true =>
    have hlen : a0.length ≤ 20 := by have := (inB_r hin).2; omega
    have hL := all_loop (n := a0.length) (fun i => okChg (a0.getD i zC)) (g := fun m i => lo_spec_ValidBatch_5 m a0 i) (ok := .inl ()) (bad := .inr (false, ())) (fun m i hi => by
      show lo_spec_ValidBatch_5 (m + 1) a0 i = _
      simp only [lo_spec_ValidBatch_5, tr_spec_ValidBatch_5]
      rw [tl, cLt hi, cLe0, wI (show i < 4611686018427387904 by omega), Int.toNat_natCast]
      have g1 : decide (nI (ByteArray.size (List.getD a0 i (ByteArray.mk #[], ByteArray.mk #[], false, ())).2.1) > 100) = !decide ((a0.getD i zC).2.1.size ≤ 100) := gt100 _ 100
      rw [g1]
      show (bif !keyOk (a0.getD i zC).1 then _ else (bif _ then _ else (bif (a0.getD i zC).2.2.1 then (bif !((a0.getD i zC).2.1.toList == []) then _ else _) else _))) = _
      unfold okChg
      cases keyOk (a0.getD i zC).1 <;> cases decide ((a0.getD i zC).2.1.size ≤ 100) <;> cases (a0.getD i zC).2.2.1 <;> cases ((a0.getD i zC).2.1.toList == []) <;> rfl) (fun m => by
      show lo_spec_ValidBatch_5 (m + 1) a0 (a0.length : Int) = _
      simp only [lo_spec_ValidBatch_5, tr_spec_ValidBatch_5]
      rw [cLtF]
      rfl) (fu_spec_ValidBatch_5 a0 0) 0 (by omega) (by simp [fu_spec_ValidBatch_5, nI])
    refine bi_ hL ?_
    rw [Nat.sub_zero]
    cases (List.range' 0 a0.length).all (fun i => okChg (a0.getD i zC)) <;> rfl
noncomputable def ou_spec_ValidBatch_5 {R : Type} (k : Kt R) : ((Unit) ⊕ ((Bool) × Unit)) → Option R := (onSum (fun d => k (.exit 0) (((pa_spec_ValidBatch 5).2 2).st d) (((pa_spec_ValidBatch 5).2 2).nid)) (fun d => k .ret (((pa_spec_ValidBatch 5).2 1).st d) (((pa_spec_ValidBatch 5).2 1).nid)))
noncomputable def L_spec_ValidBatch {R : Type} : Lt R pa_spec_ValidBatch := (addL (pat := pa_spec_ValidBatch) 5 (fun d k => (lo_spec_ValidBatch_5 (fu_spec_ValidBatch_5 d.1 d.2.1) d.1 d.2.1).bind (ou_spec_ValidBatch_5 k)) noL)
theorem rd_spec_ValidBatch_5 {R : Type} (nx : (pa_spec_ValidBatch 5).1.D → Kt R → Option R) (k : Kt R) (v0 : List (ByteArray × ByteArray × Bool × Unit)) (v3 : Int) : ev Try.prog ⟨ta_spec_ValidBatch, 0, 49, pa_spec_ValidBatch⟩ L_spec_ValidBatch co_spec_ValidBatch_5 ((pa_spec_ValidBatch 5).1.st (v0, v3, ())) (pa_spec_ValidBatch 5).1.nid (roundK 0 (pa_spec_ValidBatch 5) nx k) = tr_spec_ValidBatch_5  (fun d => nx d k) (fun d => k (.exit 0) (((pa_spec_ValidBatch 5).2 2).st d) (((pa_spec_ValidBatch 5).2 2).nid)) (fun d => k .ret (((pa_spec_ValidBatch 5).2 1).st d) (((pa_spec_ValidBatch 5).2 1).nid)) v0 v3 := by kernel_rfl
theorem lp_spec_ValidBatch_5 {R : Type} : ∀ (m : Nat) (d : (pa_spec_ValidBatch 5).1.D) (k : Kt R), loopN 0 (pa_spec_ValidBatch 5) (fun s nid k => ev Try.prog ⟨ta_spec_ValidBatch, 0, 49, pa_spec_ValidBatch⟩ L_spec_ValidBatch co_spec_ValidBatch_5 s nid k) m d k = (lo_spec_ValidBatch_5 m d.1 d.2.1).bind (ou_spec_ValidBatch_5 k)
  | 0, _, _ => rfl
  | m + 1, ⟨v0, v3, ⟨⟩⟩, k => (rd_spec_ValidBatch_5 _ k v0 v3).trans ((congrArg (fun F => tr_spec_ValidBatch_5  F (fun d => k (.exit 0) (((pa_spec_ValidBatch 5).2 2).st d) (((pa_spec_ValidBatch 5).2 2).nid)) (fun d => k .ret (((pa_spec_ValidBatch 5).2 1).st d) (((pa_spec_ValidBatch 5).2 1).nid)) v0 v3) (funext fun d => lp_spec_ValidBatch_5 m d k)).trans (na_spec_ValidBatch_5 (f := ou_spec_ValidBatch_5 k)  (fun d => lo_spec_ValidBatch_5 m d.1 d.2.1) (fun d => some (.inl (d))) (fun d => some (.inr (d))) v0 v3))
theorem en_spec_ValidBatch (a0 : List (ByteArray × ByteArray × Bool × Unit)) : evalF Try.prog ta_spec_ValidBatch pa_spec_ValidBatch sg_spec_ValidBatch Try.f72 L_spec_ValidBatch (a0, ()) = de_spec_ValidBatch a0 := by kernel_rfl
theorem si_spec_ValidBatch : SigsOk Try.prog ta_spec_ValidBatch := SigsOk.of fun f sd h => by
  try dsimp only [Tb.of, ta_spec_ValidBatch] at h
  split at h
  · rename_i e; subst e; cases h; exact sn_spec_l4KeyOk
  cases h
theorem lk_spec_ValidBatch_5 {R : Type} : LoopOk Try.prog R 49 0 pa_spec_ValidBatch L_spec_ValidBatch co_spec_ValidBatch_5 :=
  loop_key (cfg := ⟨ta_spec_ValidBatch, 0, 49, pa_spec_ValidBatch⟩) (key := 5) (by kernel_rfl) (by kernel_rfl) si_spec_ValidBatch rfl rfl (fun d k r h => ⟨fu_spec_ValidBatch_5 d.1 d.2.1, (lp_spec_ValidBatch_5 _ d k).trans h⟩) (fun c hc => by rw [show loopsIn co_spec_ValidBatch_5 = [] from by kernel_rfl] at hc; cases hc)
theorem sn_spec_ValidBatch : Callable Try.prog 72 ∧ Sound Try.prog 72 sd_spec_ValidBatch.sg sd_spec_ValidBatch.den :=
  fn_loops (pat := pa_spec_ValidBatch) L_spec_ValidBatch (by kernel_rfl) si_spec_ValidBatch Try.func72 (by kernel_rfl) (by kernel_rfl) (fun c hc => by rw [show loopsIn (bodyOf Try.f72) = [co_spec_ValidBatch_5] from by kernel_rfl] at hc; simp only [List.mem_cons, List.not_mem_nil, or_false] at hc; rcases hc with rfl <;> first | exact lk_spec_ValidBatch_5) fun x r h => by
    obtain ⟨a0, ⟨⟩⟩ := x; rw [← h]; exact (en_spec_ValidBatch a0).trans (eq_spec_ValidBatch a0)
def m_spec_FormBatch (b : List Chg) : ByteArray := formB b
def sg_spec_FormBatch : Sig := ⟨[.rd (.sl (.pair .str (.pair .str (.pair .bool .unit))))], [none], [.rd .str], [none]⟩
noncomputable def sd_spec_FormBatch : SD := ⟨sg_spec_FormBatch, fun x => some (((m_spec_FormBatch x.1), ()), (()))⟩
noncomputable def ta_spec_FormBatch : Tb := Tb.of fun f => if f = 72 then some sd_spec_ValidBatch else none
def pa_spec_FormBatch : Nat → Pat × (Nat → Pat) := fun k => if k = 6 then (⟨[.sl 0 0 (.pair .str (.pair .str (.pair .bool .unit))), .row 3 0 5 (.int .u8)], [(0, .lf (.d (.sl (.pair .str (.pair .str (.pair .bool .unit)))))), (3, .lf (.row 0)), (4, .lf (.d (.int .i64)))], [.row 5 (.int .u8)]⟩, fun e => if e = 2 then ⟨[.row 3 0 5 (.int .u8)], [(3, .lf (.row 0))], [.row 5 (.int .u8)]⟩ else ⟨[], [], []⟩) else (⟨[], [], []⟩, fun _ => ⟨[], [], []⟩)
noncomputable def co_spec_FormBatch_6 : Code := (loopsIn (bodyOf Try.f71)).getD 0 .skip
def fu_spec_FormBatch_6 (v0 : List (ByteArray × ByteArray × Bool × Unit)) (v4 : Int) (r0 : List Int) : Nat := ((v0.length : Int) - v4).toNat + 1
noncomputable def tr_spec_FormBatch_6 {R : Type}  (NX : ((List (ByteArray × ByteArray × Bool × Unit)) × (Int) × (List Int) × Unit) → Option R) (X2 : ((List Int) × Unit) → Option R) (v0 : List (ByteArray × ByteArray × Bool × Unit)) (v4 : Int) (r0 : List Int) : Option R :=
  bif decide (v4 < nI (List.length v0)) then
    bif decide (0 ≤ v4) then
      bif decide (v4 < nI (List.length v0)) then
        bif (List.getD v0 (Int.toNat v4) (ByteArray.mk #[], ByteArray.mk #[], false, ())).snd.snd.fst then
          bif decide (0 ≤ v4) then
            bif decide (v4 < nI (List.length v0)) then
              bif
                  decide
                    ((List.length r0 + List.length [1, IntKind.wrap IntKind.u8 (nI (ByteArray.size (List.getD v0 (Int.toNat v4) (ByteArray.mk #[], ByteArray.mk #[], false, ())).fst))]) * 1 ≤
                      140737488355328) then
                bif decide (0 ≤ v4) then
                  bif decide (v4 < nI (List.length v0)) then
                    bif
                        decide
                          (List.length (r0 ++ [1, IntKind.wrap IntKind.u8 (nI (ByteArray.size (List.getD v0 (Int.toNat v4) (ByteArray.mk #[], ByteArray.mk #[], false, ())).fst))]) +
                              ByteArray.size (List.getD v0 (Int.toNat v4) (ByteArray.mk #[], ByteArray.mk #[], false, ())).fst ≤
                            140737488355328) then
                      NX
                        (v0, IntKind.wrap IntKind.i64 (v4 + 1),
                          r0 ++ [1, IntKind.wrap IntKind.u8 (nI (ByteArray.size (List.getD v0 (Int.toNat v4) (ByteArray.mk #[], ByteArray.mk #[], false, ())).fst))] ++
                            bytesOfStr (List.getD v0 (Int.toNat v4) (ByteArray.mk #[], ByteArray.mk #[], false, ())).fst,
                          ())
                    else none
                  else none
                else none
              else none
            else none
          else none
        else
          bif decide (0 ≤ v4) then
            bif decide (v4 < nI (List.length v0)) then
              bif
                  decide
                    ((List.length r0 + List.length [0, IntKind.wrap IntKind.u8 (nI (ByteArray.size (List.getD v0 (Int.toNat v4) (ByteArray.mk #[], ByteArray.mk #[], false, ())).fst))]) * 1 ≤
                      140737488355328) then
                bif decide (0 ≤ v4) then
                  bif decide (v4 < nI (List.length v0)) then
                    bif
                        decide
                          (List.length (r0 ++ [0, IntKind.wrap IntKind.u8 (nI (ByteArray.size (List.getD v0 (Int.toNat v4) (ByteArray.mk #[], ByteArray.mk #[], false, ())).fst))]) +
                              ByteArray.size (List.getD v0 (Int.toNat v4) (ByteArray.mk #[], ByteArray.mk #[], false, ())).fst ≤
                            140737488355328) then
                      bif decide (0 ≤ v4) then
                        bif decide (v4 < nI (List.length v0)) then
                          bif
                              decide
                                ((List.length
                                        (r0 ++ [0, IntKind.wrap IntKind.u8 (nI (ByteArray.size (List.getD v0 (Int.toNat v4) (ByteArray.mk #[], ByteArray.mk #[], false, ())).fst))] ++
                                          bytesOfStr (List.getD v0 (Int.toNat v4) (ByteArray.mk #[], ByteArray.mk #[], false, ())).fst) +
                                      List.length [IntKind.wrap IntKind.u8 (nI (ByteArray.size (List.getD v0 (Int.toNat v4) (ByteArray.mk #[], ByteArray.mk #[], false, ())).snd.fst))]) *
                                    1 ≤
                                  140737488355328) then
                            bif decide (0 ≤ v4) then
                              bif decide (v4 < nI (List.length v0)) then
                                bif
                                    decide
                                      (List.length
                                            (r0 ++ [0, IntKind.wrap IntKind.u8 (nI (ByteArray.size (List.getD v0 (Int.toNat v4) (ByteArray.mk #[], ByteArray.mk #[], false, ())).fst))] ++
                                                bytesOfStr (List.getD v0 (Int.toNat v4) (ByteArray.mk #[], ByteArray.mk #[], false, ())).fst ++
                                              [IntKind.wrap IntKind.u8 (nI (ByteArray.size (List.getD v0 (Int.toNat v4) (ByteArray.mk #[], ByteArray.mk #[], false, ())).snd.fst))]) +
                                          ByteArray.size (List.getD v0 (Int.toNat v4) (ByteArray.mk #[], ByteArray.mk #[], false, ())).snd.fst ≤
                                        140737488355328) then
                                  NX
                                    (v0, IntKind.wrap IntKind.i64 (v4 + 1),
                                      r0 ++ [0, IntKind.wrap IntKind.u8 (nI (ByteArray.size (List.getD v0 (Int.toNat v4) (ByteArray.mk #[], ByteArray.mk #[], false, ())).fst))] ++
                                            bytesOfStr (List.getD v0 (Int.toNat v4) (ByteArray.mk #[], ByteArray.mk #[], false, ())).fst ++
                                          [IntKind.wrap IntKind.u8 (nI (ByteArray.size (List.getD v0 (Int.toNat v4) (ByteArray.mk #[], ByteArray.mk #[], false, ())).snd.fst))] ++
                                        bytesOfStr (List.getD v0 (Int.toNat v4) (ByteArray.mk #[], ByteArray.mk #[], false, ())).snd.fst,
                                      ())
                                else none
                              else none
                            else none
                          else none
                        else none
                      else none
                    else none
                  else none
                else none
              else none
            else none
          else none
      else none
    else none
  else X2 (r0, ())
noncomputable def lo_spec_FormBatch_6 : Nat → (List (ByteArray × ByteArray × Bool × Unit)) → (Int) → (List Int) →  Option ((List Int) × Unit)
  | 0, _, _, _ => none
  | m + 1, v0, v4, r0 => tr_spec_FormBatch_6  (fun d => lo_spec_FormBatch_6 m d.1 d.2.1 d.2.2.1) (fun d => some (d)) v0 v4 r0
theorem na_spec_FormBatch_6 {R S : Type}  (NX : ((List (ByteArray × ByteArray × Bool × Unit)) × (Int) × (List Int) × Unit) → Option R) (X2 : ((List Int) × Unit) → Option R) (v0 : List (ByteArray × ByteArray × Bool × Unit)) (v4 : Int) (r0 : List Int) (f : R → Option S) : tr_spec_FormBatch_6  (fun d => (NX d).bind f) (fun d => (X2 d).bind f) v0 v4 r0 = (tr_spec_FormBatch_6  NX X2 v0 v4 r0).bind f := by
  unfold tr_spec_FormBatch_6
  simp only [cond_bind, ite_bind, onSum_bind, Option.bind_assoc, Option.bind_none, Option.bind_some]
noncomputable def de_spec_FormBatch (a0 : List (ByteArray × ByteArray × Bool × Unit)) : Option ((((ByteArray) × Unit) × (Unit))) :=
  bif !m_spec_ValidBatch a0 then some ((ByteArray.mk #[], ()), ()) else Option.bind ((fun d => lo_spec_FormBatch_6 (fu_spec_FormBatch_6 d.1 d.2.1 d.2.2.1) d.1 d.2.1 d.2.2.1) (a0, 0, [], ())) fun val => some ((strOfNums val.fst, ()), ())
theorem eq_spec_FormBatch (a0 : List (ByteArray × ByteArray × Bool × Unit)) : de_spec_FormBatch a0 = some ((m_spec_FormBatch a0, ()), (())) := by
  unfold de_spec_FormBatch m_spec_FormBatch formB
  show (bif !validBatch a0 then _ else _) = _
  cases hv : validBatch a0 with
  | false => rfl
  | true =>
    obtain ⟨hlen, hok⟩ := validBatch_at hv
    have hL := up_loop a0.length BatOk (fun i r => r ++ chgL (a0.getD i zC)) (g := fun m i r => lo_spec_FormBatch_6 m a0 i r) (ok := fun r => (r, ())) (fun m i r hi hr => by
      show lo_spec_FormBatch_6 (m + 1) a0 i r = _
      simp only [lo_spec_FormBatch_6, tr_spec_FormBatch_6]
      have hc := hok i hi
      obtain ⟨k1, k2, k3⟩ := okChg_len hc
      rw [cLt hi, cLe0, wI (show i < 4611686018427387904 by omega), Int.toNat_natCast]
      have hr1 := hr.1
      have eC : List.getD a0 i (ByteArray.mk #[], ByteArray.mk #[], false, ()) = a0.getD i zC := rfl
      rw [eC]
      generalize a0.getD i zC = c at *
      rw [wrap8 _ (show c.1.size < 256 by omega), wrap8 _ (show c.2.1.size < 256 by omega)]
      simp only [List.length_append, List.length_cons, List.length_nil, bytes_len]
      rw [decide_eq_true (show (r.length + (0 + 1 + 1)) * 1 ≤ 140737488355328 by omega), decide_eq_true (show r.length + (0 + 1 + 1) + c.1.size ≤ 140737488355328 by omega), decide_eq_true (show (r.length + (0 + 1 + 1) + c.1.size + (0 + 1)) * 1 ≤ 140737488355328 by omega), decide_eq_true (show r.length + (0 + 1 + 1) + c.1.size + (0 + 1) + c.2.1.size ≤ 140737488355328 by omega)]
      unfold chgL
      simp only [cond_true]
      cases c.2.2.1 <;> simp only [cond_true, cond_false, List.append_assoc]) (fun m r _ => by
      show lo_spec_FormBatch_6 (m + 1) a0 (a0.length : Int) r = _
      simp only [lo_spec_FormBatch_6, tr_spec_FormBatch_6]
      rw [cLtF]
      rfl) (fun i r hi hr => hr.step (hok i hi)) a0.length (fu_spec_FormBatch_6 a0 0 []) 0 [] (by omega) (by simp [fu_spec_FormBatch_6, nI]) ⟨by simp, rfl⟩
    rw [iter_cat chgL zC a0 a0.length 0 [] (by omega), List.nil_append, List.drop_zero] at hL
    refine bi_ hL ?_
    rfl
noncomputable def ou_spec_FormBatch_6 {R : Type} (k : Kt R) : ((List Int) × Unit) → Option R := (fun d => k (.exit 0) (((pa_spec_FormBatch 6).2 2).st d) (((pa_spec_FormBatch 6).2 2).nid))
noncomputable def L_spec_FormBatch {R : Type} : Lt R pa_spec_FormBatch := (addL (pat := pa_spec_FormBatch) 6 (fun d k => (lo_spec_FormBatch_6 (fu_spec_FormBatch_6 d.1 d.2.1 d.2.2.1) d.1 d.2.1 d.2.2.1).bind (ou_spec_FormBatch_6 k)) noL)
theorem rd_spec_FormBatch_6 {R : Type} (nx : (pa_spec_FormBatch 6).1.D → Kt R → Option R) (k : Kt R) (v0 : List (ByteArray × ByteArray × Bool × Unit)) (v4 : Int) (r0 : List Int) : ev Try.prog ⟨ta_spec_FormBatch, 0, 70, pa_spec_FormBatch⟩ L_spec_FormBatch co_spec_FormBatch_6 ((pa_spec_FormBatch 6).1.st (v0, v4, r0, ())) (pa_spec_FormBatch 6).1.nid (roundK 0 (pa_spec_FormBatch 6) nx k) = tr_spec_FormBatch_6  (fun d => nx d k) (fun d => k (.exit 0) (((pa_spec_FormBatch 6).2 2).st d) (((pa_spec_FormBatch 6).2 2).nid)) v0 v4 r0 := by kernel_rfl
theorem lp_spec_FormBatch_6 {R : Type} : ∀ (m : Nat) (d : (pa_spec_FormBatch 6).1.D) (k : Kt R), loopN 0 (pa_spec_FormBatch 6) (fun s nid k => ev Try.prog ⟨ta_spec_FormBatch, 0, 70, pa_spec_FormBatch⟩ L_spec_FormBatch co_spec_FormBatch_6 s nid k) m d k = (lo_spec_FormBatch_6 m d.1 d.2.1 d.2.2.1).bind (ou_spec_FormBatch_6 k)
  | 0, _, _ => rfl
  | m + 1, ⟨v0, v4, r0, ⟨⟩⟩, k => (rd_spec_FormBatch_6 _ k v0 v4 r0).trans ((congrArg (fun F => tr_spec_FormBatch_6  F (fun d => k (.exit 0) (((pa_spec_FormBatch 6).2 2).st d) (((pa_spec_FormBatch 6).2 2).nid)) v0 v4 r0) (funext fun d => lp_spec_FormBatch_6 m d k)).trans (na_spec_FormBatch_6 (f := ou_spec_FormBatch_6 k)  (fun d => lo_spec_FormBatch_6 m d.1 d.2.1 d.2.2.1) (fun d => some (d)) v0 v4 r0))
theorem en_spec_FormBatch (a0 : List (ByteArray × ByteArray × Bool × Unit)) : evalF Try.prog ta_spec_FormBatch pa_spec_FormBatch sg_spec_FormBatch Try.f71 L_spec_FormBatch (a0, ()) = de_spec_FormBatch a0 := by kernel_rfl
theorem si_spec_FormBatch : SigsOk Try.prog ta_spec_FormBatch := SigsOk.of fun f sd h => by
  try dsimp only [Tb.of, ta_spec_FormBatch] at h
  split at h
  · rename_i e; subst e; cases h; exact sn_spec_ValidBatch
  cases h
theorem lk_spec_FormBatch_6 {R : Type} : LoopOk Try.prog R 70 0 pa_spec_FormBatch L_spec_FormBatch co_spec_FormBatch_6 :=
  loop_key (cfg := ⟨ta_spec_FormBatch, 0, 70, pa_spec_FormBatch⟩) (key := 6) (by kernel_rfl) (by kernel_rfl) si_spec_FormBatch rfl rfl (fun d k r h => ⟨fu_spec_FormBatch_6 d.1 d.2.1 d.2.2.1, (lp_spec_FormBatch_6 _ d k).trans h⟩) (fun c hc => by rw [show loopsIn co_spec_FormBatch_6 = [] from by kernel_rfl] at hc; cases hc)
theorem sn_spec_FormBatch : Callable Try.prog 71 ∧ Sound Try.prog 71 sd_spec_FormBatch.sg sd_spec_FormBatch.den :=
  fn_loops (pat := pa_spec_FormBatch) L_spec_FormBatch (by kernel_rfl) si_spec_FormBatch Try.func71 (by kernel_rfl) (by kernel_rfl) (fun c hc => by rw [show loopsIn (bodyOf Try.f71) = [co_spec_FormBatch_6] from by kernel_rfl] at hc; simp only [List.mem_cons, List.not_mem_nil, or_false] at hc; rcases hc with rfl <;> first | exact lk_spec_FormBatch_6) fun x r h => by
    obtain ⟨a0, ⟨⟩⟩ := x; rw [← h]; exact (en_spec_FormBatch a0).trans (eq_spec_FormBatch a0)
def sg_spec_l1Width : Sig := ⟨[.rd (.int .i64)], [none], [.rd .bool], [none]⟩
noncomputable def ta_spec_l1Width : Tb := Tb.of fun f => none
def pa_spec_l1Width : Nat → Pat × (Nat → Pat) := fun k => (⟨[], [], []⟩, fun _ => ⟨[], [], []⟩)
noncomputable def de_spec_l1Width (a0 : Int) : Option ((((Bool) × Unit) × (Unit))) :=
  bif decide (a0 ≥ 1) then some ((decide (a0 ≤ 8), ()), ()) else some ((false, ()), ())
noncomputable def sd_spec_l1Width : SD := ⟨sg_spec_l1Width, fun x => de_spec_l1Width x.1⟩
theorem en_spec_l1Width (a0 : Int) : evalF Try.prog ta_spec_l1Width pa_spec_l1Width sg_spec_l1Width Try.f120 noL (a0, ()) = de_spec_l1Width a0 := by kernel_rfl
theorem si_spec_l1Width : SigsOk Try.prog ta_spec_l1Width := SigsOk.of fun f sd h => by
  try dsimp only [Tb.of, ta_spec_l1Width] at h
  cases h
theorem sn_spec_l1Width : Callable Try.prog 120 ∧ Sound Try.prog 120 sd_spec_l1Width.sg sd_spec_l1Width.den :=
  fn_plain (pat := pa_spec_l1Width) (by kernel_rfl) si_spec_l1Width Try.func120 (by kernel_rfl) (by kernel_rfl) (by kernel_rfl) fun x r h => by
    obtain ⟨a0, ⟨⟩⟩ := x; exact (en_spec_l1Width a0).trans h
def sg_spec_l1Part : Sig := ⟨[.rd (.int .i64)], [none], [.rd (.int .i64)], [none]⟩
noncomputable def ta_spec_l1Part : Tb := Tb.of fun f => none
def pa_spec_l1Part : Nat → Pat × (Nat → Pat) := fun k => (⟨[], [], []⟩, fun _ => ⟨[], [], []⟩)
noncomputable def de_spec_l1Part (a0 : Int) : Option ((((Int) × Unit) × (Unit))) :=
  some ((IntKind.wrap IntKind.i64 (IntKind.wrap IntKind.i64 (64 - a0) - 8), ()), ())
noncomputable def sd_spec_l1Part : SD := ⟨sg_spec_l1Part, fun x => de_spec_l1Part x.1⟩
theorem en_spec_l1Part (a0 : Int) : evalF Try.prog ta_spec_l1Part pa_spec_l1Part sg_spec_l1Part Try.f162 noL (a0, ()) = de_spec_l1Part a0 := by kernel_rfl
theorem si_spec_l1Part : SigsOk Try.prog ta_spec_l1Part := SigsOk.of fun f sd h => by
  try dsimp only [Tb.of, ta_spec_l1Part] at h
  cases h
theorem sn_spec_l1Part : Callable Try.prog 162 ∧ Sound Try.prog 162 sd_spec_l1Part.sg sd_spec_l1Part.den :=
  fn_plain (pat := pa_spec_l1Part) (by kernel_rfl) si_spec_l1Part Try.func162 (by kernel_rfl) (by kernel_rfl) (by kernel_rfl) fun x r h => by
    obtain ⟨a0, ⟨⟩⟩ := x; exact (en_spec_l1Part a0).trans h
def m_spec_l3Parts (s : ByteArray) (w : Int) : Option (List ByteArray) := if s.size ≤ 1099511627776 ∧ 1 ≤ w ∧ w ≤ 8 then some (partsS s w) else none
def fu_spec_l3Parts_4 (v0 : ByteArray) (v6 : Int) (r0 : List ByteArray) : Nat := v0.size + 1
def sg_spec_l3Parts : Sig := ⟨[.rd .str, .rd (.int .i64)], [none, none], [.own 9 .str], [none]⟩
noncomputable def sd_spec_l3Parts : SD := ⟨sg_spec_l3Parts, fun x => (m_spec_l3Parts x.1 x.2.1).bind fun r => some ((r, ()), (()))⟩
noncomputable def ta_spec_l3Parts : Tb := Tb.of fun f => if f = 162 then some sd_spec_l1Part else none
def pa_spec_l3Parts : Nat → Pat × (Nat → Pat) := fun k => if k = 4 then (⟨[.row 5 0 9 .str], [(0, .lf (.d .str)), (5, .lf (.row 0)), (6, .lf (.d (.int .i64)))], [.row 9 .str]⟩, fun e => if e = 2 then ⟨[.row 5 0 9 .str], [(0, .lf (.d .str)), (5, .lf (.row 0))], [.row 9 .str]⟩ else ⟨[], [], []⟩) else (⟨[], [], []⟩, fun _ => ⟨[], [], []⟩)
noncomputable def co_spec_l3Parts_4 : Code := (loopsIn (bodyOf Try.f172)).getD 0 .skip
noncomputable def tr_spec_l3Parts_4 {R : Type}  (NX : ((ByteArray) × (Int) × (List ByteArray) × Unit) → Option R) (X2 : ((ByteArray) × (List ByteArray) × Unit) → Option R) (v0 : ByteArray) (v6 : Int) (r0 : List ByteArray) : Option R :=
  bif decide (nI (ByteArray.size v0) > v6) then
    bif decide (0 ≤ v6) then
      bif decide (v6 ≤ nI (ByteArray.size v0)) then
        bif decide ((List.length r0 + List.length [cutOf v0 0 v6]) * 16 ≤ 140737488355328) then
          bif decide (0 ≤ v6) then bif decide (v6 ≤ nI (ByteArray.size v0)) then NX (cutOf v0 v6 (nI (ByteArray.size v0)), v6, r0 ++ [cutOf v0 0 v6], ()) else none else none
        else none
      else none
    else none
  else X2 (v0, r0, ())
noncomputable def lo_spec_l3Parts_4 : Nat → (ByteArray) → (Int) → (List ByteArray) →  Option ((ByteArray) × (List ByteArray) × Unit)
  | 0, _, _, _ => none
  | m + 1, v0, v6, r0 => tr_spec_l3Parts_4  (fun d => lo_spec_l3Parts_4 m d.1 d.2.1 d.2.2.1) (fun d => some (d)) v0 v6 r0
theorem na_spec_l3Parts_4 {R S : Type}  (NX : ((ByteArray) × (Int) × (List ByteArray) × Unit) → Option R) (X2 : ((ByteArray) × (List ByteArray) × Unit) → Option R) (v0 : ByteArray) (v6 : Int) (r0 : List ByteArray) (f : R → Option S) : tr_spec_l3Parts_4  (fun d => (NX d).bind f) (fun d => (X2 d).bind f) v0 v6 r0 = (tr_spec_l3Parts_4  NX X2 v0 v6 r0).bind f := by
  unfold tr_spec_l3Parts_4
  simp only [cond_bind, ite_bind, onSum_bind, Option.bind_assoc, Option.bind_none, Option.bind_some]
noncomputable def de_spec_l3Parts (a0 : ByteArray) (a1 : Int) : Option ((((List ByteArray) × Unit) × (Unit))) :=
  Option.bind ((fun d => lo_spec_l3Parts_4 (fu_spec_l3Parts_4 d.1 d.2.1 d.2.2.1) d.1 d.2.1 d.2.2.1) (a0, IntKind.wrap IntKind.i64 (IntKind.wrap IntKind.i64 (64 - a1) - 8), [], ())) fun val =>
    bif decide ((List.length val.snd.fst + List.length [val.fst]) * 16 ≤ 140737488355328) then some ((val.snd.fst ++ [val.fst], ()), ()) else none
theorem parts_loop (n : Nat) (hn : 1 ≤ n) (hn2 : n ≤ 64) : ∀ (k m : Nat) (s : ByteArray) (r : List ByteArray), s.size ≤ k → k < m → r.length + s.size ≤ 1099511627777 →
    ∃ q t, lo_spec_l3Parts_4 m s n r = some (t, q, ()) ∧ q ++ [t] = r ++ partsGo n k s ∧ q.length + 1 ≤ 1099511627778
  | 0, m + 1, s, r, hs, hm, hr => by
    refine ⟨r, s, ?_, rfl, by omega⟩
    simp only [lo_spec_l3Parts_4, tr_spec_l3Parts_4]
    rw [decide_eq_false (show ¬ (nI s.size > (n : Int)) by simp only [nI]; omega)]
    rfl
  | k + 1, m + 1, s, r, hs, hm, hr => by
    by_cases q : s.size > n
    · have hc : (cutOf s n (nI s.size)).size = s.size - n := by rw [cutOf_size (by omega) (by simp only [nI]; omega) (by simp [nI])]; simp only [nI]; omega
      obtain ⟨q', t', e1, e2, e3⟩ := parts_loop n hn hn2 k m (cutOf s n (nI s.size)) (r ++ [cutOf s 0 n]) (by omega) (by omega) (by rw [List.length_append, List.length_singleton]; omega)
      refine ⟨q', t', ?_, ?_, e3⟩
      · simp only [lo_spec_l3Parts_4, tr_spec_l3Parts_4]
        rw [decide_eq_true (show nI s.size > (n : Int) by simp only [nI]; omega), cLe0, decide_eq_true (show (n : Int) ≤ nI s.size by simp only [nI]; omega), decide_eq_true (show (r.length + [cutOf s 0 n].length) * 16 ≤ 140737488355328 by rw [List.length_singleton]; omega)]
        exact e1
      · rw [e2, List.append_assoc]
        simp only [partsGo, if_pos q]
        rfl
    · refine ⟨r, s, ?_, by simp only [partsGo, if_neg q], by omega⟩
      simp only [lo_spec_l3Parts_4, tr_spec_l3Parts_4]
      rw [decide_eq_false (show ¬ (nI s.size > (n : Int)) by simp only [nI]; omega)]
      rfl
theorem eq_spec_l3Parts (a0 : ByteArray) (a1 : Int) r (h : m_spec_l3Parts a0 a1 = some r) : de_spec_l3Parts a0 a1 = some ((r, ()), (())) := by
  unfold m_spec_l3Parts at h
  split at h
  · rename_i hc
    cases h
    obtain ⟨h0, h1, h2⟩ := hc
    obtain ⟨n, hn⟩ : ∃ n : Nat, 56 - a1 = (n : Int) := ⟨(56 - a1).toNat, by omega⟩
    unfold de_spec_l3Parts partsS
    rw [wrap_ok (n := 64 - a1) (by omega) (by omega), wrap_ok (n := 64 - a1 - 8) (by omega) (by omega), show 64 - a1 - 8 = 56 - a1 by omega, hn, Int.toNat_natCast]
    obtain ⟨q, t, e1, e2, e3⟩ := parts_loop n (by omega) (by omega) a0.size (fu_spec_l3Parts_4 a0 n []) a0 [] (by omega) (by simp only [fu_spec_l3Parts_4]; omega) (by rw [List.length_nil]; omega)
    rw [List.nil_append] at e2
    refine bi_ e1 ?_
    show (bif decide ((q.length + [t].length) * 16 ≤ 140737488355328) then some ((q ++ [t], ()), ()) else none) = _
    rw [decide_eq_true (by rw [List.length_singleton]; omega), e2]
    rfl
  · cases h
noncomputable def ou_spec_l3Parts_4 {R : Type} (k : Kt R) : ((ByteArray) × (List ByteArray) × Unit) → Option R := (fun d => k (.exit 0) (((pa_spec_l3Parts 4).2 2).st d) (((pa_spec_l3Parts 4).2 2).nid))
noncomputable def L_spec_l3Parts {R : Type} : Lt R pa_spec_l3Parts := (addL (pat := pa_spec_l3Parts) 4 (fun d k => (lo_spec_l3Parts_4 (fu_spec_l3Parts_4 d.1 d.2.1 d.2.2.1) d.1 d.2.1 d.2.2.1).bind (ou_spec_l3Parts_4 k)) noL)
theorem rd_spec_l3Parts_4 {R : Type} (nx : (pa_spec_l3Parts 4).1.D → Kt R → Option R) (k : Kt R) (v0 : ByteArray) (v6 : Int) (r0 : List ByteArray) : ev Try.prog ⟨ta_spec_l3Parts, 0, 27, pa_spec_l3Parts⟩ L_spec_l3Parts co_spec_l3Parts_4 ((pa_spec_l3Parts 4).1.st (v0, v6, r0, ())) (pa_spec_l3Parts 4).1.nid (roundK 0 (pa_spec_l3Parts 4) nx k) = tr_spec_l3Parts_4  (fun d => nx d k) (fun d => k (.exit 0) (((pa_spec_l3Parts 4).2 2).st d) (((pa_spec_l3Parts 4).2 2).nid)) v0 v6 r0 := by kernel_rfl
theorem lp_spec_l3Parts_4 {R : Type} : ∀ (m : Nat) (d : (pa_spec_l3Parts 4).1.D) (k : Kt R), loopN 0 (pa_spec_l3Parts 4) (fun s nid k => ev Try.prog ⟨ta_spec_l3Parts, 0, 27, pa_spec_l3Parts⟩ L_spec_l3Parts co_spec_l3Parts_4 s nid k) m d k = (lo_spec_l3Parts_4 m d.1 d.2.1 d.2.2.1).bind (ou_spec_l3Parts_4 k)
  | 0, _, _ => rfl
  | m + 1, ⟨v0, v6, r0, ⟨⟩⟩, k => (rd_spec_l3Parts_4 _ k v0 v6 r0).trans ((congrArg (fun F => tr_spec_l3Parts_4  F (fun d => k (.exit 0) (((pa_spec_l3Parts 4).2 2).st d) (((pa_spec_l3Parts 4).2 2).nid)) v0 v6 r0) (funext fun d => lp_spec_l3Parts_4 m d k)).trans (na_spec_l3Parts_4 (f := ou_spec_l3Parts_4 k)  (fun d => lo_spec_l3Parts_4 m d.1 d.2.1 d.2.2.1) (fun d => some (d)) v0 v6 r0))
theorem en_spec_l3Parts (a0 : ByteArray) (a1 : Int) : evalF Try.prog ta_spec_l3Parts pa_spec_l3Parts sg_spec_l3Parts Try.f172 L_spec_l3Parts (a0, a1, ()) = de_spec_l3Parts a0 a1 := by kernel_rfl
theorem si_spec_l3Parts : SigsOk Try.prog ta_spec_l3Parts := SigsOk.of fun f sd h => by
  try dsimp only [Tb.of, ta_spec_l3Parts] at h
  split at h
  · rename_i e; subst e; cases h; exact sn_spec_l1Part
  cases h
theorem lk_spec_l3Parts_4 {R : Type} : LoopOk Try.prog R 27 0 pa_spec_l3Parts L_spec_l3Parts co_spec_l3Parts_4 :=
  loop_key (cfg := ⟨ta_spec_l3Parts, 0, 27, pa_spec_l3Parts⟩) (key := 4) (by kernel_rfl) (by kernel_rfl) si_spec_l3Parts rfl rfl (fun d k r h => ⟨fu_spec_l3Parts_4 d.1 d.2.1 d.2.2.1, (lp_spec_l3Parts_4 _ d k).trans h⟩) (fun c hc => by rw [show loopsIn co_spec_l3Parts_4 = [] from by kernel_rfl] at hc; cases hc)
theorem sn_spec_l3Parts : Callable Try.prog 172 ∧ Sound Try.prog 172 sd_spec_l3Parts.sg sd_spec_l3Parts.den :=
  fn_loops (pat := pa_spec_l3Parts) L_spec_l3Parts (by kernel_rfl) si_spec_l3Parts Try.func172 (by kernel_rfl) (by kernel_rfl) (fun c hc => by rw [show loopsIn (bodyOf Try.f172) = [co_spec_l3Parts_4] from by kernel_rfl] at hc; simp only [List.mem_cons, List.not_mem_nil, or_false] at hc; rcases hc with rfl <;> first | exact lk_spec_l3Parts_4) fun x r h => by
    obtain ⟨a0, a1, ⟨⟩⟩ := x; obtain ⟨y, h1, h2⟩ := Option.bind_eq_some_iff.1 (show (m_spec_l3Parts a0 a1).bind (fun r => some ((r, ()), (()))) = some r from h); cases h2; exact (en_spec_l3Parts a0 a1).trans (eq_spec_l3Parts a0 a1 _ h1)
def m_spec_Pages (s : ByteArray) (w : Int) : Option Int := if s.size ≤ 1099511627776 then some (bif inB w 1 8 then ((partsS s w).length : Int) else 0) else none
def sg_spec_Pages : Sig := ⟨[.rd .str, .rd (.int .i64)], [none, none], [.rd (.int .i64)], [none]⟩
noncomputable def sd_spec_Pages : SD := ⟨sg_spec_Pages, fun x => (m_spec_Pages x.1 x.2.1).bind fun r => some ((r, ()), (()))⟩
noncomputable def ta_spec_Pages : Tb := Tb.of fun f => if f = 120 then some sd_spec_l1Width else if f = 172 then some sd_spec_l3Parts else none
def pa_spec_Pages : Nat → Pat × (Nat → Pat) := fun k => (⟨[], [], []⟩, fun _ => ⟨[], [], []⟩)
noncomputable def de_spec_Pages (a0 : ByteArray) (a1 : Int) : Option ((((Int) × Unit) × (Unit))) :=
  Option.bind (bif decide (a1 ≥ 1) then some ((decide (a1 ≤ 8), ()), ()) else some ((false, ()), ())) fun val =>
    bif !val.fst.fst then some ((0, ()), ()) else Option.bind (Option.bind (m_spec_l3Parts a0 a1) fun val => some ((val, ()), ())) fun val => some ((nI (List.length val.fst.fst), ()), ())
theorem eq_spec_Pages (a0 : ByteArray) (a1 : Int) r (h : m_spec_Pages a0 a1 = some r) : de_spec_Pages a0 a1 = some ((r, ()), (())) := by
  unfold m_spec_Pages at h
  split at h
  · rename_i hc
    cases h
    unfold de_spec_Pages
    refine bi_ (wid a1) ?_
    show (bif !inB a1 1 8 then _ else _) = _
    cases hw : inB a1 1 8 with
    | false => rfl
    | true =>
      have n1 : m_spec_l3Parts a0 a1 = some (partsS a0 a1) := if_pos ⟨hc, inB_r hw⟩
      simp only [n1, Option.bind_some, Bool.not_true, cond_false, cond_true]
      try rfl
  · cases h
theorem en_spec_Pages (a0 : ByteArray) (a1 : Int) : evalF Try.prog ta_spec_Pages pa_spec_Pages sg_spec_Pages Try.f89 noL (a0, a1, ()) = de_spec_Pages a0 a1 := by kernel_rfl
theorem si_spec_Pages : SigsOk Try.prog ta_spec_Pages := SigsOk.of fun f sd h => by
  try dsimp only [Tb.of, ta_spec_Pages] at h
  split at h
  · rename_i e; subst e; cases h; exact sn_spec_l1Width
  split at h
  · rename_i e; subst e; cases h; exact sn_spec_l3Parts
  cases h
theorem sn_spec_Pages : Callable Try.prog 89 ∧ Sound Try.prog 89 sd_spec_Pages.sg sd_spec_Pages.den :=
  fn_plain (pat := pa_spec_Pages) (by kernel_rfl) si_spec_Pages Try.func89 (by kernel_rfl) (by kernel_rfl) (by kernel_rfl) fun x r h => by
    obtain ⟨a0, a1, ⟨⟩⟩ := x; obtain ⟨y, h1, h2⟩ := Option.bind_eq_some_iff.1 (show (m_spec_Pages a0 a1).bind (fun r => some ((r, ()), (()))) = some r from h); cases h2; exact (en_spec_Pages a0 a1).trans (eq_spec_Pages a0 a1 _ h1)
def m_spec_Room (s : Stt) (w : Int) : Int := roomS s w
def sg_spec_Room : Sig := ⟨[.rd (.pair (.sl (.pair .str (.pair .str .unit))) .unit), .rd (.int .i64)], [some 1, none], [.rd (.int .i64)], [none]⟩
noncomputable def sd_spec_Room : SD := ⟨sg_spec_Room, fun x => some (((m_spec_Room x.1 x.2.1), ()), (()))⟩
noncomputable def ta_spec_Room : Tb := Tb.of fun f => if f = 16 then some sd_spec_Snapshot else if f = 71 then some sd_spec_FormBatch else if f = 89 then some sd_spec_Pages else none
def pa_spec_Room : Nat → Pat × (Nat → Pat) := fun k => if k = 5 then (⟨[.sl 6 0 (.sl (.pair .str (.pair .str (.pair .bool .unit))))], [(1, .lf (.d (.int .i64))), (5, .lf (.d (.int .i64))), (6, .lf (.d (.sl (.sl (.pair .str (.pair .str (.pair .bool .unit))))))), (7, .lf (.d (.int .i64)))], []⟩, fun e => if e = 2 then ⟨[], [(5, .lf (.d (.int .i64)))], []⟩ else ⟨[], [], []⟩) else (⟨[], [], []⟩, fun _ => ⟨[], [], []⟩)
noncomputable def co_spec_Room_5 : Code := (loopsIn (bodyOf Try.f24)).getD 0 .skip
def fu_spec_Room_5 (v1 : Int) (v5 : Int) (v6 : List (List (ByteArray × ByteArray × Bool × Unit))) (v7 : Int) : Nat := ((v6.length : Int) - v7).toNat + 1
noncomputable def tr_spec_Room_5 {R : Type}  (NX : ((Int) × (Int) × (List (List (ByteArray × ByteArray × Bool × Unit))) × (Int) × Unit) → Option R) (X2 : ((Int) × Unit) → Option R) (v1 : Int) (v5 : Int) (v6 : List (List (ByteArray × ByteArray × Bool × Unit))) (v7 : Int) : Option R :=
  bif decide (v7 < nI (List.length v6)) then
    bif decide (0 ≤ v7) then
      bif decide (v7 < nI (List.length v6)) then
        Option.bind (Option.bind (m_spec_Pages (m_spec_FormBatch (List.getD v6 (Int.toNat v7) [])) v1) fun val => some ((val, ()), ())) fun val =>
          NX (v1, IntKind.wrap IntKind.i64 (v5 + val.fst.fst), v6, IntKind.wrap IntKind.i64 (v7 + 1), ())
      else none
    else none
  else X2 (v5, ())
noncomputable def lo_spec_Room_5 : Nat → (Int) → (Int) → (List (List (ByteArray × ByteArray × Bool × Unit))) → (Int) →  Option ((Int) × Unit)
  | 0, _, _, _, _ => none
  | m + 1, v1, v5, v6, v7 => tr_spec_Room_5  (fun d => lo_spec_Room_5 m d.1 d.2.1 d.2.2.1 d.2.2.2.1) (fun d => some (d)) v1 v5 v6 v7
theorem na_spec_Room_5 {R S : Type}  (NX : ((Int) × (Int) × (List (List (ByteArray × ByteArray × Bool × Unit))) × (Int) × Unit) → Option R) (X2 : ((Int) × Unit) → Option R) (v1 : Int) (v5 : Int) (v6 : List (List (ByteArray × ByteArray × Bool × Unit))) (v7 : Int) (f : R → Option S) : tr_spec_Room_5  (fun d => (NX d).bind f) (fun d => (X2 d).bind f) v1 v5 v6 v7 = (tr_spec_Room_5  NX X2 v1 v5 v6 v7).bind f := by
  unfold tr_spec_Room_5
  simp only [cond_bind, ite_bind, onSum_bind, Option.bind_assoc, Option.bind_none, Option.bind_some]
noncomputable def de_spec_Room (a0 : (List (ByteArray × ByteArray × Unit)) × Unit) (a1 : Int) : Option ((((Int) × Unit) × (Unit))) :=
  Option.bind ((fun d => lo_spec_Room_5 (fu_spec_Room_5 d.1 d.2.1 d.2.2.1 d.2.2.2.1) d.1 d.2.1 d.2.2.1 d.2.2.2.1) (a1, 0, m_spec_Snapshot (a0.fst, ()), 0, ())) fun val => some ((val.fst, ()), ())
theorem eq_spec_Room (a0 : Stt) (a1 : Int) : de_spec_Room a0 a1 = some (((m_spec_Room a0 a1), ()), (())) := by
  unfold de_spec_Room m_spec_Room
  have hl := snapS_len a0
  have hL := foldi_loop (xs := snapS a0) [] SumI (fun _ b a => a + pagesN (formB b).size a1) (g := fun m i a => lo_spec_Room_5 m a1 a (snapS a0) i) (ok := fun a => (a, ())) (fun m i a hi hI => by
    show lo_spec_Room_5 (m + 1) a1 a (snapS a0) i = _
    simp only [lo_spec_Room_5, tr_spec_Room_5]
    rw [cLt hi, cLe0, wI (show i < 4611686018427387904 by omega), Int.toNat_natCast]
    have e1 : m_spec_Pages (m_spec_FormBatch (List.getD (snapS a0) i [])) a1 = some (pagesN (formB (List.getD (snapS a0) i [])).size a1) := by
        rw [← pages_eq]
        exact if_pos (Nat.le_trans (formB_size _) (by decide))
    rw [e1]
    simp only [cond_true, Option.bind_some]
    rw [pages_wrap hI]) (fun i a hi hI => hI.step (by omega) _ _) (fun m a hI => by
    show lo_spec_Room_5 (m + 1) a1 a (snapS a0) ((snapS a0).length : Int) = _
    simp only [lo_spec_Room_5, tr_spec_Room_5]
    rw [cLtF]
    rfl) (fu_spec_Room_5 a1 0 (snapS a0) 0) 0 0 (by omega) (by simp [fu_spec_Room_5, nI]) ⟨by omega, by omega, by omega⟩
  have hL' : lo_spec_Room_5 (fu_spec_Room_5 a1 0 (snapS a0) 0) a1 0 (snapS a0) 0 = _ := hL
  show (lo_spec_Room_5 (fu_spec_Room_5 a1 0 (snapS a0) 0) a1 0 (snapS a0) 0).bind _ = _
  rw [hL', foldI_sum, List.drop_zero, room_all, Int.zero_add]
  rfl
noncomputable def ou_spec_Room_5 {R : Type} (k : Kt R) : ((Int) × Unit) → Option R := (fun d => k (.exit 0) (((pa_spec_Room 5).2 2).st d) (((pa_spec_Room 5).2 2).nid))
noncomputable def L_spec_Room {R : Type} : Lt R pa_spec_Room := (addL (pat := pa_spec_Room) 5 (fun d k => (lo_spec_Room_5 (fu_spec_Room_5 d.1 d.2.1 d.2.2.1 d.2.2.2.1) d.1 d.2.1 d.2.2.1 d.2.2.2.1).bind (ou_spec_Room_5 k)) noL)
theorem rd_spec_Room_5 {R : Type} (nx : (pa_spec_Room 5).1.D → Kt R → Option R) (k : Kt R) (v1 : Int) (v5 : Int) (v6 : List (List (ByteArray × ByteArray × Bool × Unit))) (v7 : Int) : ev Try.prog ⟨ta_spec_Room, 0, 26, pa_spec_Room⟩ L_spec_Room co_spec_Room_5 ((pa_spec_Room 5).1.st (v1, v5, v6, v7, ())) (pa_spec_Room 5).1.nid (roundK 0 (pa_spec_Room 5) nx k) = tr_spec_Room_5  (fun d => nx d k) (fun d => k (.exit 0) (((pa_spec_Room 5).2 2).st d) (((pa_spec_Room 5).2 2).nid)) v1 v5 v6 v7 := by kernel_rfl
theorem lp_spec_Room_5 {R : Type} : ∀ (m : Nat) (d : (pa_spec_Room 5).1.D) (k : Kt R), loopN 0 (pa_spec_Room 5) (fun s nid k => ev Try.prog ⟨ta_spec_Room, 0, 26, pa_spec_Room⟩ L_spec_Room co_spec_Room_5 s nid k) m d k = (lo_spec_Room_5 m d.1 d.2.1 d.2.2.1 d.2.2.2.1).bind (ou_spec_Room_5 k)
  | 0, _, _ => rfl
  | m + 1, ⟨v1, v5, v6, v7, ⟨⟩⟩, k => (rd_spec_Room_5 _ k v1 v5 v6 v7).trans ((congrArg (fun F => tr_spec_Room_5  F (fun d => k (.exit 0) (((pa_spec_Room 5).2 2).st d) (((pa_spec_Room 5).2 2).nid)) v1 v5 v6 v7) (funext fun d => lp_spec_Room_5 m d k)).trans (na_spec_Room_5 (f := ou_spec_Room_5 k)  (fun d => lo_spec_Room_5 m d.1 d.2.1 d.2.2.1 d.2.2.2.1) (fun d => some (d)) v1 v5 v6 v7))
theorem en_spec_Room (a0 : (List (ByteArray × ByteArray × Unit)) × Unit) (a1 : Int) : evalF Try.prog ta_spec_Room pa_spec_Room sg_spec_Room Try.f24 L_spec_Room (a0, a1, ()) = de_spec_Room a0 a1 := by kernel_rfl
theorem si_spec_Room : SigsOk Try.prog ta_spec_Room := SigsOk.of fun f sd h => by
  try dsimp only [Tb.of, ta_spec_Room] at h
  split at h
  · rename_i e; subst e; cases h; exact sn_spec_Snapshot
  split at h
  · rename_i e; subst e; cases h; exact sn_spec_FormBatch
  split at h
  · rename_i e; subst e; cases h; exact sn_spec_Pages
  cases h
theorem lk_spec_Room_5 {R : Type} : LoopOk Try.prog R 26 0 pa_spec_Room L_spec_Room co_spec_Room_5 :=
  loop_key (cfg := ⟨ta_spec_Room, 0, 26, pa_spec_Room⟩) (key := 5) (by kernel_rfl) (by kernel_rfl) si_spec_Room rfl rfl (fun d k r h => ⟨fu_spec_Room_5 d.1 d.2.1 d.2.2.1 d.2.2.2.1, (lp_spec_Room_5 _ d k).trans h⟩) (fun c hc => by rw [show loopsIn co_spec_Room_5 = [] from by kernel_rfl] at hc; cases hc)
theorem sn_spec_Room : Callable Try.prog 24 ∧ Sound Try.prog 24 sd_spec_Room.sg sd_spec_Room.den :=
  fn_loops (pat := pa_spec_Room) L_spec_Room (by kernel_rfl) si_spec_Room Try.func24 (by kernel_rfl) (by kernel_rfl) (fun c hc => by rw [show loopsIn (bodyOf Try.f24) = [co_spec_Room_5] from by kernel_rfl] at hc; simp only [List.mem_cons, List.not_mem_nil, or_false] at hc; rcases hc with rfl <;> first | exact lk_spec_Room_5) fun x r h => by
    obtain ⟨a0, a1, ⟨⟩⟩ := x; rw [← h]; exact (en_spec_Room a0 a1).trans (eq_spec_Room a0 a1)
def m_spec_Halves (n : Int) : Int := halvesN n
def sg_spec_Halves : Sig := ⟨[.rd (.int .i64)], [none], [.rd (.int .i64)], [none]⟩
noncomputable def sd_spec_Halves : SD := ⟨sg_spec_Halves, fun x => some (((m_spec_Halves x.1), ()), (()))⟩
noncomputable def ta_spec_Halves : Tb := Tb.of fun f => none
def pa_spec_Halves : Nat → Pat × (Nat → Pat) := fun k => (⟨[], [], []⟩, fun _ => ⟨[], [], []⟩)
noncomputable def de_spec_Halves (a0 : Int) : Option ((((Int) × Unit) × (Unit))) :=
  bif decide (a0 < 8) then some ((0, ()), ()) else bif decide (a0 > 200) then some ((0, ()), ()) else some ((IntKind.wrap IntKind.i64 (Int.tdiv (IntKind.wrap IntKind.i64 (a0 - 2)) 2), ()), ())
theorem eq_spec_Halves (a0 : Int) : de_spec_Halves a0 = some (((m_spec_Halves a0), ()), (())) := by
  unfold de_spec_Halves m_spec_Halves halvesN
  rw [inB_lt]
  cases h : inB a0 8 200 with
  | false => rfl
  | true =>
    obtain ⟨h1, h2⟩ := inB_r h
    rw [halves_code h1 h2]
    rfl
theorem en_spec_Halves (a0 : Int) : evalF Try.prog ta_spec_Halves pa_spec_Halves sg_spec_Halves Try.f119 noL (a0, ()) = de_spec_Halves a0 := by kernel_rfl
theorem si_spec_Halves : SigsOk Try.prog ta_spec_Halves := SigsOk.of fun f sd h => by
  try dsimp only [Tb.of, ta_spec_Halves] at h
  cases h
theorem sn_spec_Halves : Callable Try.prog 119 ∧ Sound Try.prog 119 sd_spec_Halves.sg sd_spec_Halves.den :=
  fn_plain (pat := pa_spec_Halves) (by kernel_rfl) si_spec_Halves Try.func119 (by kernel_rfl) (by kernel_rfl) (by kernel_rfl) fun x r h => by
    obtain ⟨a0, ⟨⟩⟩ := x; rw [← h]; exact (en_spec_Halves a0).trans (eq_spec_Halves a0)
def m_spec_l6In (v lo hi : Int) : Bool := inB v lo hi
def sg_spec_l6In : Sig := ⟨[.rd (.int .i64), .rd (.int .i64), .rd (.int .i64)], [none, none, none], [.rd .bool], [none]⟩
noncomputable def sd_spec_l6In : SD := ⟨sg_spec_l6In, fun x => some (((m_spec_l6In x.1 x.2.1 x.2.2.1), ()), (()))⟩
noncomputable def ta_spec_l6In : Tb := Tb.of fun f => none
def pa_spec_l6In : Nat → Pat × (Nat → Pat) := fun k => (⟨[], [], []⟩, fun _ => ⟨[], [], []⟩)
noncomputable def de_spec_l6In (a0 : Int) (a1 : Int) (a2 : Int) : Option ((((Bool) × Unit) × (Unit))) :=
  bif decide (a0 ≥ a1) then some ((decide (a0 ≤ a2), ()), ()) else some ((false, ()), ())
theorem eq_spec_l6In (a0 a1 a2 : Int) : de_spec_l6In a0 a1 a2 = some ((m_spec_l6In a0 a1 a2, ()), ()) := by
  unfold de_spec_l6In m_spec_l6In inB
  by_cases h : a0 ≥ a1
  · have : decide (a1 ≤ a0) = true := by simpa using h
    simp [h, this]
  · have : decide (a1 ≤ a0) = false := by simpa using h
    simp [h, this]
theorem en_spec_l6In (a0 : Int) (a1 : Int) (a2 : Int) : evalF Try.prog ta_spec_l6In pa_spec_l6In sg_spec_l6In Try.f121 noL (a0, a1, a2, ()) = de_spec_l6In a0 a1 a2 := by kernel_rfl
theorem si_spec_l6In : SigsOk Try.prog ta_spec_l6In := SigsOk.of fun f sd h => by
  try dsimp only [Tb.of, ta_spec_l6In] at h
  cases h
theorem sn_spec_l6In : Callable Try.prog 121 ∧ Sound Try.prog 121 sd_spec_l6In.sg sd_spec_l6In.den :=
  fn_plain (pat := pa_spec_l6In) (by kernel_rfl) si_spec_l6In Try.func121 (by kernel_rfl) (by kernel_rfl) (by kernel_rfl) fun x r h => by
    obtain ⟨a0, a1, a2, ⟨⟩⟩ := x; rw [← h]; exact (en_spec_l6In a0 a1 a2).trans (eq_spec_l6In a0 a1 a2)
def m_spec_ValidStore (s : Sto) : Bool := validStore s
def sg_spec_ValidStore : Sig := ⟨[.rd (.pair (.int .i64) (.pair (.int .i64) (.pair (.int .i64) (.pair (.pair (.int .i64) (.pair (.int .i64) (.pair (.int .i64) (.pair (.int .i64) .unit)))) (.pair (.int .i64) (.pair (.int .i64) (.pair (.pair (.sl (.pair .str (.pair .str .unit))) .unit) .unit)))))))], [some 10], [.rd .bool], [none]⟩
noncomputable def sd_spec_ValidStore : SD := ⟨sg_spec_ValidStore, fun x => some (((m_spec_ValidStore x.1), ()), (()))⟩
noncomputable def ta_spec_ValidStore : Tb := Tb.of fun f => if f = 24 then some sd_spec_Room else if f = 92 then some sd_spec_ValidState else if f = 119 then some sd_spec_Halves else if f = 120 then some sd_spec_l1Width else if f = 121 then some sd_spec_l6In else none
def pa_spec_ValidStore : Nat → Pat × (Nat → Pat) := fun k => (⟨[], [], []⟩, fun _ => ⟨[], [], []⟩)
noncomputable def de_spec_ValidStore (a0 : Int × Int × Int × (Int × Int × Int × Int × Unit) × Int × Int × ((List (ByteArray × ByteArray × Unit)) × Unit) × Unit) : Option ((((Bool) × Unit) × (Unit))) :=
  Option.bind (bif decide (a0.fst ≥ 1) then some ((decide (a0.fst ≤ 8), ()), ()) else some ((false, ()), ())) fun val =>
    bif !val.fst.fst then some ((false, ()), ())
    else
      bif m_spec_Halves a0.snd.fst == 0 then some ((false, ()), ())
      else
        bif !m_spec_l6In a0.snd.snd.fst 1 60000 then some ((false, ()), ())
        else
          bif !m_spec_l6In a0.snd.snd.snd.fst.fst 0 1000000000 then some ((false, ()), ())
          else
            bif !m_spec_l6In a0.snd.snd.snd.fst.snd.fst 0 1 then some ((false, ()), ())
            else
              bif !m_spec_l6In a0.snd.snd.snd.fst.snd.snd.fst 1 999999000 then some ((false, ()), ())
              else
                bif !m_spec_l6In a0.snd.snd.snd.fst.snd.snd.snd.fst 0 60000 then some ((false, ()), ())
                else
                  bif m_spec_l6In a0.snd.snd.snd.snd.fst 0 (m_spec_Halves a0.snd.fst) then
                    bif m_spec_l6In a0.snd.snd.snd.snd.snd.fst 0 a0.snd.snd.snd.snd.fst then
                      bif m_spec_ValidState (a0.snd.snd.snd.snd.snd.snd.fst.fst, ()) then
                        some ((decide (m_spec_Room (a0.snd.snd.snd.snd.snd.snd.fst.fst, ()) a0.fst ≤ IntKind.wrap IntKind.i64 (m_spec_Halves a0.snd.fst - 1)), ()), ())
                      else some ((false, ()), ())
                    else some ((false, ()), ())
                  else some ((false, ()), ())
theorem eq_spec_ValidStore (a0 : Sto) : de_spec_ValidStore a0 = some (((m_spec_ValidStore a0), ()), (())) := by
  unfold de_spec_ValidStore m_spec_ValidStore validStore
  refine bi_ (wid a0.1) ?_
  simp only [m_spec_Halves, m_spec_l6In, m_spec_ValidState, m_spec_Room, halves_wrap, andS, andN, halves_zero]
  simp only [rootOk, Bool.and_assoc]
  rw [Bool.and_left_comm]
theorem en_spec_ValidStore (a0 : Int × Int × Int × (Int × Int × Int × Int × Unit) × Int × Int × ((List (ByteArray × ByteArray × Unit)) × Unit) × Unit) : evalF Try.prog ta_spec_ValidStore pa_spec_ValidStore sg_spec_ValidStore Try.f38 noL (a0, ()) = de_spec_ValidStore a0 := by kernel_rfl
theorem si_spec_ValidStore : SigsOk Try.prog ta_spec_ValidStore := SigsOk.of fun f sd h => by
  try dsimp only [Tb.of, ta_spec_ValidStore] at h
  split at h
  · rename_i e; subst e; cases h; exact sn_spec_Room
  split at h
  · rename_i e; subst e; cases h; exact sn_spec_ValidState
  split at h
  · rename_i e; subst e; cases h; exact sn_spec_Halves
  split at h
  · rename_i e; subst e; cases h; exact sn_spec_l1Width
  split at h
  · rename_i e; subst e; cases h; exact sn_spec_l6In
  cases h
theorem sn_spec_ValidStore : Callable Try.prog 38 ∧ Sound Try.prog 38 sd_spec_ValidStore.sg sd_spec_ValidStore.den :=
  fn_plain (pat := pa_spec_ValidStore) (by kernel_rfl) si_spec_ValidStore Try.func38 (by kernel_rfl) (by kernel_rfl) (by kernel_rfl) fun x r h => by
    obtain ⟨a0, ⟨⟩⟩ := x; rw [← h]; exact (en_spec_ValidStore a0).trans (eq_spec_ValidStore a0)
def m_spec_l2WriteOk (d : Dk) (at_ : Int) (data : ByteArray) : Bool := okWr d.1.length (at_, data, ())
def sg_spec_l2WriteOk : Sig := ⟨[.rd (.pair (.sl .str) (.pair (.sl (.pair (.int .i64) (.pair .str .unit))) .unit)), .rd (.int .i64), .rd .str], [some 2, none, none], [.rd .bool], [none]⟩
noncomputable def sd_spec_l2WriteOk : SD := ⟨sg_spec_l2WriteOk, fun x => some (((m_spec_l2WriteOk x.1 x.2.1 x.2.2.1), ()), (()))⟩
noncomputable def ta_spec_l2WriteOk : Tb := Tb.of fun f => none
def pa_spec_l2WriteOk : Nat → Pat × (Nat → Pat) := fun k => (⟨[], [], []⟩, fun _ => ⟨[], [], []⟩)
noncomputable def de_spec_l2WriteOk (a0 : (List ByteArray) × (List (Int × ByteArray × Unit)) × Unit) (a1 : Int) (a2 : ByteArray) : Option ((((Bool) × Unit) × (Unit))) :=
  bif decide (a1 ≥ 0) then bif decide (a1 < nI (List.length a0.fst)) then some ((nI (ByteArray.size a2) == 64, ()), ()) else some ((false, ()), ()) else some ((false, ()), ())
theorem eq_spec_l2WriteOk (a0 : Dk) (a1 : Int) (a2 : ByteArray) : de_spec_l2WriteOk a0 a1 a2 = some ((m_spec_l2WriteOk a0 a1 a2, ()), ()) := by
  unfold de_spec_l2WriteOk m_spec_l2WriteOk okWr
  have e : (nI (ByteArray.size a2) == 64) = decide (a2.size = 64) := by
    have := ne64 a2.size 64
    simp only [bne] at this
    cases h : (nI (ByteArray.size a2) == ((64 : Nat) : Int)) <;> rw [h] at this <;> cases h2 : decide (a2.size = 64) <;> rw [h2] at this <;> first | (cases this; done) | exact h
  rw [e]
  by_cases h1 : a1 ≥ 0
  · have : decide (0 ≤ a1) = true := by simpa using h1
    rw [decide_eq_true h1]
    simp only [this, cond_true, Bool.true_and, nI]
    cases decide (a1 < (a0.1.length : Int)) <;> rfl
  · have : decide (0 ≤ a1) = false := by simpa using h1
    rw [decide_eq_false h1]
    simp only [this]
    rfl
theorem en_spec_l2WriteOk (a0 : (List ByteArray) × (List (Int × ByteArray × Unit)) × Unit) (a1 : Int) (a2 : ByteArray) : evalF Try.prog ta_spec_l2WriteOk pa_spec_l2WriteOk sg_spec_l2WriteOk Try.f105 noL (a0, a1, a2, ()) = de_spec_l2WriteOk a0 a1 a2 := by kernel_rfl
theorem si_spec_l2WriteOk : SigsOk Try.prog ta_spec_l2WriteOk := SigsOk.of fun f sd h => by
  try dsimp only [Tb.of, ta_spec_l2WriteOk] at h
  cases h
theorem sn_spec_l2WriteOk : Callable Try.prog 105 ∧ Sound Try.prog 105 sd_spec_l2WriteOk.sg sd_spec_l2WriteOk.den :=
  fn_plain (pat := pa_spec_l2WriteOk) (by kernel_rfl) si_spec_l2WriteOk Try.func105 (by kernel_rfl) (by kernel_rfl) (by kernel_rfl) fun x r h => by
    obtain ⟨a0, a1, a2, ⟨⟩⟩ := x; rw [← h]; exact (en_spec_l2WriteOk a0 a1 a2).trans (eq_spec_l2WriteOk a0 a1 a2)
def m_spec_ValidDisk (d : Dk) : Bool := validDisk d
def sg_spec_ValidDisk : Sig := ⟨[.rd (.pair (.sl .str) (.pair (.sl (.pair (.int .i64) (.pair .str .unit))) .unit))], [some 2], [.rd .bool], [none]⟩
noncomputable def sd_spec_ValidDisk : SD := ⟨sg_spec_ValidDisk, fun x => some (((m_spec_ValidDisk x.1), ()), (()))⟩
noncomputable def ta_spec_ValidDisk : Tb := Tb.of fun f => if f = 105 then some sd_spec_l2WriteOk else none
def pa_spec_ValidDisk : Nat → Pat × (Nat → Pat) := fun k => if k = 5 then (⟨[.boxSl 1 0 .str, .boxSl 1 1 (.pair (.int .i64) (.pair .str .unit))], [(1, .lf (.ptr 0 0)), (3, .lf (.d (.int .i64)))], [.box 47 [.d (.sl .str), .d (.sl (.pair (.int .i64) (.pair .str .unit)))]]⟩, fun e => if e = 1 then ⟨[], [(2, .lf (.d .bool))], []⟩ else if e = 2 then ⟨[.boxSl 1 0 .str, .boxSl 1 1 (.pair (.int .i64) (.pair .str .unit))], [(1, .lf (.ptr 0 0))], [.box 47 [.d (.sl .str), .d (.sl (.pair (.int .i64) (.pair .str .unit)))]]⟩ else ⟨[], [], []⟩) else if k = 10 then (⟨[.boxSl 1 0 .str, .boxSl 1 1 (.pair (.int .i64) (.pair .str .unit))], [(1, .lf (.ptr 0 0)), (4, .lf (.d (.int .i64)))], [.box 47 [.d (.sl .str), .d (.sl (.pair (.int .i64) (.pair .str .unit)))]]⟩, fun e => if e = 1 then ⟨[], [(2, .lf (.d .bool))], []⟩ else if e = 4 then ⟨[], [], []⟩ else ⟨[], [], []⟩) else (⟨[], [], []⟩, fun _ => ⟨[], [], []⟩)
noncomputable def co_spec_ValidDisk_5 : Code := (loopsIn (bodyOf Try.f102)).getD 0 .skip
noncomputable def co_spec_ValidDisk_10 : Code := (loopsIn (bodyOf Try.f102)).getD 1 .skip
def fu_spec_ValidDisk_10 (v4 : Int) (b0_0 : List ByteArray) (b0_1 : List (Int × ByteArray × Unit)) : Nat := ((b0_1.length : Int) - v4).toNat + 1
noncomputable def tr_spec_ValidDisk_10 {R : Type}  (NX : ((Int) × (List ByteArray) × (List (Int × ByteArray × Unit)) × Unit) → Option R) (X4 : (Unit) → Option R) (X1 : ((Bool) × Unit) → Option R) (v4 : Int) (b0_0 : List ByteArray) (b0_1 : List (Int × ByteArray × Unit)) : Option R :=
  bif decide (v4 < nI (List.length b0_1)) then
    bif decide (0 ≤ v4) then
      bif decide (v4 < nI (List.length b0_1)) then
        bif decide (0 ≤ v4) then
          bif decide (v4 < nI (List.length b0_1)) then
            bif !m_spec_l2WriteOk (b0_0, b0_1, ()) (List.getD b0_1 (Int.toNat v4) (0, ByteArray.mk #[], ())).fst (List.getD b0_1 (Int.toNat v4) (0, ByteArray.mk #[], ())).snd.fst then X1 (false, ())
            else NX (IntKind.wrap IntKind.i64 (v4 + 1), b0_0, b0_1, ())
          else none
        else none
      else none
    else none
  else X4 PUnit.unit
noncomputable def lo_spec_ValidDisk_10 : Nat → (Int) → (List ByteArray) → (List (Int × ByteArray × Unit)) →  Option ((Unit) ⊕ ((Bool) × Unit))
  | 0, _, _, _ => none
  | m + 1, v4, b0_0, b0_1 => tr_spec_ValidDisk_10  (fun d => lo_spec_ValidDisk_10 m d.1 d.2.1 d.2.2.1) (fun d => some (.inl (d))) (fun d => some (.inr (d))) v4 b0_0 b0_1
theorem na_spec_ValidDisk_10 {R S : Type}  (NX : ((Int) × (List ByteArray) × (List (Int × ByteArray × Unit)) × Unit) → Option R) (X4 : (Unit) → Option R) (X1 : ((Bool) × Unit) → Option R) (v4 : Int) (b0_0 : List ByteArray) (b0_1 : List (Int × ByteArray × Unit)) (f : R → Option S) : tr_spec_ValidDisk_10  (fun d => (NX d).bind f) (fun d => (X4 d).bind f) (fun d => (X1 d).bind f) v4 b0_0 b0_1 = (tr_spec_ValidDisk_10  NX X4 X1 v4 b0_0 b0_1).bind f := by
  unfold tr_spec_ValidDisk_10
  simp only [cond_bind, ite_bind, onSum_bind, Option.bind_assoc, Option.bind_none, Option.bind_some]
def fu_spec_ValidDisk_5 (v3 : Int) (b0_0 : List ByteArray) (b0_1 : List (Int × ByteArray × Unit)) : Nat := ((b0_0.length : Int) - v3).toNat + 1
noncomputable def tr_spec_ValidDisk_5 {R : Type}  (NX : ((Int) × (List ByteArray) × (List (Int × ByteArray × Unit)) × Unit) → Option R) (X2 : ((List ByteArray) × (List (Int × ByteArray × Unit)) × Unit) → Option R) (X1 : ((Bool) × Unit) → Option R) (v3 : Int) (b0_0 : List ByteArray) (b0_1 : List (Int × ByteArray × Unit)) : Option R :=
  bif decide (v3 < nI (List.length b0_0)) then
    bif decide (0 ≤ v3) then
      bif decide (v3 < nI (List.length b0_0)) then
        bif nI (ByteArray.size (List.getD b0_0 (Int.toNat v3) (ByteArray.mk #[]))) != 64 then X1 (false, ()) else NX (IntKind.wrap IntKind.i64 (v3 + 1), b0_0, b0_1, ())
      else none
    else none
  else X2 (b0_0, b0_1, ())
noncomputable def lo_spec_ValidDisk_5 : Nat → (Int) → (List ByteArray) → (List (Int × ByteArray × Unit)) →  Option (((List ByteArray) × (List (Int × ByteArray × Unit)) × Unit) ⊕ ((Bool) × Unit))
  | 0, _, _, _ => none
  | m + 1, v3, b0_0, b0_1 => tr_spec_ValidDisk_5  (fun d => lo_spec_ValidDisk_5 m d.1 d.2.1 d.2.2.1) (fun d => some (.inl (d))) (fun d => some (.inr (d))) v3 b0_0 b0_1
theorem na_spec_ValidDisk_5 {R S : Type}  (NX : ((Int) × (List ByteArray) × (List (Int × ByteArray × Unit)) × Unit) → Option R) (X2 : ((List ByteArray) × (List (Int × ByteArray × Unit)) × Unit) → Option R) (X1 : ((Bool) × Unit) → Option R) (v3 : Int) (b0_0 : List ByteArray) (b0_1 : List (Int × ByteArray × Unit)) (f : R → Option S) : tr_spec_ValidDisk_5  (fun d => (NX d).bind f) (fun d => (X2 d).bind f) (fun d => (X1 d).bind f) v3 b0_0 b0_1 = (tr_spec_ValidDisk_5  NX X2 X1 v3 b0_0 b0_1).bind f := by
  unfold tr_spec_ValidDisk_5
  simp only [cond_bind, ite_bind, onSum_bind, Option.bind_assoc, Option.bind_none, Option.bind_some]
noncomputable def de_spec_ValidDisk (a0 : (List ByteArray) × (List (Int × ByteArray × Unit)) × Unit) : Option ((((Bool) × Unit) × (Unit))) :=
  bif decide (nI (List.length a0.fst) < 8) then some ((false, ()), ())
  else
    bif decide (nI (List.length a0.fst) > 200) then some ((false, ()), ())
    else
      bif decide (nI (List.length a0.snd.fst) > 300) then some ((false, ()), ())
      else
        Option.bind ((fun d => lo_spec_ValidDisk_5 (fu_spec_ValidDisk_5 d.1 d.2.1 d.2.2.1) d.1 d.2.1 d.2.2.1) (0, a0.fst, a0.snd.fst, ())) fun val =>
          onSum (fun val => Option.bind ((fun d => lo_spec_ValidDisk_10 (fu_spec_ValidDisk_10 d.1 d.2.1 d.2.2.1) d.1 d.2.1 d.2.2.1) (0, val.fst, val.snd.fst, ())) fun val => onSum (fun val => some ((true, ()), ())) (fun val => some ((val.fst, ()), ())) val)
            (fun val => some ((val.fst, ()), ())) val
theorem eq_spec_ValidDisk (a0 : Dk) : de_spec_ValidDisk a0 = some ((m_spec_ValidDisk a0, ()), ()) := by
  unfold de_spec_ValidDisk m_spec_ValidDisk validDisk
  have c1 : decide (nI a0.2.1.length > 300) = !decide (a0.2.1.length ≤ 300) := gt100 _ 300
  have c2 : decide (nI a0.1.length > 200) = !decide ((a0.1.length : Int) ≤ 200) := by
    rw [show decide (nI a0.1.length > 200) = !decide (a0.1.length ≤ 200) from gt100 _ 200]
    congr 1
    exact decide_eq_decide.2 (by omega)
  have c3 : decide (nI a0.1.length < 8) = !decide (8 ≤ (a0.1.length : Int)) := by
    by_cases q : 8 ≤ (a0.1.length : Int)
    · rw [decide_eq_true q, decide_eq_false (by simp [nI]; omega)]; rfl
    · rw [decide_eq_false q, decide_eq_true (by simp [nI]; omega)]; rfl
  rw [c1, c2, c3]
  unfold inB
  by_cases h8 : 8 ≤ (a0.1.length : Int)
  · rw [decide_eq_true h8]
    by_cases h2 : (a0.1.length : Int) ≤ 200
    · rw [decide_eq_true h2]
      by_cases hp : a0.2.1.length ≤ 300
      · rw [decide_eq_true hp]
        have hL := all_loop (n := a0.1.length) (fun i => decide ((a0.1.getD i z0).size = 64)) (g := fun m i => lo_spec_ValidDisk_5 m i a0.1 a0.2.1) (ok := .inl (a0.1, a0.2.1, ())) (bad := .inr (false, ())) (fun m i hi => by
          show lo_spec_ValidDisk_5 (m + 1) i a0.1 a0.2.1 = _
          simp only [lo_spec_ValidDisk_5, tr_spec_ValidDisk_5]
          have g1 : (nI (ByteArray.size (List.getD a0.1 i (ByteArray.mk #[]))) != 64) = !decide ((a0.1.getD i z0).size = 64) := ne64 _ 64
          rw [cLt hi, cLe0, wI (show i < 4611686018427387904 by omega), Int.toNat_natCast, g1]
          cases decide ((a0.1.getD i z0).size = 64) <;> rfl) (fun m => by
          show lo_spec_ValidDisk_5 (m + 1) (a0.1.length : Int) a0.1 a0.2.1 = _
          simp only [lo_spec_ValidDisk_5, tr_spec_ValidDisk_5]
          rw [cLtF]
          rfl) (fu_spec_ValidDisk_5 0 a0.1 a0.2.1) 0 (by omega) (by simp [fu_spec_ValidDisk_5])
        have hL' : lo_spec_ValidDisk_5 (fu_spec_ValidDisk_5 0 a0.1 a0.2.1) 0 a0.1 a0.2.1 = _ := hL
        have hM := all_loop (n := a0.2.1.length) (fun i => okWr a0.1.length (a0.2.1.getD i zW)) (g := fun m i => lo_spec_ValidDisk_10 m i a0.1 a0.2.1) (ok := .inl ()) (bad := .inr (false, ())) (fun m i hi => by
          show lo_spec_ValidDisk_10 (m + 1) i a0.1 a0.2.1 = _
          simp only [lo_spec_ValidDisk_10, tr_spec_ValidDisk_10]
          rw [cLt hi, cLe0, wI (show i < 4611686018427387904 by omega), Int.toNat_natCast]
          show (bif !okWr a0.1.length (a0.2.1.getD i zW) then _ else _) = _
          cases okWr a0.1.length (a0.2.1.getD i zW) <;> rfl) (fun m => by
          show lo_spec_ValidDisk_10 (m + 1) (a0.2.1.length : Int) a0.1 a0.2.1 = _
          simp only [lo_spec_ValidDisk_10, tr_spec_ValidDisk_10]
          rw [cLtF]
          rfl) (fu_spec_ValidDisk_10 0 a0.1 a0.2.1) 0 (by omega) (by simp [fu_spec_ValidDisk_10])
        have hM' : lo_spec_ValidDisk_10 (fu_spec_ValidDisk_10 0 a0.1 a0.2.1) 0 a0.1 a0.2.1 = _ := hM
        show (lo_spec_ValidDisk_5 (fu_spec_ValidDisk_5 0 a0.1 a0.2.1) 0 a0.1 a0.2.1).bind _ = _
        rw [hL']
        rw [Nat.sub_zero] at hM' ⊢
        cases (List.range' 0 a0.1.length).all (fun i => decide ((a0.1.getD i z0).size = 64)) with
        | false => rfl
        | true =>
          show (lo_spec_ValidDisk_10 (fu_spec_ValidDisk_10 0 a0.1 a0.2.1) 0 a0.1 a0.2.1).bind _ = _
          rw [hM']
          cases (List.range' 0 a0.2.1.length).all (fun i => okWr a0.1.length (a0.2.1.getD i zW)) <;> rfl
      · rw [decide_eq_false hp]
        rfl
    · rw [decide_eq_false h2]
      rfl
  · rw [decide_eq_false h8]
    rfl
noncomputable def ou_spec_ValidDisk_5 {R : Type} (k : Kt R) : (((List ByteArray) × (List (Int × ByteArray × Unit)) × Unit) ⊕ ((Bool) × Unit)) → Option R := (onSum (fun d => k (.exit 0) (((pa_spec_ValidDisk 5).2 2).st d) (((pa_spec_ValidDisk 5).2 2).nid)) (fun d => k .ret (((pa_spec_ValidDisk 5).2 1).st d) (((pa_spec_ValidDisk 5).2 1).nid)))
noncomputable def ou_spec_ValidDisk_10 {R : Type} (k : Kt R) : ((Unit) ⊕ ((Bool) × Unit)) → Option R := (onSum (fun d => k (.exit 2) (((pa_spec_ValidDisk 10).2 4).st d) (((pa_spec_ValidDisk 10).2 4).nid)) (fun d => k .ret (((pa_spec_ValidDisk 10).2 1).st d) (((pa_spec_ValidDisk 10).2 1).nid)))
noncomputable def L_spec_ValidDisk {R : Type} : Lt R pa_spec_ValidDisk := (addL (pat := pa_spec_ValidDisk) 5 (fun d k => (lo_spec_ValidDisk_5 (fu_spec_ValidDisk_5 d.1 d.2.1 d.2.2.1) d.1 d.2.1 d.2.2.1).bind (ou_spec_ValidDisk_5 k)) (addL (pat := pa_spec_ValidDisk) 10 (fun d k => (lo_spec_ValidDisk_10 (fu_spec_ValidDisk_10 d.1 d.2.1 d.2.2.1) d.1 d.2.1 d.2.2.1).bind (ou_spec_ValidDisk_10 k)) noL))
theorem rd_spec_ValidDisk_10 {R : Type} (nx : (pa_spec_ValidDisk 10).1.D → Kt R → Option R) (k : Kt R) (v4 : Int) (b0_0 : List ByteArray) (b0_1 : List (Int × ByteArray × Unit)) : ev Try.prog ⟨ta_spec_ValidDisk, 0, 57, pa_spec_ValidDisk⟩ L_spec_ValidDisk co_spec_ValidDisk_10 ((pa_spec_ValidDisk 10).1.st (v4, b0_0, b0_1, ())) (pa_spec_ValidDisk 10).1.nid (roundK 0 (pa_spec_ValidDisk 10) nx k) = tr_spec_ValidDisk_10  (fun d => nx d k) (fun d => k (.exit 2) (((pa_spec_ValidDisk 10).2 4).st d) (((pa_spec_ValidDisk 10).2 4).nid)) (fun d => k .ret (((pa_spec_ValidDisk 10).2 1).st d) (((pa_spec_ValidDisk 10).2 1).nid)) v4 b0_0 b0_1 := by kernel_rfl
theorem lp_spec_ValidDisk_10 {R : Type} : ∀ (m : Nat) (d : (pa_spec_ValidDisk 10).1.D) (k : Kt R), loopN 0 (pa_spec_ValidDisk 10) (fun s nid k => ev Try.prog ⟨ta_spec_ValidDisk, 0, 57, pa_spec_ValidDisk⟩ L_spec_ValidDisk co_spec_ValidDisk_10 s nid k) m d k = (lo_spec_ValidDisk_10 m d.1 d.2.1 d.2.2.1).bind (ou_spec_ValidDisk_10 k)
  | 0, _, _ => rfl
  | m + 1, ⟨v4, b0_0, b0_1, ⟨⟩⟩, k => (rd_spec_ValidDisk_10 _ k v4 b0_0 b0_1).trans ((congrArg (fun F => tr_spec_ValidDisk_10  F (fun d => k (.exit 2) (((pa_spec_ValidDisk 10).2 4).st d) (((pa_spec_ValidDisk 10).2 4).nid)) (fun d => k .ret (((pa_spec_ValidDisk 10).2 1).st d) (((pa_spec_ValidDisk 10).2 1).nid)) v4 b0_0 b0_1) (funext fun d => lp_spec_ValidDisk_10 m d k)).trans (na_spec_ValidDisk_10 (f := ou_spec_ValidDisk_10 k)  (fun d => lo_spec_ValidDisk_10 m d.1 d.2.1 d.2.2.1) (fun d => some (.inl (d))) (fun d => some (.inr (d))) v4 b0_0 b0_1))
theorem rd_spec_ValidDisk_5 {R : Type} (nx : (pa_spec_ValidDisk 5).1.D → Kt R → Option R) (k : Kt R) (v3 : Int) (b0_0 : List ByteArray) (b0_1 : List (Int × ByteArray × Unit)) : ev Try.prog ⟨ta_spec_ValidDisk, 0, 57, pa_spec_ValidDisk⟩ L_spec_ValidDisk co_spec_ValidDisk_5 ((pa_spec_ValidDisk 5).1.st (v3, b0_0, b0_1, ())) (pa_spec_ValidDisk 5).1.nid (roundK 0 (pa_spec_ValidDisk 5) nx k) = tr_spec_ValidDisk_5  (fun d => nx d k) (fun d => k (.exit 0) (((pa_spec_ValidDisk 5).2 2).st d) (((pa_spec_ValidDisk 5).2 2).nid)) (fun d => k .ret (((pa_spec_ValidDisk 5).2 1).st d) (((pa_spec_ValidDisk 5).2 1).nid)) v3 b0_0 b0_1 := by kernel_rfl
theorem lp_spec_ValidDisk_5 {R : Type} : ∀ (m : Nat) (d : (pa_spec_ValidDisk 5).1.D) (k : Kt R), loopN 0 (pa_spec_ValidDisk 5) (fun s nid k => ev Try.prog ⟨ta_spec_ValidDisk, 0, 57, pa_spec_ValidDisk⟩ L_spec_ValidDisk co_spec_ValidDisk_5 s nid k) m d k = (lo_spec_ValidDisk_5 m d.1 d.2.1 d.2.2.1).bind (ou_spec_ValidDisk_5 k)
  | 0, _, _ => rfl
  | m + 1, ⟨v3, b0_0, b0_1, ⟨⟩⟩, k => (rd_spec_ValidDisk_5 _ k v3 b0_0 b0_1).trans ((congrArg (fun F => tr_spec_ValidDisk_5  F (fun d => k (.exit 0) (((pa_spec_ValidDisk 5).2 2).st d) (((pa_spec_ValidDisk 5).2 2).nid)) (fun d => k .ret (((pa_spec_ValidDisk 5).2 1).st d) (((pa_spec_ValidDisk 5).2 1).nid)) v3 b0_0 b0_1) (funext fun d => lp_spec_ValidDisk_5 m d k)).trans (na_spec_ValidDisk_5 (f := ou_spec_ValidDisk_5 k)  (fun d => lo_spec_ValidDisk_5 m d.1 d.2.1 d.2.2.1) (fun d => some (.inl (d))) (fun d => some (.inr (d))) v3 b0_0 b0_1))
theorem en_spec_ValidDisk (a0 : (List ByteArray) × (List (Int × ByteArray × Unit)) × Unit) : evalF Try.prog ta_spec_ValidDisk pa_spec_ValidDisk sg_spec_ValidDisk Try.f102 L_spec_ValidDisk (a0, ()) = de_spec_ValidDisk a0 := by kernel_rfl
theorem si_spec_ValidDisk : SigsOk Try.prog ta_spec_ValidDisk := SigsOk.of fun f sd h => by
  try dsimp only [Tb.of, ta_spec_ValidDisk] at h
  split at h
  · rename_i e; subst e; cases h; exact sn_spec_l2WriteOk
  cases h
theorem lk_spec_ValidDisk_10 {R : Type} : LoopOk Try.prog R 57 0 pa_spec_ValidDisk L_spec_ValidDisk co_spec_ValidDisk_10 :=
  loop_key (cfg := ⟨ta_spec_ValidDisk, 0, 57, pa_spec_ValidDisk⟩) (key := 10) (by kernel_rfl) (by kernel_rfl) si_spec_ValidDisk rfl rfl (fun d k r h => ⟨fu_spec_ValidDisk_10 d.1 d.2.1 d.2.2.1, (lp_spec_ValidDisk_10 _ d k).trans h⟩) (fun c hc => by rw [show loopsIn co_spec_ValidDisk_10 = [] from by kernel_rfl] at hc; cases hc)
theorem lk_spec_ValidDisk_5 {R : Type} : LoopOk Try.prog R 57 0 pa_spec_ValidDisk L_spec_ValidDisk co_spec_ValidDisk_5 :=
  loop_key (cfg := ⟨ta_spec_ValidDisk, 0, 57, pa_spec_ValidDisk⟩) (key := 5) (by kernel_rfl) (by kernel_rfl) si_spec_ValidDisk rfl rfl (fun d k r h => ⟨fu_spec_ValidDisk_5 d.1 d.2.1 d.2.2.1, (lp_spec_ValidDisk_5 _ d k).trans h⟩) (fun c hc => by rw [show loopsIn co_spec_ValidDisk_5 = [] from by kernel_rfl] at hc; cases hc)
theorem sn_spec_ValidDisk : Callable Try.prog 102 ∧ Sound Try.prog 102 sd_spec_ValidDisk.sg sd_spec_ValidDisk.den :=
  fn_loops (pat := pa_spec_ValidDisk) L_spec_ValidDisk (by kernel_rfl) si_spec_ValidDisk Try.func102 (by kernel_rfl) (by kernel_rfl) (fun c hc => by rw [show loopsIn (bodyOf Try.f102) = [co_spec_ValidDisk_5, co_spec_ValidDisk_10] from by kernel_rfl] at hc; simp only [List.mem_cons, List.not_mem_nil, or_false] at hc; rcases hc with rfl | rfl <;> first | exact lk_spec_ValidDisk_5 | exact lk_spec_ValidDisk_10) fun x r h => by
    obtain ⟨a0, ⟨⟩⟩ := x; rw [← h]; exact (en_spec_ValidDisk a0).trans (eq_spec_ValidDisk a0)
def m_spec_l7NoStore (s : Sto) : Bool := noStore s
def sg_spec_l7NoStore : Sig := ⟨[.rd (.pair (.int .i64) (.pair (.int .i64) (.pair (.int .i64) (.pair (.pair (.int .i64) (.pair (.int .i64) (.pair (.int .i64) (.pair (.int .i64) .unit)))) (.pair (.int .i64) (.pair (.int .i64) (.pair (.pair (.sl (.pair .str (.pair .str .unit))) .unit) .unit)))))))], [some 10], [.rd .bool], [none]⟩
noncomputable def sd_spec_l7NoStore : SD := ⟨sg_spec_l7NoStore, fun x => some (((m_spec_l7NoStore x.1), ()), (()))⟩
noncomputable def ta_spec_l7NoStore : Tb := Tb.of fun f => none
def pa_spec_l7NoStore : Nat → Pat × (Nat → Pat) := fun k => (⟨[], [], []⟩, fun _ => ⟨[], [], []⟩)
noncomputable def de_spec_l7NoStore (a0 : Int × Int × Int × (Int × Int × Int × Int × Unit) × Int × Int × ((List (ByteArray × ByteArray × Unit)) × Unit) × Unit) : Option ((((Bool) × Unit) × (Unit))) :=
  bif a0.fst == 0 then
    bif a0.snd.fst == 0 then
      bif a0.snd.snd.fst == 0 then
        bif a0.snd.snd.snd.fst.fst == 0 && (a0.snd.snd.snd.fst.snd.fst == 0 && (a0.snd.snd.snd.fst.snd.snd.fst == 0 && (a0.snd.snd.snd.fst.snd.snd.snd.fst == 0 && true))) then
          bif a0.snd.snd.snd.snd.fst == 0 then bif a0.snd.snd.snd.snd.snd.fst == 0 then some ((nI (List.length a0.snd.snd.snd.snd.snd.snd.fst.fst) == 0, ()), ()) else some ((false, ()), ())
          else some ((false, ()), ())
        else some ((false, ()), ())
      else some ((false, ()), ())
    else some ((false, ()), ())
  else some ((false, ()), ())
theorem eq_spec_l7NoStore (a0 : Int × Int × Int × (Int × Int × Int × Int × Unit) × Int × Int × ((List (ByteArray × ByteArray × Unit)) × Unit) × Unit) : de_spec_l7NoStore a0 = some (((m_spec_l7NoStore a0), ()), (())) := by
  unfold de_spec_l7NoStore m_spec_l7NoStore noStore
  simp only [andS, Bool.and_true]
theorem en_spec_l7NoStore (a0 : Int × Int × Int × (Int × Int × Int × Int × Unit) × Int × Int × ((List (ByteArray × ByteArray × Unit)) × Unit) × Unit) : evalF Try.prog ta_spec_l7NoStore pa_spec_l7NoStore sg_spec_l7NoStore Try.f137 noL (a0, ()) = de_spec_l7NoStore a0 := by kernel_rfl
theorem si_spec_l7NoStore : SigsOk Try.prog ta_spec_l7NoStore := SigsOk.of fun f sd h => by
  try dsimp only [Tb.of, ta_spec_l7NoStore] at h
  cases h
theorem sn_spec_l7NoStore : Callable Try.prog 137 ∧ Sound Try.prog 137 sd_spec_l7NoStore.sg sd_spec_l7NoStore.den :=
  fn_plain (pat := pa_spec_l7NoStore) (by kernel_rfl) si_spec_l7NoStore Try.func137 (by kernel_rfl) (by kernel_rfl) (by kernel_rfl) fun x r h => by
    obtain ⟨a0, ⟨⟩⟩ := x; rw [← h]; exact (en_spec_l7NoStore a0).trans (eq_spec_l7NoStore a0)
end Go.Proofs.Ytjoiklaecelalaa.V
