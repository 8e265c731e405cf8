/- What the functions that FnExactNewDisk reaches come to: part 1. No condition. -/
import Derived.Test.YtmhjcfgkheihdaaQBase
import Derived.Test.YtmhjcfgkheihdaaTLay
import Derived.Test.YtmhjcfgkheihdaaProg
import Derived.KernelRfl
namespace Go.Proofs.Ytmhjcfgkheihdaa.V
open Go Go.Proofs.Ytmhjcfgkheihdaa.R Go.Proofs
set_option maxRecDepth 100000
set_option linter.unusedVariables false
set_option linter.unusedSimpArgs false
def m_laws_eqStringS (a b : List ByteArray) : Option Bool := eqM (.sl .str) a b
def sg_laws_eqStringS : Sig := ⟨[.rd (.sl .str), .rd (.sl .str)], [none, none], [.rd .bool], [none]⟩
def sd_laws_eqStringS : SD := ⟨sg_laws_eqStringS, fun x => (m_laws_eqStringS x.1 x.2.1).bind fun r => some ((r, ()), (()))⟩
def ta_laws_eqStringS : Tb := Tb.of fun f => none
def pa_laws_eqStringS : Nat → Pat × (Nat → Pat) := fun k => if k = 5 then (⟨[.sl 0 0 .str, .sl 1 0 .str], [(0, .lf (.d (.sl .str))), (1, .lf (.d (.sl .str))), (5, .lf (.d (.int .i64)))], []⟩, fun e => if e = 1 then ⟨[], [(4, .lf (.d .bool))], []⟩ else if e = 2 then ⟨[], [], []⟩ else ⟨[], [], []⟩) else (⟨[], [], []⟩, fun _ => ⟨[], [], []⟩)
noncomputable def co_laws_eqStringS_5 : Code := (loopsIn (bodyOf Try.f77)).getD 0 .skip
def fu_laws_eqStringS_5 (v0 : List ByteArray) (v1 : List ByteArray) (v5 : Int) : Nat := ((v0.length : Int) - v5).toNat + 1
def tr_laws_eqStringS_5 {R : Type}  (NX : ((List ByteArray) × (List ByteArray) × (Int) × Unit) → Option R) (X2 : (Unit) → Option R) (X1 : ((Bool) × Unit) → Option R) (v0 : List ByteArray) (v1 : List ByteArray) (v5 : Int) : Option R :=
  bif decide (v5 < nI (List.length v0)) then
    bif decide (0 ≤ v5) then
      bif decide (v5 < nI (List.length v0)) then
        bif decide (0 ≤ v5) then
          bif decide (v5 < nI (List.length v1)) then
            bif !ByteArray.toList (List.getD v0 (Int.toNat v5) (ByteArray.mk #[])) == ByteArray.toList (List.getD v1 (Int.toNat v5) (ByteArray.mk #[])) then X1 (false, ())
            else NX (v0, v1, IntKind.wrap IntKind.i64 (v5 + 1), ())
          else none
        else none
      else none
    else none
  else X2 PUnit.unit
def lo_laws_eqStringS_5 : Nat → (List ByteArray) → (List ByteArray) → (Int) →  Option ((Unit) ⊕ ((Bool) × Unit))
  | 0, _, _, _ => none
  | m + 1, v0, v1, v5 => tr_laws_eqStringS_5  (fun d => lo_laws_eqStringS_5 m d.1 d.2.1 d.2.2.1) (fun d => some (.inl (d))) (fun d => some (.inr (d))) v0 v1 v5
theorem na_laws_eqStringS_5 {R S : Type}  (NX : ((List ByteArray) × (List ByteArray) × (Int) × Unit) → Option R) (X2 : (Unit) → Option R) (X1 : ((Bool) × Unit) → Option R) (v0 : List ByteArray) (v1 : List ByteArray) (v5 : Int) (f : R → Option S) : tr_laws_eqStringS_5  (fun d => (NX d).bind f) (fun d => (X2 d).bind f) (fun d => (X1 d).bind f) v0 v1 v5 = (tr_laws_eqStringS_5  NX X2 X1 v0 v1 v5).bind f := by
  unfold tr_laws_eqStringS_5
  simp only [cond_bind, ite_bind, onSum_bind, Option.bind_assoc, Option.bind_none, Option.bind_some]
def de_laws_eqStringS (a0 : List ByteArray) (a1 : List ByteArray) : Option ((((Bool) × Unit) × (Unit))) :=
  bif nI (List.length a0) != nI (List.length a1) then some ((false, ()), ())
  else Option.bind ((fun d => lo_laws_eqStringS_5 (fu_laws_eqStringS_5 d.1 d.2.1 d.2.2.1) d.1 d.2.1 d.2.2.1) (a0, a1, 0, ())) fun val => onSum (fun val => some ((true, ()), ())) (fun val => some ((val.fst, ()), ())) val
theorem eq_laws_eqStringS (a0 : List ByteArray) (a1 : List ByteArray) r (h : m_laws_eqStringS a0 a1 = some r) : de_laws_eqStringS a0 a1 = some ((r, ()), (())) := by
  obtain ⟨hc, hd, rfl⟩ := eqM_some (t := .sl .str) h
  obtain ⟨hlx0, hx⟩ := fineB_sl hc
  obtain ⟨hly0, hy⟩ := fineB_sl hd
  have hlx : a0.length < 1152921504606846976 := hlx0
  have hly : a1.length < 1152921504606846976 := hly0
  clear hlx0 hly0 hc hd h
  · unfold de_laws_eqStringS
    by_cases hl : a1.length = a0.length
    · have c1 : (nI a0.length != nI a1.length) = false := by simp [nI, hl]
      have hL := eq_loop (xs := a0) (ys := a1) (ByteArray.mk #[]) eqS (g := fun m i => lo_laws_eqStringS_5 m a0 a1 i) (ok := .inl ()) (bad := .inr (false, ())) hl (fun m i hi => by
        show lo_laws_eqStringS_5 (m + 1) a0 a1 i = _
        simp only [lo_laws_eqStringS_5, tr_laws_eqStringS_5]
        rw [cLt hi, cLe0, cLt (show i < a1.length by omega), wI (by omega)]
        simp only [cond_true, Int.toNat_natCast]
        show (bif !(ByteArray.toList (List.getD (α := ByteArray) a0 i (ByteArray.mk #[])) == ByteArray.toList (List.getD (α := ByteArray) a1 i (ByteArray.mk #[]))) then _ else _) = bif (ByteArray.toList (List.getD (α := ByteArray) a0 i (ByteArray.mk #[])) == ByteArray.toList (List.getD (α := ByteArray) a1 i (ByteArray.mk #[]))) then _ else _
        cases (ByteArray.toList (List.getD (α := ByteArray) a0 i (ByteArray.mk #[])) == ByteArray.toList (List.getD (α := ByteArray) a1 i (ByteArray.mk #[]))) <;> rfl) (fun m => by
        show lo_laws_eqStringS_5 (m + 1) a0 a1 a0.length = _
        simp only [lo_laws_eqStringS_5, tr_laws_eqStringS_5]
        rw [cLtF]
        rfl) (fu_laws_eqStringS_5 a0 a1 0) 0 (by omega) (by simp [fu_laws_eqStringS_5])
      rw [c1]
      have hL' : lo_laws_eqStringS_5 (fu_laws_eqStringS_5 a0 a1 0) a0 a1 0 = _ := hL
      show (lo_laws_eqStringS_5 (fu_laws_eqStringS_5 a0 a1 0) a0 a1 0).bind _ = some ((eqL (α := ByteArray) eqS a0 a1, ()), ())
      rw [hL', List.drop_zero, List.drop_zero]
      cases eqL (α := ByteArray) eqS a0 a1 <;> rfl
    · have c1 : (nI a0.length != nI a1.length) = true := by simp [nI]; omega
      rw [c1]
      show _ = some ((eqL (α := ByteArray) eqS a0 a1, ()), ())
      rw [eqL_len (fun q => hl q.symm)]
      rfl
def ou_laws_eqStringS_5 {R : Type} (k : Kt R) : ((Unit) ⊕ ((Bool) × Unit)) → Option R := (onSum (fun d => k (.exit 0) (((pa_laws_eqStringS 5).2 2).st d) (((pa_laws_eqStringS 5).2 2).nid)) (fun d => k .ret (((pa_laws_eqStringS 5).2 1).st d) (((pa_laws_eqStringS 5).2 1).nid)))
def L_laws_eqStringS {R : Type} : Lt R pa_laws_eqStringS := (addL (pat := pa_laws_eqStringS) 5 (fun d k => (lo_laws_eqStringS_5 (fu_laws_eqStringS_5 d.1 d.2.1 d.2.2.1) d.1 d.2.1 d.2.2.1).bind (ou_laws_eqStringS_5 k)) noL)
theorem rd_laws_eqStringS_5 {R : Type} (nx : (pa_laws_eqStringS 5).1.D → Kt R → Option R) (k : Kt R) (v0 : List ByteArray) (v1 : List ByteArray) (v5 : Int) : ev Try.prog ⟨ta_laws_eqStringS, 0, 26, pa_laws_eqStringS⟩ L_laws_eqStringS co_laws_eqStringS_5 ((pa_laws_eqStringS 5).1.st (v0, v1, v5, ())) (pa_laws_eqStringS 5).1.nid (roundK 0 (pa_laws_eqStringS 5) nx k) = tr_laws_eqStringS_5  (fun d => nx d k) (fun d => k (.exit 0) (((pa_laws_eqStringS 5).2 2).st d) (((pa_laws_eqStringS 5).2 2).nid)) (fun d => k .ret (((pa_laws_eqStringS 5).2 1).st d) (((pa_laws_eqStringS 5).2 1).nid)) v0 v1 v5 := by kernel_rfl
theorem lp_laws_eqStringS_5 {R : Type} : ∀ (m : Nat) (d : (pa_laws_eqStringS 5).1.D) (k : Kt R), loopN 0 (pa_laws_eqStringS 5) (fun s nid k => ev Try.prog ⟨ta_laws_eqStringS, 0, 26, pa_laws_eqStringS⟩ L_laws_eqStringS co_laws_eqStringS_5 s nid k) m d k = (lo_laws_eqStringS_5 m d.1 d.2.1 d.2.2.1).bind (ou_laws_eqStringS_5 k)
  | 0, _, _ => rfl
  | m + 1, ⟨v0, v1, v5, ⟨⟩⟩, k => (rd_laws_eqStringS_5 _ k v0 v1 v5).trans ((congrArg (fun F => tr_laws_eqStringS_5  F (fun d => k (.exit 0) (((pa_laws_eqStringS 5).2 2).st d) (((pa_laws_eqStringS 5).2 2).nid)) (fun d => k .ret (((pa_laws_eqStringS 5).2 1).st d) (((pa_laws_eqStringS 5).2 1).nid)) v0 v1 v5) (funext fun d => lp_laws_eqStringS_5 m d k)).trans (na_laws_eqStringS_5 (f := ou_laws_eqStringS_5 k)  (fun d => lo_laws_eqStringS_5 m d.1 d.2.1 d.2.2.1) (fun d => some (.inl (d))) (fun d => some (.inr (d))) v0 v1 v5))
theorem en_laws_eqStringS (a0 : List ByteArray) (a1 : List ByteArray) : evalF Try.prog ta_laws_eqStringS pa_laws_eqStringS sg_laws_eqStringS Try.f77 L_laws_eqStringS (a0, a1, ()) = de_laws_eqStringS a0 a1 := by kernel_rfl
theorem si_laws_eqStringS : SigsOk Try.prog ta_laws_eqStringS := SigsOk.of fun f sd h => by
  try dsimp only [Tb.of, ta_laws_eqStringS] at h
  cases h
theorem lk_laws_eqStringS_5 {R : Type} : LoopOk Try.prog R 26 0 pa_laws_eqStringS L_laws_eqStringS co_laws_eqStringS_5 :=
  loop_key (cfg := ⟨ta_laws_eqStringS, 0, 26, pa_laws_eqStringS⟩) (key := 5) (by kernel_rfl) (by kernel_rfl) si_laws_eqStringS rfl rfl (fun d k r h => ⟨fu_laws_eqStringS_5 d.1 d.2.1 d.2.2.1, (lp_laws_eqStringS_5 _ d k).trans h⟩) (fun c hc => by rw [show loopsIn co_laws_eqStringS_5 = [] from by kernel_rfl] at hc; cases hc)
theorem sn_laws_eqStringS : Callable Try.prog 77 ∧ Sound Try.prog 77 sd_laws_eqStringS.sg sd_laws_eqStringS.den :=
  fn_loops (pat := pa_laws_eqStringS) L_laws_eqStringS (by kernel_rfl) si_laws_eqStringS Try.func77 (by kernel_rfl) (by kernel_rfl) (fun c hc => by rw [show loopsIn (bodyOf Try.f77) = [co_laws_eqStringS_5] from by kernel_rfl] at hc; simp only [List.mem_cons, List.not_mem_nil, or_false] at hc; rcases hc with rfl <;> first | exact lk_laws_eqStringS_5) fun x r h => by
    obtain ⟨a0, a1, ⟨⟩⟩ := x; obtain ⟨y, h1, h2⟩ := Option.bind_eq_some_iff.1 (show (m_laws_eqStringS a0 a1).bind (fun r => some ((r, ()), (()))) = some r from h); cases h2; exact (en_laws_eqStringS a0 a1).trans (eq_laws_eqStringS a0 a1 _ h1)
def m_laws_eqWrite (a b : Int × ByteArray × Unit) : Option Bool := eqM (.pair (.int .i64) (.pair .str .unit)) a b
def sg_laws_eqWrite : Sig := ⟨[.rd (.pair (.int .i64) (.pair .str .unit)), .rd (.pair (.int .i64) (.pair .str .unit))], [some 2, some 2], [.rd .bool], [none]⟩
def sd_laws_eqWrite : SD := ⟨sg_laws_eqWrite, fun x => (m_laws_eqWrite x.1 x.2.1).bind fun r => some ((r, ()), (()))⟩
def ta_laws_eqWrite : Tb := Tb.of fun f => none
def pa_laws_eqWrite : Nat → Pat × (Nat → Pat) := fun k => (⟨[], [], []⟩, fun _ => ⟨[], [], []⟩)
def de_laws_eqWrite (a0 : Int × ByteArray × Unit) (a1 : Int × ByteArray × Unit) : Option ((((Bool) × Unit) × (Unit))) :=
  bif a0.fst != a1.fst then some ((false, ()), ()) else bif !ByteArray.toList a0.snd.fst == ByteArray.toList a1.snd.fst then some ((false, ()), ()) else some ((true, ()), ())
theorem eq_laws_eqWrite (a0 : Int × ByteArray × Unit) (a1 : Int × ByteArray × Unit) r (h : m_laws_eqWrite a0 a1 = some r) : de_laws_eqWrite a0 a1 = some ((r, ()), (())) := by
  obtain ⟨hc, hd, rfl⟩ := eqM_some (t := (.pair (.int .i64) (.pair .str .unit))) h
  obtain ⟨hc0, hc1, _⟩ : fineB (.int .i64) a0.1 = true ∧ fineB .str a0.2.1 = true ∧ True := by
    have s := hc
    obtain ⟨h0, s⟩ := fineB_pair s
    obtain ⟨h1, s⟩ := fineB_pair s
    exact ⟨h0, h1, trivial⟩
  obtain ⟨hd0, hd1, _⟩ : fineB (.int .i64) a1.1 = true ∧ fineB .str a1.2.1 = true ∧ True := by
    have s := hd
    obtain ⟨h0, s⟩ := fineB_pair s
    obtain ⟨h1, s⟩ := fineB_pair s
    exact ⟨h0, h1, trivial⟩
  unfold de_laws_eqWrite
  have e0 : (a0.1 != a1.1) = !eqI a0.1 a1.1 := bneI _ _
  have e1 : (!(ByteArray.toList a0.2.1 == ByteArray.toList a1.2.1)) = !eqS a0.2.1 a1.2.1 := rfl
  simp only [e0, e1, Option.bind_some]
  show _ = some (((eqI a0.1 a1.1 && (eqS a0.2.1 a1.2.1 && true)), ()), ())
  generalize eqI a0.1 a1.1 = p0
  generalize eqS a0.2.1 a1.2.1 = p1
  cases p0 <;> cases p1 <;> rfl
theorem en_laws_eqWrite (a0 : Int × ByteArray × Unit) (a1 : Int × ByteArray × Unit) : evalF Try.prog ta_laws_eqWrite pa_laws_eqWrite sg_laws_eqWrite Try.f118 noL (a0, a1, ()) = de_laws_eqWrite a0 a1 := by kernel_rfl
theorem si_laws_eqWrite : SigsOk Try.prog ta_laws_eqWrite := SigsOk.of fun f sd h => by
  try dsimp only [Tb.of, ta_laws_eqWrite] at h
  cases h
theorem sn_laws_eqWrite : Callable Try.prog 118 ∧ Sound Try.prog 118 sd_laws_eqWrite.sg sd_laws_eqWrite.den :=
  fn_plain (pat := pa_laws_eqWrite) (by kernel_rfl) si_laws_eqWrite Try.func118 (by kernel_rfl) (by kernel_rfl) (by kernel_rfl) fun x r h => by
    obtain ⟨a0, a1, ⟨⟩⟩ := x; obtain ⟨y, h1, h2⟩ := Option.bind_eq_some_iff.1 (show (m_laws_eqWrite a0 a1).bind (fun r => some ((r, ()), (()))) = some r from h); cases h2; exact (en_laws_eqWrite a0 a1).trans (eq_laws_eqWrite a0 a1 _ h1)
def m_laws_eqWriteS (a b : List (Int × ByteArray × Unit)) : Option Bool := eqM (.sl (.pair (.int .i64) (.pair .str .unit))) a b
def sg_laws_eqWriteS : Sig := ⟨[.rd (.sl (.pair (.int .i64) (.pair .str .unit))), .rd (.sl (.pair (.int .i64) (.pair .str .unit)))], [none, none], [.rd .bool], [none]⟩
def sd_laws_eqWriteS : SD := ⟨sg_laws_eqWriteS, fun x => (m_laws_eqWriteS x.1 x.2.1).bind fun r => some ((r, ()), (()))⟩
def ta_laws_eqWriteS : Tb := Tb.of fun f => if f = 118 then some sd_laws_eqWrite else none
def pa_laws_eqWriteS : Nat → Pat × (Nat → Pat) := fun k => if k = 5 then (⟨[.sl 0 0 (.pair (.int .i64) (.pair .str .unit)), .sl 1 0 (.pair (.int .i64) (.pair .str .unit))], [(0, .lf (.d (.sl (.pair (.int .i64) (.pair .str .unit))))), (1, .lf (.d (.sl (.pair (.int .i64) (.pair .str .unit))))), (5, .lf (.d (.int .i64)))], []⟩, fun e => if e = 1 then ⟨[], [(4, .lf (.d .bool))], []⟩ else if e = 2 then ⟨[], [], []⟩ else ⟨[], [], []⟩) else (⟨[], [], []⟩, fun _ => ⟨[], [], []⟩)
noncomputable def co_laws_eqWriteS_5 : Code := (loopsIn (bodyOf Try.f78)).getD 0 .skip
def fu_laws_eqWriteS_5 (v0 : List (Int × ByteArray × Unit)) (v1 : List (Int × ByteArray × Unit)) (v5 : Int) : Nat := ((v0.length : Int) - v5).toNat + 1
def tr_laws_eqWriteS_5 {R : Type}  (NX : ((List (Int × ByteArray × Unit)) × (List (Int × ByteArray × Unit)) × (Int) × Unit) → Option R) (X2 : (Unit) → Option R) (X1 : ((Bool) × Unit) → Option R) (v0 : List (Int × ByteArray × Unit)) (v1 : List (Int × ByteArray × Unit)) (v5 : Int) : Option R :=
  bif decide (v5 < nI (List.length v0)) then
    bif decide (0 ≤ v5) then
      bif decide (v5 < nI (List.length v0)) then
        bif decide (0 ≤ v5) then
          bif decide (v5 < nI (List.length v1)) then
            Option.bind
              (Option.bind
                (m_laws_eqWrite ((List.getD v0 (Int.toNat v5) (0, ByteArray.mk #[], ())).fst, (List.getD v0 (Int.toNat v5) (0, ByteArray.mk #[], ())).snd.fst, ())
                  ((List.getD v1 (Int.toNat v5) (0, ByteArray.mk #[], ())).fst, (List.getD v1 (Int.toNat v5) (0, ByteArray.mk #[], ())).snd.fst, ()))
                fun val => some ((val, ()), ()))
              fun val => bif !val.fst.fst then X1 (false, ()) else NX (v0, v1, IntKind.wrap IntKind.i64 (v5 + 1), ())
          else none
        else none
      else none
    else none
  else X2 PUnit.unit
def lo_laws_eqWriteS_5 : Nat → (List (Int × ByteArray × Unit)) → (List (Int × ByteArray × Unit)) → (Int) →  Option ((Unit) ⊕ ((Bool) × Unit))
  | 0, _, _, _ => none
  | m + 1, v0, v1, v5 => tr_laws_eqWriteS_5  (fun d => lo_laws_eqWriteS_5 m d.1 d.2.1 d.2.2.1) (fun d => some (.inl (d))) (fun d => some (.inr (d))) v0 v1 v5
theorem na_laws_eqWriteS_5 {R S : Type}  (NX : ((List (Int × ByteArray × Unit)) × (List (Int × ByteArray × Unit)) × (Int) × Unit) → Option R) (X2 : (Unit) → Option R) (X1 : ((Bool) × Unit) → Option R) (v0 : List (Int × ByteArray × Unit)) (v1 : List (Int × ByteArray × Unit)) (v5 : Int) (f : R → Option S) : tr_laws_eqWriteS_5  (fun d => (NX d).bind f) (fun d => (X2 d).bind f) (fun d => (X1 d).bind f) v0 v1 v5 = (tr_laws_eqWriteS_5  NX X2 X1 v0 v1 v5).bind f := by
  unfold tr_laws_eqWriteS_5
  simp only [cond_bind, ite_bind, onSum_bind, Option.bind_assoc, Option.bind_none, Option.bind_some]
def de_laws_eqWriteS (a0 : List (Int × ByteArray × Unit)) (a1 : List (Int × ByteArray × Unit)) : Option ((((Bool) × Unit) × (Unit))) :=
  bif nI (List.length a0) != nI (List.length a1) then some ((false, ()), ())
  else Option.bind ((fun d => lo_laws_eqWriteS_5 (fu_laws_eqWriteS_5 d.1 d.2.1 d.2.2.1) d.1 d.2.1 d.2.2.1) (a0, a1, 0, ())) fun val => onSum (fun val => some ((true, ()), ())) (fun val => some ((val.fst, ()), ())) val
theorem eq_laws_eqWriteS (a0 : List (Int × ByteArray × Unit)) (a1 : List (Int × ByteArray × Unit)) r (h : m_laws_eqWriteS a0 a1 = some r) : de_laws_eqWriteS a0 a1 = some ((r, ()), (())) := by
  obtain ⟨hc, hd, rfl⟩ := eqM_some (t := .sl (.pair (.int .i64) (.pair .str .unit))) h
  obtain ⟨hlx0, hx⟩ := fineB_sl hc
  obtain ⟨hly0, hy⟩ := fineB_sl hd
  have hlx : a0.length < 1152921504606846976 := hlx0
  have hly : a1.length < 1152921504606846976 := hly0
  clear hlx0 hly0 hc hd h
  · unfold de_laws_eqWriteS
    by_cases hl : a1.length = a0.length
    · have c1 : (nI a0.length != nI a1.length) = false := by simp [nI, hl]
      have hL := eq_loop (xs := a0) (ys := a1) (0, (ByteArray.mk #[]), ()) (fun x y : Int × ByteArray × Unit => eqB (.pair (.int .i64) (.pair .str .unit)) x y) (g := fun m i => lo_laws_eqWriteS_5 m a0 a1 i) (ok := .inl ()) (bad := .inr (false, ())) hl (fun m i hi => by
        show lo_laws_eqWriteS_5 (m + 1) a0 a1 i = _
        simp only [lo_laws_eqWriteS_5, tr_laws_eqWriteS_5]
        rw [cLt hi, cLe0, cLt (show i < a1.length by omega), wI (by omega)]
        simp only [cond_true, Int.toNat_natCast]
        have f1 : fineB (.pair (.int .i64) (.pair .str .unit)) (List.getD (α := Int × ByteArray × Unit) a0 i (0, (ByteArray.mk #[]), ())) = true := hx _ (getD_mem (0, (ByteArray.mk #[]), ()) hi)
        have f2 : fineB (.pair (.int .i64) (.pair .str .unit)) (List.getD (α := Int × ByteArray × Unit) a1 i (0, (ByteArray.mk #[]), ())) = true := hy _ (getD_mem (0, (ByteArray.mk #[]), ()) (by omega))
        have hE : m_laws_eqWrite ((List.getD (α := Int × ByteArray × Unit) a0 i (0, (ByteArray.mk #[]), ())).fst, (List.getD (α := Int × ByteArray × Unit) a0 i (0, (ByteArray.mk #[]), ())).snd.fst, ()) ((List.getD (α := Int × ByteArray × Unit) a1 i (0, (ByteArray.mk #[]), ())).fst, (List.getD (α := Int × ByteArray × Unit) a1 i (0, (ByteArray.mk #[]), ())).snd.fst, ()) = some (eqB (.pair (.int .i64) (.pair .str .unit)) (List.getD (α := Int × ByteArray × Unit) a0 i (0, (ByteArray.mk #[]), ())) (List.getD (α := Int × ByteArray × Unit) a1 i (0, (ByteArray.mk #[]), ()))) := by
          exact eqM_is (t := (.pair (.int .i64) (.pair .str .unit))) (x := (List.getD (α := Int × ByteArray × Unit) a0 i (0, (ByteArray.mk #[]), ()))) (y := (List.getD (α := Int × ByteArray × Unit) a1 i (0, (ByteArray.mk #[]), ()))) f1 f2
        rw [hE]
        cases q : eqB (.pair (.int .i64) (.pair .str .unit)) (List.getD (α := Int × ByteArray × Unit) a0 i (0, (ByteArray.mk #[]), ())) (List.getD (α := Int × ByteArray × Unit) a1 i (0, (ByteArray.mk #[]), ())) <;> simp only [Option.bind_some, q] <;> rfl) (fun m => by
        show lo_laws_eqWriteS_5 (m + 1) a0 a1 a0.length = _
        simp only [lo_laws_eqWriteS_5, tr_laws_eqWriteS_5]
        rw [cLtF]
        rfl) (fu_laws_eqWriteS_5 a0 a1 0) 0 (by omega) (by simp [fu_laws_eqWriteS_5])
      rw [c1]
      have hL' : lo_laws_eqWriteS_5 (fu_laws_eqWriteS_5 a0 a1 0) a0 a1 0 = _ := hL
      show (lo_laws_eqWriteS_5 (fu_laws_eqWriteS_5 a0 a1 0) a0 a1 0).bind _ = some ((eqL (α := Int × ByteArray × Unit) (fun x y : Int × ByteArray × Unit => eqB (.pair (.int .i64) (.pair .str .unit)) x y) a0 a1, ()), ())
      rw [hL', List.drop_zero, List.drop_zero]
      cases eqL (α := Int × ByteArray × Unit) (fun x y : Int × ByteArray × Unit => eqB (.pair (.int .i64) (.pair .str .unit)) x y) a0 a1 <;> rfl
    · have c1 : (nI a0.length != nI a1.length) = true := by simp [nI]; omega
      rw [c1]
      show _ = some ((eqL (α := Int × ByteArray × Unit) (fun x y : Int × ByteArray × Unit => eqB (.pair (.int .i64) (.pair .str .unit)) x y) a0 a1, ()), ())
      rw [eqL_len (fun q => hl q.symm)]
      rfl
def ou_laws_eqWriteS_5 {R : Type} (k : Kt R) : ((Unit) ⊕ ((Bool) × Unit)) → Option R := (onSum (fun d => k (.exit 0) (((pa_laws_eqWriteS 5).2 2).st d) (((pa_laws_eqWriteS 5).2 2).nid)) (fun d => k .ret (((pa_laws_eqWriteS 5).2 1).st d) (((pa_laws_eqWriteS 5).2 1).nid)))
def L_laws_eqWriteS {R : Type} : Lt R pa_laws_eqWriteS := (addL (pat := pa_laws_eqWriteS) 5 (fun d k => (lo_laws_eqWriteS_5 (fu_laws_eqWriteS_5 d.1 d.2.1 d.2.2.1) d.1 d.2.1 d.2.2.1).bind (ou_laws_eqWriteS_5 k)) noL)
theorem rd_laws_eqWriteS_5 {R : Type} (nx : (pa_laws_eqWriteS 5).1.D → Kt R → Option R) (k : Kt R) (v0 : List (Int × ByteArray × Unit)) (v1 : List (Int × ByteArray × Unit)) (v5 : Int) : ev Try.prog ⟨ta_laws_eqWriteS, 0, 27, pa_laws_eqWriteS⟩ L_laws_eqWriteS co_laws_eqWriteS_5 ((pa_laws_eqWriteS 5).1.st (v0, v1, v5, ())) (pa_laws_eqWriteS 5).1.nid (roundK 0 (pa_laws_eqWriteS 5) nx k) = tr_laws_eqWriteS_5  (fun d => nx d k) (fun d => k (.exit 0) (((pa_laws_eqWriteS 5).2 2).st d) (((pa_laws_eqWriteS 5).2 2).nid)) (fun d => k .ret (((pa_laws_eqWriteS 5).2 1).st d) (((pa_laws_eqWriteS 5).2 1).nid)) v0 v1 v5 := by kernel_rfl
theorem lp_laws_eqWriteS_5 {R : Type} : ∀ (m : Nat) (d : (pa_laws_eqWriteS 5).1.D) (k : Kt R), loopN 0 (pa_laws_eqWriteS 5) (fun s nid k => ev Try.prog ⟨ta_laws_eqWriteS, 0, 27, pa_laws_eqWriteS⟩ L_laws_eqWriteS co_laws_eqWriteS_5 s nid k) m d k = (lo_laws_eqWriteS_5 m d.1 d.2.1 d.2.2.1).bind (ou_laws_eqWriteS_5 k)
  | 0, _, _ => rfl
  | m + 1, ⟨v0, v1, v5, ⟨⟩⟩, k => (rd_laws_eqWriteS_5 _ k v0 v1 v5).trans ((congrArg (fun F => tr_laws_eqWriteS_5  F (fun d => k (.exit 0) (((pa_laws_eqWriteS 5).2 2).st d) (((pa_laws_eqWriteS 5).2 2).nid)) (fun d => k .ret (((pa_laws_eqWriteS 5).2 1).st d) (((pa_laws_eqWriteS 5).2 1).nid)) v0 v1 v5) (funext fun d => lp_laws_eqWriteS_5 m d k)).trans (na_laws_eqWriteS_5 (f := ou_laws_eqWriteS_5 k)  (fun d => lo_laws_eqWriteS_5 m d.1 d.2.1 d.2.2.1) (fun d => some (.inl (d))) (fun d => some (.inr (d))) v0 v1 v5))
theorem en_laws_eqWriteS (a0 : List (Int × ByteArray × Unit)) (a1 : List (Int × ByteArray × Unit)) : evalF Try.prog ta_laws_eqWriteS pa_laws_eqWriteS sg_laws_eqWriteS Try.f78 L_laws_eqWriteS (a0, a1, ()) = de_laws_eqWriteS a0 a1 := by kernel_rfl
theorem si_laws_eqWriteS : SigsOk Try.prog ta_laws_eqWriteS := SigsOk.of fun f sd h => by
  try dsimp only [Tb.of, ta_laws_eqWriteS] at h
  split at h
  · rename_i e; subst e; cases h; exact sn_laws_eqWrite
  cases h
theorem lk_laws_eqWriteS_5 {R : Type} : LoopOk Try.prog R 27 0 pa_laws_eqWriteS L_laws_eqWriteS co_laws_eqWriteS_5 :=
  loop_key (cfg := ⟨ta_laws_eqWriteS, 0, 27, pa_laws_eqWriteS⟩) (key := 5) (by kernel_rfl) (by kernel_rfl) si_laws_eqWriteS rfl rfl (fun d k r h => ⟨fu_laws_eqWriteS_5 d.1 d.2.1 d.2.2.1, (lp_laws_eqWriteS_5 _ d k).trans h⟩) (fun c hc => by rw [show loopsIn co_laws_eqWriteS_5 = [] from by kernel_rfl] at hc; cases hc)
theorem sn_laws_eqWriteS : Callable Try.prog 78 ∧ Sound Try.prog 78 sd_laws_eqWriteS.sg sd_laws_eqWriteS.den :=
  fn_loops (pat := pa_laws_eqWriteS) L_laws_eqWriteS (by kernel_rfl) si_laws_eqWriteS Try.func78 (by kernel_rfl) (by kernel_rfl) (fun c hc => by rw [show loopsIn (bodyOf Try.f78) = [co_laws_eqWriteS_5] from by kernel_rfl] at hc; simp only [List.mem_cons, List.not_mem_nil, or_false] at hc; rcases hc with rfl <;> first | exact lk_laws_eqWriteS_5) fun x r h => by
    obtain ⟨a0, a1, ⟨⟩⟩ := x; obtain ⟨y, h1, h2⟩ := Option.bind_eq_some_iff.1 (show (m_laws_eqWriteS a0 a1).bind (fun r => some ((r, ()), (()))) = some r from h); cases h2; exact (en_laws_eqWriteS a0 a1).trans (eq_laws_eqWriteS a0 a1 _ h1)
def m_laws_eqDisk (a b : (List ByteArray) × (List (Int × ByteArray × Unit)) × Unit) : Option Bool := eqM (.pair (.sl .str) (.pair (.sl (.pair (.int .i64) (.pair .str .unit))) .unit)) a b
def sg_laws_eqDisk : Sig := ⟨[.rd (.pair (.sl .str) (.pair (.sl (.pair (.int .i64) (.pair .str .unit))) .unit)), .rd (.pair (.sl .str) (.pair (.sl (.pair (.int .i64) (.pair .str .unit))) .unit))], [some 2, some 2], [.rd .bool], [none]⟩
def sd_laws_eqDisk : SD := ⟨sg_laws_eqDisk, fun x => (m_laws_eqDisk x.1 x.2.1).bind fun r => some ((r, ()), (()))⟩
def ta_laws_eqDisk : Tb := Tb.of fun f => if f = 77 then some sd_laws_eqStringS else if f = 78 then some sd_laws_eqWriteS else none
def pa_laws_eqDisk : Nat → Pat × (Nat → Pat) := fun k => (⟨[], [], []⟩, fun _ => ⟨[], [], []⟩)
def de_laws_eqDisk (a0 : (List ByteArray) × (List (Int × ByteArray × Unit)) × Unit) (a1 : (List ByteArray) × (List (Int × ByteArray × Unit)) × Unit) : Option ((((Bool) × Unit) × (Unit))) :=
  Option.bind (Option.bind (m_laws_eqStringS a0.fst a1.fst) fun val => some ((val, ()), ())) fun val =>
    bif !val.fst.fst then some ((false, ()), ())
    else Option.bind (Option.bind (m_laws_eqWriteS a0.snd.fst a1.snd.fst) fun val => some ((val, ()), ())) fun val => bif !val.fst.fst then some ((false, ()), ()) else some ((true, ()), ())
theorem eq_laws_eqDisk (a0 : (List ByteArray) × (List (Int × ByteArray × Unit)) × Unit) (a1 : (List ByteArray) × (List (Int × ByteArray × Unit)) × Unit) r (h : m_laws_eqDisk a0 a1 = some r) : de_laws_eqDisk a0 a1 = some ((r, ()), (())) := by
  obtain ⟨hc, hd, rfl⟩ := eqM_some (t := (.pair (.sl .str) (.pair (.sl (.pair (.int .i64) (.pair .str .unit))) .unit))) h
  obtain ⟨hc0, hc1, _⟩ : fineB (.sl .str) a0.1 = true ∧ fineB (.sl (.pair (.int .i64) (.pair .str .unit))) a0.2.1 = true ∧ True := by
    have s := hc
    obtain ⟨h0, s⟩ := fineB_pair s
    obtain ⟨h1, s⟩ := fineB_pair s
    exact ⟨h0, h1, trivial⟩
  obtain ⟨hd0, hd1, _⟩ : fineB (.sl .str) a1.1 = true ∧ fineB (.sl (.pair (.int .i64) (.pair .str .unit))) a1.2.1 = true ∧ True := by
    have s := hd
    obtain ⟨h0, s⟩ := fineB_pair s
    obtain ⟨h1, s⟩ := fineB_pair s
    exact ⟨h0, h1, trivial⟩
  unfold de_laws_eqDisk
  have e0 : m_laws_eqStringS a0.1 a1.1 = some (eqB (.sl .str) a0.1 a1.1) := eqM_is (t := (.sl .str)) hc0 hd0
  have e1 : m_laws_eqWriteS a0.2.1 a1.2.1 = some (eqB (.sl (.pair (.int .i64) (.pair .str .unit))) a0.2.1 a1.2.1) := eqM_is (t := (.sl (.pair (.int .i64) (.pair .str .unit)))) hc1 hd1
  simp only [e0, e1, Option.bind_some]
  show _ = some (((eqB (.sl .str) a0.1 a1.1 && (eqB (.sl (.pair (.int .i64) (.pair .str .unit))) a0.2.1 a1.2.1 && true)), ()), ())
  generalize eqB (.sl .str) a0.1 a1.1 = p0
  generalize eqB (.sl (.pair (.int .i64) (.pair .str .unit))) a0.2.1 a1.2.1 = p1
  cases p0 <;> cases p1 <;> rfl
theorem en_laws_eqDisk (a0 : (List ByteArray) × (List (Int × ByteArray × Unit)) × Unit) (a1 : (List ByteArray) × (List (Int × ByteArray × Unit)) × Unit) : evalF Try.prog ta_laws_eqDisk pa_laws_eqDisk sg_laws_eqDisk Try.f27 noL (a0, a1, ()) = de_laws_eqDisk a0 a1 := by kernel_rfl
theorem si_laws_eqDisk : SigsOk Try.prog ta_laws_eqDisk := SigsOk.of fun f sd h => by
  try dsimp only [Tb.of, ta_laws_eqDisk] at h
  split at h
  · rename_i e; subst e; cases h; exact sn_laws_eqStringS
  split at h
  · rename_i e; subst e; cases h; exact sn_laws_eqWriteS
  cases h
theorem sn_laws_eqDisk : Callable Try.prog 27 ∧ Sound Try.prog 27 sd_laws_eqDisk.sg sd_laws_eqDisk.den :=
  fn_plain (pat := pa_laws_eqDisk) (by kernel_rfl) si_laws_eqDisk Try.func27 (by kernel_rfl) (by kernel_rfl) (by kernel_rfl) fun x r h => by
    obtain ⟨a0, a1, ⟨⟩⟩ := x; obtain ⟨y, h1, h2⟩ := Option.bind_eq_some_iff.1 (show (m_laws_eqDisk a0 a1).bind (fun r => some ((r, ()), (()))) = some r from h); cases h2; exact (en_laws_eqDisk a0 a1).trans (eq_laws_eqDisk a0 a1 _ h1)
def m_spec_l2Zeros : ByteArray := zS
def sg_spec_l2Zeros : Sig := ⟨[], [], [.rd .str], [none]⟩
def sd_spec_l2Zeros : SD := ⟨sg_spec_l2Zeros, fun x => some (((m_spec_l2Zeros), ()), (()))⟩
def ta_spec_l2Zeros : Tb := Tb.of fun f => none
def pa_spec_l2Zeros : Nat → Pat × (Nat → Pat) := fun k => (⟨[], [], []⟩, fun _ => ⟨[], [], []⟩)
def de_spec_l2Zeros  : Option ((((ByteArray) × Unit) × (Unit))) :=
  some ((strOfNums (List.replicate (Int.toNat 64) 0), ()), ())
theorem eq_spec_l2Zeros  : de_spec_l2Zeros  = some ((m_spec_l2Zeros, ()), (())) := rfl
theorem en_spec_l2Zeros  : evalF Try.prog ta_spec_l2Zeros pa_spec_l2Zeros sg_spec_l2Zeros Try.f103 noL (()) = de_spec_l2Zeros  := by kernel_rfl
theorem si_spec_l2Zeros : SigsOk Try.prog ta_spec_l2Zeros := SigsOk.of fun f sd h => by
  try dsimp only [Tb.of, ta_spec_l2Zeros] at h
  cases h
theorem sn_spec_l2Zeros : Callable Try.prog 103 ∧ Sound Try.prog 103 sd_spec_l2Zeros.sg sd_spec_l2Zeros.den :=
  fn_plain (pat := pa_spec_l2Zeros) (by kernel_rfl) si_spec_l2Zeros Try.func103 (by kernel_rfl) (by kernel_rfl) (by kernel_rfl) fun x r h => by
    obtain ⟨⟩ := x; rw [← h]; exact (en_spec_l2Zeros ).trans (eq_spec_l2Zeros )
def m_spec_NewDisk (n : Int) : Dk := newDisk n
def sg_spec_NewDisk : Sig := ⟨[.rd (.int .i64)], [none], [.own 9 .str, .own 102 (.pair (.int .i64) (.pair .str .unit))], [some 2]⟩
def sd_spec_NewDisk : SD := ⟨sg_spec_NewDisk, fun x => some (((m_spec_NewDisk x.1).1, (m_spec_NewDisk x.1).2.1, ()), (()))⟩
def ta_spec_NewDisk : Tb := Tb.of fun f => if f = 103 then some sd_spec_l2Zeros else none
def pa_spec_NewDisk : Nat → Pat × (Nat → Pat) := fun k => if k = 6 then (⟨[.boxRow 2 0 9 .str, .boxRow 2 1 102 (.pair (.int .i64) (.pair .str .unit)), .boxRow 3 0 9 .str, .boxRow 3 1 102 (.pair (.int .i64) (.pair .str .unit))], [(0, .lf (.d (.int .i64))), (2, .lf (.ptr 0 0)), (3, .lf (.ptr 1 0)), (4, .lf (.d (.int .i64)))], [.box 44 [.row 2, .row 3], .box 44 [.row 4, .row 5], .row 9 .str, .row 102 (.pair (.int .i64) (.pair .str .unit)), .row 9 .str, .row 102 (.pair (.int .i64) (.pair .str .unit))]⟩, fun e => if e = 2 then ⟨[.boxRow 2 0 9 .str, .boxRow 2 1 102 (.pair (.int .i64) (.pair .str .unit)), .boxRow 3 0 9 .str, .boxRow 3 1 102 (.pair (.int .i64) (.pair .str .unit))], [(2, .lf (.ptr 0 0)), (3, .lf (.ptr 1 0))], [.box 44 [.row 2, .row 3], .box 44 [.row 4, .row 5], .row 9 .str, .row 102 (.pair (.int .i64) (.pair .str .unit)), .row 9 .str, .row 102 (.pair (.int .i64) (.pair .str .unit))]⟩ else ⟨[], [], []⟩) else (⟨[], [], []⟩, fun _ => ⟨[], [], []⟩)
noncomputable def co_spec_NewDisk_6 : Code := (loopsIn (bodyOf Try.f54)).getD 0 .skip
def fu_spec_NewDisk_6 (v0 : Int) (v4 : Int) (r2 : List ByteArray) (r3 : List (Int × ByteArray × Unit)) (r4 : List ByteArray) (r5 : List (Int × ByteArray × Unit)) : Nat := (v0 - v4).toNat + 1
def tr_spec_NewDisk_6 {R : Type}  (NX : ((Int) × (Int) × (List ByteArray) × (List (Int × ByteArray × Unit)) × (List ByteArray) × (List (Int × ByteArray × Unit)) × Unit) → Option R) (X2 : ((List ByteArray) × (List (Int × ByteArray × Unit)) × (List ByteArray) × (List (Int × ByteArray × Unit)) × Unit) → Option R) (v0 : Int) (v4 : Int) (r2 : List ByteArray) (r3 : List (Int × ByteArray × Unit)) (r4 : List ByteArray) (r5 : List (Int × ByteArray × Unit)) : Option R :=
  bif decide (v4 < v0) then
    bif decide ((List.length r4 + List.length [m_spec_l2Zeros]) * 16 ≤ 140737488355328) then NX (v0, IntKind.wrap IntKind.i64 (v4 + 1), r2, r3, r4 ++ [m_spec_l2Zeros], r5, ()) else none
  else X2 (r2, r3, r4, r5, ())
def lo_spec_NewDisk_6 : Nat → (Int) → (Int) → (List ByteArray) → (List (Int × ByteArray × Unit)) → (List ByteArray) → (List (Int × ByteArray × Unit)) →  Option ((List ByteArray) × (List (Int × ByteArray × Unit)) × (List ByteArray) × (List (Int × ByteArray × Unit)) × Unit)
  | 0, _, _, _, _, _, _ => none
  | m + 1, v0, v4, r2, r3, r4, r5 => tr_spec_NewDisk_6  (fun d => lo_spec_NewDisk_6 m d.1 d.2.1 d.2.2.1 d.2.2.2.1 d.2.2.2.2.1 d.2.2.2.2.2.1) (fun d => some (d)) v0 v4 r2 r3 r4 r5
theorem na_spec_NewDisk_6 {R S : Type}  (NX : ((Int) × (Int) × (List ByteArray) × (List (Int × ByteArray × Unit)) × (List ByteArray) × (List (Int × ByteArray × Unit)) × Unit) → Option R) (X2 : ((List ByteArray) × (List (Int × ByteArray × Unit)) × (List ByteArray) × (List (Int × ByteArray × Unit)) × Unit) → Option R) (v0 : Int) (v4 : Int) (r2 : List ByteArray) (r3 : List (Int × ByteArray × Unit)) (r4 : List ByteArray) (r5 : List (Int × ByteArray × Unit)) (f : R → Option S) : tr_spec_NewDisk_6  (fun d => (NX d).bind f) (fun d => (X2 d).bind f) v0 v4 r2 r3 r4 r5 = (tr_spec_NewDisk_6  NX X2 v0 v4 r2 r3 r4 r5).bind f := by
  unfold tr_spec_NewDisk_6
  simp only [cond_bind, ite_bind, onSum_bind, Option.bind_assoc, Option.bind_none, Option.bind_some]
def de_spec_NewDisk (a0 : Int) : Option ((((List ByteArray) × (List (Int × ByteArray × Unit)) × Unit) × (Unit))) :=
  bif decide (a0 < 8) then some (([], [], ()), ())
  else bif decide (a0 > 200) then some (([], [], ()), ()) else Option.bind ((fun d => lo_spec_NewDisk_6 (fu_spec_NewDisk_6 d.1 d.2.1 d.2.2.1 d.2.2.2.1 d.2.2.2.2.1 d.2.2.2.2.2.1) d.1 d.2.1 d.2.2.1 d.2.2.2.1 d.2.2.2.2.1 d.2.2.2.2.2.1) (a0, 0, [], [], [], [], ())) fun val => some ((val.snd.snd.fst, val.snd.snd.snd.fst, ()), ())
theorem eq_spec_NewDisk (a0 : Int) : de_spec_NewDisk a0 = some (((m_spec_NewDisk a0).1, (m_spec_NewDisk a0).2.1, ()), (())) := by
  unfold de_spec_NewDisk m_spec_NewDisk newDisk inB
  by_cases k1 : 8 ≤ a0
  · have n1 : ¬ a0 < 8 := by omega
    rw [decide_eq_true k1, decide_eq_false n1]
    by_cases k2 : a0 ≤ 200
    · have n2 : ¬ a0 > 200 := by omega
      rw [decide_eq_true k2, decide_eq_false n2]
      obtain ⟨n, rfl⟩ : ∃ n : Nat, a0 = (n : Int) := ⟨a0.toNat, by omega⟩
      have hL := app_loop (n := n) (fun _ => zS) (g := fun m i r => lo_spec_NewDisk_6 m n i [] [] r []) (ok := fun r => ([], [], r, [], ())) (fun m i r hi hr => by
        show lo_spec_NewDisk_6 (m + 1) n i [] [] r [] = _
        simp only [lo_spec_NewDisk_6, tr_spec_NewDisk_6]
        have c1 : (i : Int) < (n : Int) := by omega
        have c2 : (List.length r + List.length [m_spec_l2Zeros]) * 16 ≤ 140737488355328 := by simp; omega
        rw [decide_eq_true c1, wI (show i < 4611686018427387904 by omega), decide_eq_true c2]
        rfl) (fun m r => by
        show lo_spec_NewDisk_6 (m + 1) n n [] [] r [] = _
        simp only [lo_spec_NewDisk_6, tr_spec_NewDisk_6]
        have c1 : ¬ (n : Int) < (n : Int) := by omega
        rw [decide_eq_false c1]
        rfl) (fu_spec_NewDisk_6 n 0 [] [] [] []) 0 [] (by omega) (by simp [fu_spec_NewDisk_6]) rfl
      have hL' : lo_spec_NewDisk_6 (fu_spec_NewDisk_6 n 0 [] [] [] []) n 0 [] [] [] [] = _ := hL
      show (lo_spec_NewDisk_6 (fu_spec_NewDisk_6 n 0 [] [] [] []) n 0 [] [] [] []).bind _ = _
      rw [hL', range_const, Nat.sub_zero]
      rfl
    · have n2 : a0 > 200 := by omega
      rw [decide_eq_false k2, decide_eq_true n2]
      rfl
  · have n1 : a0 < 8 := by omega
    rw [decide_eq_false k1, decide_eq_true n1]
    rfl
def ou_spec_NewDisk_6 {R : Type} (k : Kt R) : ((List ByteArray) × (List (Int × ByteArray × Unit)) × (List ByteArray) × (List (Int × ByteArray × Unit)) × Unit) → Option R := (fun d => k (.exit 0) (((pa_spec_NewDisk 6).2 2).st d) (((pa_spec_NewDisk 6).2 2).nid))
def L_spec_NewDisk {R : Type} : Lt R pa_spec_NewDisk := (addL (pat := pa_spec_NewDisk) 6 (fun d k => (lo_spec_NewDisk_6 (fu_spec_NewDisk_6 d.1 d.2.1 d.2.2.1 d.2.2.2.1 d.2.2.2.2.1 d.2.2.2.2.2.1) d.1 d.2.1 d.2.2.1 d.2.2.2.1 d.2.2.2.2.1 d.2.2.2.2.2.1).bind (ou_spec_NewDisk_6 k)) noL)
theorem rd_spec_NewDisk_6 {R : Type} (nx : (pa_spec_NewDisk 6).1.D → Kt R → Option R) (k : Kt R) (v0 : Int) (v4 : Int) (r2 : List ByteArray) (r3 : List (Int × ByteArray × Unit)) (r4 : List ByteArray) (r5 : List (Int × ByteArray × Unit)) : ev Try.prog ⟨ta_spec_NewDisk, 0, 25, pa_spec_NewDisk⟩ L_spec_NewDisk co_spec_NewDisk_6 ((pa_spec_NewDisk 6).1.st (v0, v4, r2, r3, r4, r5, ())) (pa_spec_NewDisk 6).1.nid (roundK 0 (pa_spec_NewDisk 6) nx k) = tr_spec_NewDisk_6  (fun d => nx d k) (fun d => k (.exit 0) (((pa_spec_NewDisk 6).2 2).st d) (((pa_spec_NewDisk 6).2 2).nid)) v0 v4 r2 r3 r4 r5 := by kernel_rfl
theorem lp_spec_NewDisk_6 {R : Type} : ∀ (m : Nat) (d : (pa_spec_NewDisk 6).1.D) (k : Kt R), loopN 0 (pa_spec_NewDisk 6) (fun s nid k => ev Try.prog ⟨ta_spec_NewDisk, 0, 25, pa_spec_NewDisk⟩ L_spec_NewDisk co_spec_NewDisk_6 s nid k) m d k = (lo_spec_NewDisk_6 m d.1 d.2.1 d.2.2.1 d.2.2.2.1 d.2.2.2.2.1 d.2.2.2.2.2.1).bind (ou_spec_NewDisk_6 k)
  | 0, _, _ => rfl
  | m + 1, ⟨v0, v4, r2, r3, r4, r5, ⟨⟩⟩, k => (rd_spec_NewDisk_6 _ k v0 v4 r2 r3 r4 r5).trans ((congrArg (fun F => tr_spec_NewDisk_6  F (fun d => k (.exit 0) (((pa_spec_NewDisk 6).2 2).st d) (((pa_spec_NewDisk 6).2 2).nid)) v0 v4 r2 r3 r4 r5) (funext fun d => lp_spec_NewDisk_6 m d k)).trans (na_spec_NewDisk_6 (f := ou_spec_NewDisk_6 k)  (fun d => lo_spec_NewDisk_6 m d.1 d.2.1 d.2.2.1 d.2.2.2.1 d.2.2.2.2.1 d.2.2.2.2.2.1) (fun d => some (d)) v0 v4 r2 r3 r4 r5))
theorem en_spec_NewDisk (a0 : Int) : evalF Try.prog ta_spec_NewDisk pa_spec_NewDisk sg_spec_NewDisk Try.f54 L_spec_NewDisk (a0, ()) = de_spec_NewDisk a0 := by kernel_rfl
theorem si_spec_NewDisk : SigsOk Try.prog ta_spec_NewDisk := SigsOk.of fun f sd h => by
  try dsimp only [Tb.of, ta_spec_NewDisk] at h
  split at h
  · rename_i e; subst e; cases h; exact sn_spec_l2Zeros
  cases h
theorem lk_spec_NewDisk_6 {R : Type} : LoopOk Try.prog R 25 0 pa_spec_NewDisk L_spec_NewDisk co_spec_NewDisk_6 :=
  loop_key (cfg := ⟨ta_spec_NewDisk, 0, 25, pa_spec_NewDisk⟩) (key := 6) (by kernel_rfl) (by kernel_rfl) si_spec_NewDisk rfl rfl (fun d k r h => ⟨fu_spec_NewDisk_6 d.1 d.2.1 d.2.2.1 d.2.2.2.1 d.2.2.2.2.1 d.2.2.2.2.2.1, (lp_spec_NewDisk_6 _ d k).trans h⟩) (fun c hc => by rw [show loopsIn co_spec_NewDisk_6 = [] from by kernel_rfl] at hc; cases hc)
theorem sn_spec_NewDisk : Callable Try.prog 54 ∧ Sound Try.prog 54 sd_spec_NewDisk.sg sd_spec_NewDisk.den :=
  fn_loops (pat := pa_spec_NewDisk) L_spec_NewDisk (by kernel_rfl) si_spec_NewDisk Try.func54 (by kernel_rfl) (by kernel_rfl) (fun c hc => by rw [show loopsIn (bodyOf Try.f54) = [co_spec_NewDisk_6] from by kernel_rfl] at hc; simp only [List.mem_cons, List.not_mem_nil, or_false] at hc; rcases hc with rfl <;> first | exact lk_spec_NewDisk_6) fun x r h => by
    obtain ⟨a0, ⟨⟩⟩ := x; rw [← h]; exact (en_spec_NewDisk a0).trans (eq_spec_NewDisk a0)
def m_impl_in (v lo hi : Int) : Bool := inB v lo hi
def sg_impl_in : Sig := ⟨[.rd (.int .i64), .rd (.int .i64), .rd (.int .i64)], [none, none, none], [.rd .bool], [none]⟩
def sd_impl_in : SD := ⟨sg_impl_in, fun x => some (((m_impl_in x.1 x.2.1 x.2.2.1), ()), (()))⟩
def ta_impl_in : Tb := Tb.of fun f => none
def pa_impl_in : Nat → Pat × (Nat → Pat) := fun k => (⟨[], [], []⟩, fun _ => ⟨[], [], []⟩)
def de_impl_in (a0 : Int) (a1 : Int) (a2 : Int) : Option ((((Bool) × Unit) × (Unit))) :=
  bif decide (a0 ≥ a1) then some ((decide (a0 ≤ a2), ()), ()) else some ((false, ()), ())
theorem eq_impl_in (a0 a1 a2 : Int) : de_impl_in a0 a1 a2 = some ((m_impl_in a0 a1 a2, ()), ()) := by
  unfold de_impl_in m_impl_in inB
  by_cases h : a0 ≥ a1
  · have : decide (a1 ≤ a0) = true := by simpa using h
    simp [h, this]
  · have : decide (a1 ≤ a0) = false := by simpa using h
    simp [h, this]
theorem en_impl_in (a0 : Int) (a1 : Int) (a2 : Int) : evalF Try.prog ta_impl_in pa_impl_in sg_impl_in Try.f76 noL (a0, a1, a2, ()) = de_impl_in a0 a1 a2 := by kernel_rfl
theorem si_impl_in : SigsOk Try.prog ta_impl_in := SigsOk.of fun f sd h => by
  try dsimp only [Tb.of, ta_impl_in] at h
  cases h
theorem sn_impl_in : Callable Try.prog 76 ∧ Sound Try.prog 76 sd_impl_in.sg sd_impl_in.den :=
  fn_plain (pat := pa_impl_in) (by kernel_rfl) si_impl_in Try.func76 (by kernel_rfl) (by kernel_rfl) (by kernel_rfl) fun x r h => by
    obtain ⟨a0, a1, a2, ⟨⟩⟩ := x; rw [← h]; exact (en_impl_in a0 a1 a2).trans (eq_impl_in a0 a1 a2)
def sg_strings_Repeat : Sig := ⟨[.rd .str, .rd (.int .i64)], [none, none], [.rd .str], [none]⟩
def sd_strings_Repeat : SD := ⟨sg_strings_Repeat, fun x => (repStr x.1 x.2.1).bind fun r => some ((r, ()), ())⟩
theorem sn_strings_Repeat : Callable Try.prog 98 ∧ Sound Try.prog 98 sd_strings_Repeat.sg sd_strings_Repeat.den := ⟨⟨_, Try.func98, by kernel_rfl, by kernel_rfl⟩, rep_seat⟩
def m_impl_NewDisk (n : Int) : Dk := newDisk n
def sg_impl_NewDisk : Sig := ⟨[.rd (.int .i64)], [none], [.own 9 .str, .own 102 (.pair (.int .i64) (.pair .str .unit))], [some 2]⟩
def sd_impl_NewDisk : SD := ⟨sg_impl_NewDisk, fun x => some (((m_impl_NewDisk x.1).1, (m_impl_NewDisk x.1).2.1, ()), (()))⟩
def ta_impl_NewDisk : Tb := Tb.of fun f => if f = 76 then some sd_impl_in else if f = 98 then some sd_strings_Repeat else none
def pa_impl_NewDisk : Nat → Pat × (Nat → Pat) := fun k => if k = 6 then (⟨[.boxRow 2 0 9 .str, .boxRow 2 1 102 (.pair (.int .i64) (.pair .str .unit)), .boxRow 3 0 9 .str, .boxRow 3 1 102 (.pair (.int .i64) (.pair .str .unit))], [(0, .lf (.d (.int .i64))), (2, .lf (.ptr 0 0)), (3, .lf (.ptr 1 0)), (4, .lf (.d (.int .i64)))], [.box 44 [.row 2, .row 3], .box 44 [.row 4, .row 5], .row 9 .str, .row 102 (.pair (.int .i64) (.pair .str .unit)), .row 9 .str, .row 102 (.pair (.int .i64) (.pair .str .unit))]⟩, fun e => if e = 2 then ⟨[.boxRow 2 0 9 .str, .boxRow 2 1 102 (.pair (.int .i64) (.pair .str .unit)), .boxRow 3 0 9 .str, .boxRow 3 1 102 (.pair (.int .i64) (.pair .str .unit))], [(2, .lf (.ptr 0 0)), (3, .lf (.ptr 1 0))], [.box 44 [.row 2, .row 3], .box 44 [.row 4, .row 5], .row 9 .str, .row 102 (.pair (.int .i64) (.pair .str .unit)), .row 9 .str, .row 102 (.pair (.int .i64) (.pair .str .unit))]⟩ else ⟨[], [], []⟩) else (⟨[], [], []⟩, fun _ => ⟨[], [], []⟩)
noncomputable def co_impl_NewDisk_6 : Code := (loopsIn (bodyOf Try.f55)).getD 0 .skip
def fu_impl_NewDisk_6 (v0 : Int) (v4 : Int) (r2 : List ByteArray) (r3 : List (Int × ByteArray × Unit)) (r4 : List ByteArray) (r5 : List (Int × ByteArray × Unit)) : Nat := (v0 - v4).toNat + 1
def tr_impl_NewDisk_6 {R : Type}  (NX : ((Int) × (Int) × (List ByteArray) × (List (Int × ByteArray × Unit)) × (List ByteArray) × (List (Int × ByteArray × Unit)) × Unit) → Option R) (X2 : ((List ByteArray) × (List (Int × ByteArray × Unit)) × (List ByteArray) × (List (Int × ByteArray × Unit)) × Unit) → Option R) (v0 : Int) (v4 : Int) (r2 : List ByteArray) (r3 : List (Int × ByteArray × Unit)) (r4 : List ByteArray) (r5 : List (Int × ByteArray × Unit)) : Option R :=
  bif decide (v4 < v0) then
    Option.bind (Option.bind (repStr (ByteArray.mk #[0]) 64) fun val => some ((val, ()), ())) fun val =>
      bif decide ((List.length r4 + List.length [val.fst.fst]) * 16 ≤ 140737488355328) then NX (v0, IntKind.wrap IntKind.i64 (v4 + 1), r2, r3, r4 ++ [val.fst.fst], r5, ()) else none
  else X2 (r2, r3, r4, r5, ())
def lo_impl_NewDisk_6 : Nat → (Int) → (Int) → (List ByteArray) → (List (Int × ByteArray × Unit)) → (List ByteArray) → (List (Int × ByteArray × Unit)) →  Option ((List ByteArray) × (List (Int × ByteArray × Unit)) × (List ByteArray) × (List (Int × ByteArray × Unit)) × Unit)
  | 0, _, _, _, _, _, _ => none
  | m + 1, v0, v4, r2, r3, r4, r5 => tr_impl_NewDisk_6  (fun d => lo_impl_NewDisk_6 m d.1 d.2.1 d.2.2.1 d.2.2.2.1 d.2.2.2.2.1 d.2.2.2.2.2.1) (fun d => some (d)) v0 v4 r2 r3 r4 r5
theorem na_impl_NewDisk_6 {R S : Type}  (NX : ((Int) × (Int) × (List ByteArray) × (List (Int × ByteArray × Unit)) × (List ByteArray) × (List (Int × ByteArray × Unit)) × Unit) → Option R) (X2 : ((List ByteArray) × (List (Int × ByteArray × Unit)) × (List ByteArray) × (List (Int × ByteArray × Unit)) × Unit) → Option R) (v0 : Int) (v4 : Int) (r2 : List ByteArray) (r3 : List (Int × ByteArray × Unit)) (r4 : List ByteArray) (r5 : List (Int × ByteArray × Unit)) (f : R → Option S) : tr_impl_NewDisk_6  (fun d => (NX d).bind f) (fun d => (X2 d).bind f) v0 v4 r2 r3 r4 r5 = (tr_impl_NewDisk_6  NX X2 v0 v4 r2 r3 r4 r5).bind f := by
  unfold tr_impl_NewDisk_6
  simp only [cond_bind, ite_bind, onSum_bind, Option.bind_assoc, Option.bind_none, Option.bind_some]
def de_impl_NewDisk (a0 : Int) : Option ((((List ByteArray) × (List (Int × ByteArray × Unit)) × Unit) × (Unit))) :=
  bif !m_impl_in a0 8 200 then some (([], [], ()), ()) else Option.bind ((fun d => lo_impl_NewDisk_6 (fu_impl_NewDisk_6 d.1 d.2.1 d.2.2.1 d.2.2.2.1 d.2.2.2.2.1 d.2.2.2.2.2.1) d.1 d.2.1 d.2.2.1 d.2.2.2.1 d.2.2.2.2.1 d.2.2.2.2.2.1) (a0, 0, [], [], [], [], ())) fun val => some ((val.snd.snd.fst, val.snd.snd.snd.fst, ()), ())
theorem rep64 : repStr (ByteArray.mk #[0]) 64 = some zS := by
  unfold repStr
  rw [if_pos (by decide)]
  decide +kernel
theorem eq_impl_NewDisk (a0 : Int) : de_impl_NewDisk a0 = some (((m_impl_NewDisk a0).1, (m_impl_NewDisk a0).2.1, ()), (())) := by
  unfold de_impl_NewDisk m_impl_NewDisk newDisk
  show (bif !inB a0 8 200 then _ else _) = _
  cases hin : inB a0 8 200 with
  | false => rfl
  | true =>
    have k1 := of_decide_eq_true (and2 hin).1
    have k2 := of_decide_eq_true (and2 hin).2
    obtain ⟨n, rfl⟩ : ∃ n : Nat, a0 = (n : Int) := ⟨a0.toNat, by omega⟩
    have hL := app_loop (n := n) (fun _ => zS) (g := fun m i r => lo_impl_NewDisk_6 m n i [] [] r []) (ok := fun r => ([], [], r, [], ())) (fun m i r hi hr => by
      show lo_impl_NewDisk_6 (m + 1) n i [] [] r [] = _
      simp only [lo_impl_NewDisk_6, tr_impl_NewDisk_6]
      have c1 : (i : Int) < (n : Int) := by omega
      have c2 : (List.length r + List.length [zS]) * 16 ≤ 140737488355328 := by simp; omega
      rw [decide_eq_true c1, rep64, wI (show i < 4611686018427387904 by omega)]
      simp only [Option.bind_some, cond_true]
      rw [decide_eq_true c2]
      rfl) (fun m r => by
      show lo_impl_NewDisk_6 (m + 1) n n [] [] r [] = _
      simp only [lo_impl_NewDisk_6, tr_impl_NewDisk_6]
      have c1 : ¬ (n : Int) < (n : Int) := by omega
      rw [decide_eq_false c1]
      rfl) (fu_impl_NewDisk_6 n 0 [] [] [] []) 0 [] (by omega) (by simp [fu_impl_NewDisk_6]) rfl
    have hL' : lo_impl_NewDisk_6 (fu_impl_NewDisk_6 n 0 [] [] [] []) n 0 [] [] [] [] = _ := hL
    show (lo_impl_NewDisk_6 (fu_impl_NewDisk_6 n 0 [] [] [] []) n 0 [] [] [] []).bind _ = _
    rw [hL', range_const, Nat.sub_zero]
    rfl
def ou_impl_NewDisk_6 {R : Type} (k : Kt R) : ((List ByteArray) × (List (Int × ByteArray × Unit)) × (List ByteArray) × (List (Int × ByteArray × Unit)) × Unit) → Option R := (fun d => k (.exit 0) (((pa_impl_NewDisk 6).2 2).st d) (((pa_impl_NewDisk 6).2 2).nid))
def L_impl_NewDisk {R : Type} : Lt R pa_impl_NewDisk := (addL (pat := pa_impl_NewDisk) 6 (fun d k => (lo_impl_NewDisk_6 (fu_impl_NewDisk_6 d.1 d.2.1 d.2.2.1 d.2.2.2.1 d.2.2.2.2.1 d.2.2.2.2.2.1) d.1 d.2.1 d.2.2.1 d.2.2.2.1 d.2.2.2.2.1 d.2.2.2.2.2.1).bind (ou_impl_NewDisk_6 k)) noL)
theorem rd_impl_NewDisk_6 {R : Type} (nx : (pa_impl_NewDisk 6).1.D → Kt R → Option R) (k : Kt R) (v0 : Int) (v4 : Int) (r2 : List ByteArray) (r3 : List (Int × ByteArray × Unit)) (r4 : List ByteArray) (r5 : List (Int × ByteArray × Unit)) : ev Try.prog ⟨ta_impl_NewDisk, 0, 22, pa_impl_NewDisk⟩ L_impl_NewDisk co_impl_NewDisk_6 ((pa_impl_NewDisk 6).1.st (v0, v4, r2, r3, r4, r5, ())) (pa_impl_NewDisk 6).1.nid (roundK 0 (pa_impl_NewDisk 6) nx k) = tr_impl_NewDisk_6  (fun d => nx d k) (fun d => k (.exit 0) (((pa_impl_NewDisk 6).2 2).st d) (((pa_impl_NewDisk 6).2 2).nid)) v0 v4 r2 r3 r4 r5 := by kernel_rfl
theorem lp_impl_NewDisk_6 {R : Type} : ∀ (m : Nat) (d : (pa_impl_NewDisk 6).1.D) (k : Kt R), loopN 0 (pa_impl_NewDisk 6) (fun s nid k => ev Try.prog ⟨ta_impl_NewDisk, 0, 22, pa_impl_NewDisk⟩ L_impl_NewDisk co_impl_NewDisk_6 s nid k) m d k = (lo_impl_NewDisk_6 m d.1 d.2.1 d.2.2.1 d.2.2.2.1 d.2.2.2.2.1 d.2.2.2.2.2.1).bind (ou_impl_NewDisk_6 k)
  | 0, _, _ => rfl
  | m + 1, ⟨v0, v4, r2, r3, r4, r5, ⟨⟩⟩, k => (rd_impl_NewDisk_6 _ k v0 v4 r2 r3 r4 r5).trans ((congrArg (fun F => tr_impl_NewDisk_6  F (fun d => k (.exit 0) (((pa_impl_NewDisk 6).2 2).st d) (((pa_impl_NewDisk 6).2 2).nid)) v0 v4 r2 r3 r4 r5) (funext fun d => lp_impl_NewDisk_6 m d k)).trans (na_impl_NewDisk_6 (f := ou_impl_NewDisk_6 k)  (fun d => lo_impl_NewDisk_6 m d.1 d.2.1 d.2.2.1 d.2.2.2.1 d.2.2.2.2.1 d.2.2.2.2.2.1) (fun d => some (d)) v0 v4 r2 r3 r4 r5))
theorem en_impl_NewDisk (a0 : Int) : evalF Try.prog ta_impl_NewDisk pa_impl_NewDisk sg_impl_NewDisk Try.f55 L_impl_NewDisk (a0, ()) = de_impl_NewDisk a0 := by kernel_rfl
theorem si_impl_NewDisk : SigsOk Try.prog ta_impl_NewDisk := SigsOk.of fun f sd h => by
  try dsimp only [Tb.of, ta_impl_NewDisk] at h
  split at h
  · rename_i e; subst e; cases h; exact sn_impl_in
  split at h
  · rename_i e; subst e; cases h; exact sn_strings_Repeat
  cases h
theorem lk_impl_NewDisk_6 {R : Type} : LoopOk Try.prog R 22 0 pa_impl_NewDisk L_impl_NewDisk co_impl_NewDisk_6 :=
  loop_key (cfg := ⟨ta_impl_NewDisk, 0, 22, pa_impl_NewDisk⟩) (key := 6) (by kernel_rfl) (by kernel_rfl) si_impl_NewDisk rfl rfl (fun d k r h => ⟨fu_impl_NewDisk_6 d.1 d.2.1 d.2.2.1 d.2.2.2.1 d.2.2.2.2.1 d.2.2.2.2.2.1, (lp_impl_NewDisk_6 _ d k).trans h⟩) (fun c hc => by rw [show loopsIn co_impl_NewDisk_6 = [] from by kernel_rfl] at hc; cases hc)
theorem sn_impl_NewDisk : Callable Try.prog 55 ∧ Sound Try.prog 55 sd_impl_NewDisk.sg sd_impl_NewDisk.den :=
  fn_loops (pat := pa_impl_NewDisk) L_impl_NewDisk (by kernel_rfl) si_impl_NewDisk Try.func55 (by kernel_rfl) (by kernel_rfl) (fun c hc => by rw [show loopsIn (bodyOf Try.f55) = [co_impl_NewDisk_6] from by kernel_rfl] at hc; simp only [List.mem_cons, List.not_mem_nil, or_false] at hc; rcases hc with rfl <;> first | exact lk_impl_NewDisk_6) fun x r h => by
    obtain ⟨a0, ⟨⟩⟩ := x; rw [← h]; exact (en_impl_NewDisk a0).trans (eq_impl_NewDisk a0)
def m_laws_markText (k : Int) : Option ByteArray := if k ≤ 36028797018963968 then some (mkT k) else none
def fu_laws_markText_5 (v0 : Int) (v3 : ByteArray) : Nat := 21
def sg_laws_markText : Sig := ⟨[.rd (.int .i64)], [none], [.rd .str], [none]⟩
def sd_laws_markText : SD := ⟨sg_laws_markText, fun x => (m_laws_markText x.1).bind fun r => some ((r, ()), (()))⟩
def ta_laws_markText : Tb := Tb.of fun f => none
def pa_laws_markText : Nat → Pat × (Nat → Pat) := fun k => if k = 5 then (⟨[], [(0, .lf (.d (.int .i64))), (3, .lf (.d .str))], []⟩, fun e => if e = 2 then ⟨[], [(3, .lf (.d .str))], []⟩ else ⟨[], [], []⟩) else (⟨[], [], []⟩, fun _ => ⟨[], [], []⟩)
noncomputable def co_laws_markText_5 : Code := (loopsIn (bodyOf Try.f89)).getD 0 .skip
def tr_laws_markText_5 {R : Type}  (NX : ((Int) × (ByteArray) × Unit) → Option R) (X2 : ((ByteArray) × Unit) → Option R) (v0 : Int) (v3 : ByteArray) : Option R :=
  bif decide (v0 > 0) then
    bif decide (ByteArray.size (strOfNums [IntKind.wrap IntKind.u8 (IntKind.wrap IntKind.i64 (48 + Int.tmod v0 10))]) + ByteArray.size v3 ≤ 9223372036854775807) then
      NX (IntKind.wrap IntKind.i64 (Int.tdiv v0 10), strOfNums [IntKind.wrap IntKind.u8 (IntKind.wrap IntKind.i64 (48 + Int.tmod v0 10))] ++ v3, ())
    else none
  else X2 (v3, ())
def lo_laws_markText_5 : Nat → (Int) → (ByteArray) →  Option ((ByteArray) × Unit)
  | 0, _, _ => none
  | m + 1, v0, v3 => tr_laws_markText_5  (fun d => lo_laws_markText_5 m d.1 d.2.1) (fun d => some (d)) v0 v3
theorem na_laws_markText_5 {R S : Type}  (NX : ((Int) × (ByteArray) × Unit) → Option R) (X2 : ((ByteArray) × Unit) → Option R) (v0 : Int) (v3 : ByteArray) (f : R → Option S) : tr_laws_markText_5  (fun d => (NX d).bind f) (fun d => (X2 d).bind f) v0 v3 = (tr_laws_markText_5  NX X2 v0 v3).bind f := by
  unfold tr_laws_markText_5
  simp only [cond_bind, ite_bind, onSum_bind, Option.bind_assoc, Option.bind_none, Option.bind_some]
def de_laws_markText (a0 : Int) : Option ((((ByteArray) × Unit) × (Unit))) :=
  bif decide (a0 ≤ 0) then some ((ByteArray.mk #[109, 48], ()), ())
  else
    Option.bind ((fun d => lo_laws_markText_5 (fu_laws_markText_5 d.1 d.2.1) d.1 d.2.1) (a0, ByteArray.mk #[], ())) fun val =>
      bif decide (ByteArray.size (ByteArray.mk #[109]) + ByteArray.size val.fst ≤ 9223372036854775807) then some ((ByteArray.mk #[109] ++ val.fst, ()), ()) else none
theorem digit_byte {k : Int} (h : 0 ≤ k) : IntKind.wrap .u8 (IntKind.wrap .i64 (48 + Int.tmod k 10)) = 48 + k % 10 := by
  rw [Int.tmod_eq_emod_of_nonneg h]
  have h1 : 0 ≤ k % 10 := Int.emod_nonneg _ (by omega)
  have h2 : k % 10 < 10 := Int.emod_lt_of_pos _ (by omega)
  have e1 : IntKind.wrap .i64 (48 + k % 10) = 48 + k % 10 := wrap_ok (by omega) (by omega)
  rw [e1]
  simp [IntKind.wrap, IntKind.bits, IntKind.signed]
  omega
theorem lo_laws_markText : ∀ (m : Nat) (k : Int) (out : ByteArray), 0 ≤ k → k ≤ 36028797018963968 → k < 10 ^ m → out.size + m ≤ 100 → lo_laws_markText_5 (m + 1) k out = some (digsGo m k out, ())
  | 0, k, out, h0, hb, h1, _ => by
    simp only [lo_laws_markText_5, tr_laws_markText_5]
    have : ¬ k > 0 := by simp at h1; omega
    rw [decide_eq_false this]
    rfl
  | m + 1, k, out, h0, hb, h1, h2 => by
    rw [lo_laws_markText_5]
    simp only [tr_laws_markText_5, digsGo]
    by_cases h : k > 0
    · have e : IntKind.wrap .i64 (Int.tdiv k 10) = k / 10 := by
        rw [Int.tdiv_eq_ediv_of_nonneg h0]
        exact wrap_ok (by omega) (by omega)
      have hs : ByteArray.size (strOfNums [48 + k % 10]) = 1 := strOfNums_size _
      have h3 : k / 10 < 10 ^ m := Int.ediv_lt_of_lt_mul (by omega) (by rw [Int.pow_succ] at h1; exact h1)
      have c : ByteArray.size (strOfNums [48 + k % 10]) + ByteArray.size out ≤ 9223372036854775807 := by rw [hs]; omega
      have ih := lo_laws_markText m (k / 10) (strOfNums [48 + k % 10] ++ out) (by omega) (by omega) h3 (by rw [ByteArray.size_append, hs]; omega)
      rw [digit_byte h0, decide_eq_true h, if_pos h, e, decide_eq_true c]
      exact ih
    · rw [decide_eq_false h, if_neg h]
      rfl
theorem digsGo_size : ∀ (m : Nat) (k : Int) (out : ByteArray), (digsGo m k out).size ≤ out.size + m
  | 0, k, out => Nat.le_refl _
  | m + 1, k, out => by
    simp only [digsGo]
    split
    · have := digsGo_size m (k / 10) (strOfNums [48 + k % 10] ++ out)
      rw [ByteArray.size_append, strOfNums_size] at this
      simp at this
      omega
    · omega
theorem eq_laws_markText (a0 : Int) r (h : m_laws_markText a0 = some r) : de_laws_markText a0 = some ((r, ()), (())) := by
  unfold m_laws_markText at h
  split at h
  · rename_i hc
    cases h
    unfold de_laws_markText mkT
    by_cases q : a0 ≤ 0
    · rw [decide_eq_true q, if_pos q]; rfl
    · rw [decide_eq_false q, if_neg q]
      have hL := lo_laws_markText 20 a0 ⟨#[]⟩ (by omega) hc (by omega) (by decide)
      have hL' : lo_laws_markText_5 (fu_laws_markText_5 a0 ⟨#[]⟩) a0 ⟨#[]⟩ = _ := hL
      show (lo_laws_markText_5 (fu_laws_markText_5 a0 ⟨#[]⟩) a0 ⟨#[]⟩).bind _ = _
      rw [hL']
      have := digsGo_size 20 a0 ⟨#[]⟩
      have h0 : ByteArray.size ⟨#[]⟩ = 0 := rfl
      have h1 : ByteArray.size ⟨#[109]⟩ = 1 := rfl
      have c : ByteArray.size ⟨#[109]⟩ + ByteArray.size (digsGo 20 a0 ⟨#[]⟩) ≤ 9223372036854775807 := by omega
      show (bif decide (ByteArray.size ⟨#[109]⟩ + ByteArray.size (digsGo 20 a0 ⟨#[]⟩) ≤ 9223372036854775807) then _ else _) = _
      rw [decide_eq_true c]
      rfl
  · cases h
def ou_laws_markText_5 {R : Type} (k : Kt R) : ((ByteArray) × Unit) → Option R := (fun d => k (.exit 0) (((pa_laws_markText 5).2 2).st d) (((pa_laws_markText 5).2 2).nid))
def L_laws_markText {R : Type} : Lt R pa_laws_markText := (addL (pat := pa_laws_markText) 5 (fun d k => (lo_laws_markText_5 (fu_laws_markText_5 d.1 d.2.1) d.1 d.2.1).bind (ou_laws_markText_5 k)) noL)
theorem rd_laws_markText_5 {R : Type} (nx : (pa_laws_markText 5).1.D → Kt R → Option R) (k : Kt R) (v0 : Int) (v3 : ByteArray) : ev Try.prog ⟨ta_laws_markText, 0, 20, pa_laws_markText⟩ L_laws_markText co_laws_markText_5 ((pa_laws_markText 5).1.st (v0, v3, ())) (pa_laws_markText 5).1.nid (roundK 0 (pa_laws_markText 5) nx k) = tr_laws_markText_5  (fun d => nx d k) (fun d => k (.exit 0) (((pa_laws_markText 5).2 2).st d) (((pa_laws_markText 5).2 2).nid)) v0 v3 := by kernel_rfl
theorem lp_laws_markText_5 {R : Type} : ∀ (m : Nat) (d : (pa_laws_markText 5).1.D) (k : Kt R), loopN 0 (pa_laws_markText 5) (fun s nid k => ev Try.prog ⟨ta_laws_markText, 0, 20, pa_laws_markText⟩ L_laws_markText co_laws_markText_5 s nid k) m d k = (lo_laws_markText_5 m d.1 d.2.1).bind (ou_laws_markText_5 k)
  | 0, _, _ => rfl
  | m + 1, ⟨v0, v3, ⟨⟩⟩, k => (rd_laws_markText_5 _ k v0 v3).trans ((congrArg (fun F => tr_laws_markText_5  F (fun d => k (.exit 0) (((pa_laws_markText 5).2 2).st d) (((pa_laws_markText 5).2 2).nid)) v0 v3) (funext fun d => lp_laws_markText_5 m d k)).trans (na_laws_markText_5 (f := ou_laws_markText_5 k)  (fun d => lo_laws_markText_5 m d.1 d.2.1) (fun d => some (d)) v0 v3))
theorem en_laws_markText (a0 : Int) : evalF Try.prog ta_laws_markText pa_laws_markText sg_laws_markText Try.f89 L_laws_markText (a0, ()) = de_laws_markText a0 := by kernel_rfl
theorem si_laws_markText : SigsOk Try.prog ta_laws_markText := SigsOk.of fun f sd h => by
  try dsimp only [Tb.of, ta_laws_markText] at h
  cases h
theorem lk_laws_markText_5 {R : Type} : LoopOk Try.prog R 20 0 pa_laws_markText L_laws_markText co_laws_markText_5 :=
  loop_key (cfg := ⟨ta_laws_markText, 0, 20, pa_laws_markText⟩) (key := 5) (by kernel_rfl) (by kernel_rfl) si_laws_markText rfl rfl (fun d k r h => ⟨fu_laws_markText_5 d.1 d.2.1, (lp_laws_markText_5 _ d k).trans h⟩) (fun c hc => by rw [show loopsIn co_laws_markText_5 = [] from by kernel_rfl] at hc; cases hc)
theorem sn_laws_markText : Callable Try.prog 89 ∧ Sound Try.prog 89 sd_laws_markText.sg sd_laws_markText.den :=
  fn_loops (pat := pa_laws_markText) L_laws_markText (by kernel_rfl) si_laws_markText Try.func89 (by kernel_rfl) (by kernel_rfl) (fun c hc => by rw [show loopsIn (bodyOf Try.f89) = [co_laws_markText_5] from by kernel_rfl] at hc; simp only [List.mem_cons, List.not_mem_nil, or_false] at hc; rcases hc with rfl <;> first | exact lk_laws_markText_5) fun x r h => by
    obtain ⟨a0, ⟨⟩⟩ := x; obtain ⟨y, h1, h2⟩ := Option.bind_eq_some_iff.1 (show (m_laws_markText a0).bind (fun r => some ((r, ()), (()))) = some r from h); cases h2; exact (en_laws_markText a0).trans (eq_laws_markText a0 _ h1)
def m_laws_markStringS (a : List ByteArray) (k : Int) : Option (Int × (List ByteArray)) := markM .str a k
def sg_laws_markStringS : Sig := ⟨[.mu 9 .str, .rd (.int .i64)], [none, none], [.rd (.int .i64)], [none]⟩
def sd_laws_markStringS : SD := ⟨sg_laws_markStringS, fun x => (m_laws_markStringS x.1 x.2.1).bind fun r => some ((r.1, ()), (r.2, ()))⟩
def ta_laws_markStringS : Tb := Tb.of fun f => if f = 89 then some sd_laws_markText else none
def pa_laws_markStringS : Nat → Pat × (Nat → Pat) := fun k => if k = 3 then (⟨[], [(0, .lf (.row 0)), (1, .lf (.d (.int .i64))), (5, .lf (.d (.int .i64)))], [.row 9 .str]⟩, fun e => if e = 2 then ⟨[], [(1, .lf (.d (.int .i64)))], [.row 9 .str]⟩ else ⟨[], [], []⟩) else (⟨[], [], []⟩, fun _ => ⟨[], [], []⟩)
noncomputable def co_laws_markStringS_3 : Code := (loopsIn (bodyOf Try.f104)).getD 0 .skip
def fu_laws_markStringS_3 (v1 : Int) (v5 : Int) (r0 : List ByteArray) : Nat := ((r0.length : Int) - v5).toNat + 1
def tr_laws_markStringS_3 {R : Type}  (NX : ((Int) × (Int) × (List ByteArray) × Unit) → Option R) (X2 : ((Int) × (List ByteArray) × Unit) → Option R) (v1 : Int) (v5 : Int) (r0 : List ByteArray) : Option R :=
  bif decide (v5 < nI (List.length r0)) then
    Option.bind (Option.bind (m_laws_markText v1) fun val => some ((val, ()), ())) fun val =>
      bif decide (0 ≤ v5) then
        bif decide (v5 < nI (List.length r0)) then
          bif decide (Int.toNat v5 < List.length r0) then NX (IntKind.wrap IntKind.i64 (v1 + 1), IntKind.wrap IntKind.i64 (v5 + 1), List.set r0 (Int.toNat v5) val.fst.fst, ()) else none
        else none
      else none
  else X2 (v1, r0, ())
def lo_laws_markStringS_3 : Nat → (Int) → (Int) → (List ByteArray) →  Option ((Int) × (List ByteArray) × Unit)
  | 0, _, _, _ => none
  | m + 1, v1, v5, r0 => tr_laws_markStringS_3  (fun d => lo_laws_markStringS_3 m d.1 d.2.1 d.2.2.1) (fun d => some (d)) v1 v5 r0
theorem na_laws_markStringS_3 {R S : Type}  (NX : ((Int) × (Int) × (List ByteArray) × Unit) → Option R) (X2 : ((Int) × (List ByteArray) × Unit) → Option R) (v1 : Int) (v5 : Int) (r0 : List ByteArray) (f : R → Option S) : tr_laws_markStringS_3  (fun d => (NX d).bind f) (fun d => (X2 d).bind f) v1 v5 r0 = (tr_laws_markStringS_3  NX X2 v1 v5 r0).bind f := by
  unfold tr_laws_markStringS_3
  simp only [cond_bind, ite_bind, onSum_bind, Option.bind_assoc, Option.bind_none, Option.bind_some]
def de_laws_markStringS (a0 : List ByteArray) (a1 : Int) : Option ((((Int) × Unit) × ((List ByteArray) × Unit))) :=
  Option.bind ((fun d => lo_laws_markStringS_3 (fu_laws_markStringS_3 d.1 d.2.1 d.2.2.1) d.1 d.2.1 d.2.2.1) (a1, 0, a0, ())) fun val => some ((val.fst, ()), val.snd.fst, ())
theorem eq_laws_markStringS (a0 : List ByteArray) (a1 : Int) r (h : m_laws_markStringS a0 a1 = some r) : de_laws_markStringS a0 a1 = some ((r.1, ()), (r.2, ())) := by
  obtain ⟨g0, g1, hl0, rfl⟩ := markM_some (t := .str) h
  have hl : a0.length ≤ 1125899906842624 := hl0
  have hEE : (fun k : Int => (show ByteArray from (mkE .str k).1)) = (fun k : Int => mkT (k)) := funext fun k => by
    show mkT (k) = mkT (k)
    try simp only [Int.add_assoc, Int.add_zero]
    try rfl
  show _ = some ((a1 + (a0.length : Int) * 1, ()), (gL (fun k : Int => (show ByteArray from (mkE .str k).1)) 1 a0.length a1, ()))
  rw [hEE]
  unfold de_laws_markStringS
  have hL := mark_loop (fun k : Int => mkT (k)) 1 (n := a0.length) (K := 36028797018963000) (g := fun m k i r => lo_laws_markStringS_3 m k i r) (ok := fun k r => (k, r, ())) (fun m i k r hi hr h1 hK => by
    show lo_laws_markStringS_3 (m + 1) k i r = _
    have hK1 : k + 1 ≤ 36028797018963000 := by
      have : (1 : Int) ≤ (a0.length - i : Nat) := by omega
      omega
    rw [show lo_laws_markStringS_3 (m + 1) k i r = lo_laws_markStringS_3 (m + 1) (k + 0) i r from by rw [Int.add_zero]]
    have k0 : k = k + 0 := (Int.add_zero k).symm
    have t0 : m_laws_markText (k + 0) = some (mkT (k + 0)) := if_pos (by omega)
    have w0 : IntKind.wrap IntKind.i64 (k + 0 + 1) = k + 1 := by rw [wrap_ok (by omega) (by omega)]; omega
    have hir : i < r.length := by omega
    simp only [lo_laws_markStringS_3, tr_laws_markStringS_3]
    simp only [t0,  Option.bind_some, w0,  List.length_set, List.set_set, cLt hir, cLe0, cLtN hir, wI (show i < 4611686018427387904 by omega), cond_true, Int.toNat_natCast, getD_set hir]
    first | rfl | (rw [Int.add_zero]; rfl) | (simp only [Int.add_zero]; rfl)) (fun m k r hr => by
    show lo_laws_markStringS_3 (m + 1) k a0.length r = _
    simp only [lo_laws_markStringS_3, tr_laws_markStringS_3, hr]
    rw [cLtF]
    rfl) (fu_laws_markStringS_3 a1 0 a0) 0 a1 a0 (by omega) (by simp [fu_laws_markStringS_3]) rfl g0 (by omega)
  have hL' : lo_laws_markStringS_3 (fu_laws_markStringS_3 a1 0 a0) a1 0 a0 = _ := hL
  show (lo_laws_markStringS_3 (fu_laws_markStringS_3 a1 0 a0) a1 0 a0).bind _ = _
  rw [hL']
  rfl
def ou_laws_markStringS_3 {R : Type} (k : Kt R) : ((Int) × (List ByteArray) × Unit) → Option R := (fun d => k (.exit 0) (((pa_laws_markStringS 3).2 2).st d) (((pa_laws_markStringS 3).2 2).nid))
def L_laws_markStringS {R : Type} : Lt R pa_laws_markStringS := (addL (pat := pa_laws_markStringS) 3 (fun d k => (lo_laws_markStringS_3 (fu_laws_markStringS_3 d.1 d.2.1 d.2.2.1) d.1 d.2.1 d.2.2.1).bind (ou_laws_markStringS_3 k)) noL)
theorem rd_laws_markStringS_3 {R : Type} (nx : (pa_laws_markStringS 3).1.D → Kt R → Option R) (k : Kt R) (v1 : Int) (v5 : Int) (r0 : List ByteArray) : ev Try.prog ⟨ta_laws_markStringS, 1, 20, pa_laws_markStringS⟩ L_laws_markStringS co_laws_markStringS_3 ((pa_laws_markStringS 3).1.st (v1, v5, r0, ())) (pa_laws_markStringS 3).1.nid (roundK 1 (pa_laws_markStringS 3) nx k) = tr_laws_markStringS_3  (fun d => nx d k) (fun d => k (.exit 0) (((pa_laws_markStringS 3).2 2).st d) (((pa_laws_markStringS 3).2 2).nid)) v1 v5 r0 := by kernel_rfl
theorem lp_laws_markStringS_3 {R : Type} : ∀ (m : Nat) (d : (pa_laws_markStringS 3).1.D) (k : Kt R), loopN 1 (pa_laws_markStringS 3) (fun s nid k => ev Try.prog ⟨ta_laws_markStringS, 1, 20, pa_laws_markStringS⟩ L_laws_markStringS co_laws_markStringS_3 s nid k) m d k = (lo_laws_markStringS_3 m d.1 d.2.1 d.2.2.1).bind (ou_laws_markStringS_3 k)
  | 0, _, _ => rfl
  | m + 1, ⟨v1, v5, r0, ⟨⟩⟩, k => (rd_laws_markStringS_3 _ k v1 v5 r0).trans ((congrArg (fun F => tr_laws_markStringS_3  F (fun d => k (.exit 0) (((pa_laws_markStringS 3).2 2).st d) (((pa_laws_markStringS 3).2 2).nid)) v1 v5 r0) (funext fun d => lp_laws_markStringS_3 m d k)).trans (na_laws_markStringS_3 (f := ou_laws_markStringS_3 k)  (fun d => lo_laws_markStringS_3 m d.1 d.2.1 d.2.2.1) (fun d => some (d)) v1 v5 r0))
theorem en_laws_markStringS (a0 : List ByteArray) (a1 : Int) : evalF Try.prog ta_laws_markStringS pa_laws_markStringS sg_laws_markStringS Try.f104 L_laws_markStringS (a0, a1, ()) = de_laws_markStringS a0 a1 := by kernel_rfl
theorem si_laws_markStringS : SigsOk Try.prog ta_laws_markStringS := SigsOk.of fun f sd h => by
  try dsimp only [Tb.of, ta_laws_markStringS] at h
  split at h
  · rename_i e; subst e; cases h; exact sn_laws_markText
  cases h
theorem lk_laws_markStringS_3 {R : Type} : LoopOk Try.prog R 20 1 pa_laws_markStringS L_laws_markStringS co_laws_markStringS_3 :=
  loop_key (cfg := ⟨ta_laws_markStringS, 1, 20, pa_laws_markStringS⟩) (key := 3) (by kernel_rfl) (by kernel_rfl) si_laws_markStringS rfl rfl (fun d k r h => ⟨fu_laws_markStringS_3 d.1 d.2.1 d.2.2.1, (lp_laws_markStringS_3 _ d k).trans h⟩) (fun c hc => by rw [show loopsIn co_laws_markStringS_3 = [] from by kernel_rfl] at hc; cases hc)
theorem sn_laws_markStringS : Callable Try.prog 104 ∧ Sound Try.prog 104 sd_laws_markStringS.sg sd_laws_markStringS.den :=
  fn_loops (pat := pa_laws_markStringS) L_laws_markStringS (by kernel_rfl) si_laws_markStringS Try.func104 (by kernel_rfl) (by kernel_rfl) (fun c hc => by rw [show loopsIn (bodyOf Try.f104) = [co_laws_markStringS_3] from by kernel_rfl] at hc; simp only [List.mem_cons, List.not_mem_nil, or_false] at hc; rcases hc with rfl <;> first | exact lk_laws_markStringS_3) fun x r h => by
    obtain ⟨a0, a1, ⟨⟩⟩ := x; obtain ⟨y, h1, h2⟩ := Option.bind_eq_some_iff.1 (show (m_laws_markStringS a0 a1).bind (fun r => some ((r.1, ()), (r.2, ()))) = some r from h); cases h2; exact (en_laws_markStringS a0 a1).trans (eq_laws_markStringS a0 a1 _ h1)
def m_laws_markWriteS (a : List (Int × ByteArray × Unit)) (k : Int) : Option (Int × (List (Int × ByteArray × Unit))) := markM (.pair (.int .i64) (.pair .str .unit)) a k
def sg_laws_markWriteS : Sig := ⟨[.mu 102 (.pair (.int .i64) (.pair .str .unit)), .rd (.int .i64)], [none, none], [.rd (.int .i64)], [none]⟩
def sd_laws_markWriteS : SD := ⟨sg_laws_markWriteS, fun x => (m_laws_markWriteS x.1 x.2.1).bind fun r => some ((r.1, ()), (r.2, ()))⟩
def ta_laws_markWriteS : Tb := Tb.of fun f => if f = 89 then some sd_laws_markText else none
def pa_laws_markWriteS : Nat → Pat × (Nat → Pat) := fun k => if k = 3 then (⟨[], [(0, .lf (.row 0)), (1, .lf (.d (.int .i64))), (5, .lf (.d (.int .i64)))], [.row 102 (.pair (.int .i64) (.pair .str .unit))]⟩, fun e => if e = 2 then ⟨[], [(1, .lf (.d (.int .i64)))], [.row 102 (.pair (.int .i64) (.pair .str .unit))]⟩ else ⟨[], [], []⟩) else (⟨[], [], []⟩, fun _ => ⟨[], [], []⟩)
noncomputable def co_laws_markWriteS_3 : Code := (loopsIn (bodyOf Try.f105)).getD 0 .skip
def fu_laws_markWriteS_3 (v1 : Int) (v5 : Int) (r0 : List (Int × ByteArray × Unit)) : Nat := ((r0.length : Int) - v5).toNat + 1
def tr_laws_markWriteS_3 {R : Type}  (NX : ((Int) × (Int) × (List (Int × ByteArray × Unit)) × Unit) → Option R) (X2 : ((Int) × (List (Int × ByteArray × Unit)) × Unit) → Option R) (v1 : Int) (v5 : Int) (r0 : List (Int × ByteArray × Unit)) : Option R :=
  bif decide (v5 < nI (List.length r0)) then
    bif decide (0 ≤ v5) then
      bif decide (v5 < nI (List.length r0)) then
        bif decide (Int.toNat v5 < List.length r0) then
          Option.bind (Option.bind (m_laws_markText (IntKind.wrap IntKind.i64 (v1 + 1))) fun val => some ((val, ()), ())) fun val =>
            bif decide (0 ≤ v5) then
              bif decide (v5 < nI (List.length (List.set r0 (Int.toNat v5) (v1, (List.getD r0 (Int.toNat v5) (0, ByteArray.mk #[], ())).snd.fst, ())))) then
                bif decide (Int.toNat v5 < List.length (List.set r0 (Int.toNat v5) (v1, (List.getD r0 (Int.toNat v5) (0, ByteArray.mk #[], ())).snd.fst, ()))) then
                  NX
                    (IntKind.wrap IntKind.i64 (IntKind.wrap IntKind.i64 (v1 + 1) + 1), IntKind.wrap IntKind.i64 (v5 + 1),
                      List.set (List.set r0 (Int.toNat v5) (v1, (List.getD r0 (Int.toNat v5) (0, ByteArray.mk #[], ())).snd.fst, ())) (Int.toNat v5)
                        ((List.getD (List.set r0 (Int.toNat v5) (v1, (List.getD r0 (Int.toNat v5) (0, ByteArray.mk #[], ())).snd.fst, ())) (Int.toNat v5) (0, ByteArray.mk #[], ())).fst, val.fst.fst,
                          ()),
                      ())
                else none
              else none
            else none
        else none
      else none
    else none
  else X2 (v1, r0, ())
def lo_laws_markWriteS_3 : Nat → (Int) → (Int) → (List (Int × ByteArray × Unit)) →  Option ((Int) × (List (Int × ByteArray × Unit)) × Unit)
  | 0, _, _, _ => none
  | m + 1, v1, v5, r0 => tr_laws_markWriteS_3  (fun d => lo_laws_markWriteS_3 m d.1 d.2.1 d.2.2.1) (fun d => some (d)) v1 v5 r0
theorem na_laws_markWriteS_3 {R S : Type}  (NX : ((Int) × (Int) × (List (Int × ByteArray × Unit)) × Unit) → Option R) (X2 : ((Int) × (List (Int × ByteArray × Unit)) × Unit) → Option R) (v1 : Int) (v5 : Int) (r0 : List (Int × ByteArray × Unit)) (f : R → Option S) : tr_laws_markWriteS_3  (fun d => (NX d).bind f) (fun d => (X2 d).bind f) v1 v5 r0 = (tr_laws_markWriteS_3  NX X2 v1 v5 r0).bind f := by
  unfold tr_laws_markWriteS_3
  simp only [cond_bind, ite_bind, onSum_bind, Option.bind_assoc, Option.bind_none, Option.bind_some]
def de_laws_markWriteS (a0 : List (Int × ByteArray × Unit)) (a1 : Int) : Option ((((Int) × Unit) × ((List (Int × ByteArray × Unit)) × Unit))) :=
  Option.bind ((fun d => lo_laws_markWriteS_3 (fu_laws_markWriteS_3 d.1 d.2.1 d.2.2.1) d.1 d.2.1 d.2.2.1) (a1, 0, a0, ())) fun val => some ((val.fst, ()), val.snd.fst, ())
theorem eq_laws_markWriteS (a0 : List (Int × ByteArray × Unit)) (a1 : Int) r (h : m_laws_markWriteS a0 a1 = some r) : de_laws_markWriteS a0 a1 = some ((r.1, ()), (r.2, ())) := by
  obtain ⟨g0, g1, hl0, rfl⟩ := markM_some (t := (.pair (.int .i64) (.pair .str .unit))) h
  have hl : a0.length ≤ 1125899906842624 := hl0
  have hEE : (fun k : Int => (show Int × ByteArray × Unit from (mkE (.pair (.int .i64) (.pair .str .unit)) k).1)) = (fun k : Int => (k, mkT (k + 1), ())) := funext fun k => by
    show (k, mkT (k + 1), ()) = (k, mkT (k + 1), ())
    try simp only [Int.add_assoc, Int.add_zero]
    try rfl
  show _ = some ((a1 + (a0.length : Int) * 2, ()), (gL (fun k : Int => (show Int × ByteArray × Unit from (mkE (.pair (.int .i64) (.pair .str .unit)) k).1)) 2 a0.length a1, ()))
  rw [hEE]
  unfold de_laws_markWriteS
  have hL := mark_loop (fun k : Int => (k, mkT (k + 1), ())) 2 (n := a0.length) (K := 36028797018963000) (g := fun m k i r => lo_laws_markWriteS_3 m k i r) (ok := fun k r => (k, r, ())) (fun m i k r hi hr h1 hK => by
    show lo_laws_markWriteS_3 (m + 1) k i r = _
    have hK1 : k + 2 ≤ 36028797018963000 := by
      have : (1 : Int) ≤ (a0.length - i : Nat) := by omega
      omega
    rw [show lo_laws_markWriteS_3 (m + 1) k i r = lo_laws_markWriteS_3 (m + 1) (k + 0) i r from by rw [Int.add_zero]]
    have k0 : k = k + 0 := (Int.add_zero k).symm
    have t1 : m_laws_markText (k + 1) = some (mkT (k + 1)) := if_pos (by omega)
    have w0 : IntKind.wrap IntKind.i64 (k + 0 + 1) = k + 1 := by rw [wrap_ok (by omega) (by omega)]; omega
    have w1 : IntKind.wrap IntKind.i64 (k + 1 + 1) = k + 2 := by rw [wrap_ok (by omega) (by omega)]; omega
    have hir : i < r.length := by omega
    simp only [lo_laws_markWriteS_3, tr_laws_markWriteS_3]
    simp only [t1,  Option.bind_some, w0, w1,  List.length_set, List.set_set, cLt hir, cLe0, cLtN hir, wI (show i < 4611686018427387904 by omega), cond_true, Int.toNat_natCast, getD_set hir]
    first | rfl | (rw [Int.add_zero]; rfl) | (simp only [Int.add_zero]; rfl)) (fun m k r hr => by
    show lo_laws_markWriteS_3 (m + 1) k a0.length r = _
    simp only [lo_laws_markWriteS_3, tr_laws_markWriteS_3, hr]
    rw [cLtF]
    rfl) (fu_laws_markWriteS_3 a1 0 a0) 0 a1 a0 (by omega) (by simp [fu_laws_markWriteS_3]) rfl g0 (by omega)
  have hL' : lo_laws_markWriteS_3 (fu_laws_markWriteS_3 a1 0 a0) a1 0 a0 = _ := hL
  show (lo_laws_markWriteS_3 (fu_laws_markWriteS_3 a1 0 a0) a1 0 a0).bind _ = _
  rw [hL']
  rfl
def ou_laws_markWriteS_3 {R : Type} (k : Kt R) : ((Int) × (List (Int × ByteArray × Unit)) × Unit) → Option R := (fun d => k (.exit 0) (((pa_laws_markWriteS 3).2 2).st d) (((pa_laws_markWriteS 3).2 2).nid))
def L_laws_markWriteS {R : Type} : Lt R pa_laws_markWriteS := (addL (pat := pa_laws_markWriteS) 3 (fun d k => (lo_laws_markWriteS_3 (fu_laws_markWriteS_3 d.1 d.2.1 d.2.2.1) d.1 d.2.1 d.2.2.1).bind (ou_laws_markWriteS_3 k)) noL)
theorem rd_laws_markWriteS_3 {R : Type} (nx : (pa_laws_markWriteS 3).1.D → Kt R → Option R) (k : Kt R) (v1 : Int) (v5 : Int) (r0 : List (Int × ByteArray × Unit)) : ev Try.prog ⟨ta_laws_markWriteS, 1, 28, pa_laws_markWriteS⟩ L_laws_markWriteS co_laws_markWriteS_3 ((pa_laws_markWriteS 3).1.st (v1, v5, r0, ())) (pa_laws_markWriteS 3).1.nid (roundK 1 (pa_laws_markWriteS 3) nx k) = tr_laws_markWriteS_3  (fun d => nx d k) (fun d => k (.exit 0) (((pa_laws_markWriteS 3).2 2).st d) (((pa_laws_markWriteS 3).2 2).nid)) v1 v5 r0 := by kernel_rfl
theorem lp_laws_markWriteS_3 {R : Type} : ∀ (m : Nat) (d : (pa_laws_markWriteS 3).1.D) (k : Kt R), loopN 1 (pa_laws_markWriteS 3) (fun s nid k => ev Try.prog ⟨ta_laws_markWriteS, 1, 28, pa_laws_markWriteS⟩ L_laws_markWriteS co_laws_markWriteS_3 s nid k) m d k = (lo_laws_markWriteS_3 m d.1 d.2.1 d.2.2.1).bind (ou_laws_markWriteS_3 k)
  | 0, _, _ => rfl
  | m + 1, ⟨v1, v5, r0, ⟨⟩⟩, k => (rd_laws_markWriteS_3 _ k v1 v5 r0).trans ((congrArg (fun F => tr_laws_markWriteS_3  F (fun d => k (.exit 0) (((pa_laws_markWriteS 3).2 2).st d) (((pa_laws_markWriteS 3).2 2).nid)) v1 v5 r0) (funext fun d => lp_laws_markWriteS_3 m d k)).trans (na_laws_markWriteS_3 (f := ou_laws_markWriteS_3 k)  (fun d => lo_laws_markWriteS_3 m d.1 d.2.1 d.2.2.1) (fun d => some (d)) v1 v5 r0))
theorem en_laws_markWriteS (a0 : List (Int × ByteArray × Unit)) (a1 : Int) : evalF Try.prog ta_laws_markWriteS pa_laws_markWriteS sg_laws_markWriteS Try.f105 L_laws_markWriteS (a0, a1, ()) = de_laws_markWriteS a0 a1 := by kernel_rfl
theorem si_laws_markWriteS : SigsOk Try.prog ta_laws_markWriteS := SigsOk.of fun f sd h => by
  try dsimp only [Tb.of, ta_laws_markWriteS] at h
  split at h
  · rename_i e; subst e; cases h; exact sn_laws_markText
  cases h
theorem lk_laws_markWriteS_3 {R : Type} : LoopOk Try.prog R 28 1 pa_laws_markWriteS L_laws_markWriteS co_laws_markWriteS_3 :=
  loop_key (cfg := ⟨ta_laws_markWriteS, 1, 28, pa_laws_markWriteS⟩) (key := 3) (by kernel_rfl) (by kernel_rfl) si_laws_markWriteS rfl rfl (fun d k r h => ⟨fu_laws_markWriteS_3 d.1 d.2.1 d.2.2.1, (lp_laws_markWriteS_3 _ d k).trans h⟩) (fun c hc => by rw [show loopsIn co_laws_markWriteS_3 = [] from by kernel_rfl] at hc; cases hc)
theorem sn_laws_markWriteS : Callable Try.prog 105 ∧ Sound Try.prog 105 sd_laws_markWriteS.sg sd_laws_markWriteS.den :=
  fn_loops (pat := pa_laws_markWriteS) L_laws_markWriteS (by kernel_rfl) si_laws_markWriteS Try.func105 (by kernel_rfl) (by kernel_rfl) (fun c hc => by rw [show loopsIn (bodyOf Try.f105) = [co_laws_markWriteS_3] from by kernel_rfl] at hc; simp only [List.mem_cons, List.not_mem_nil, or_false] at hc; rcases hc with rfl <;> first | exact lk_laws_markWriteS_3) fun x r h => by
    obtain ⟨a0, a1, ⟨⟩⟩ := x; obtain ⟨y, h1, h2⟩ := Option.bind_eq_some_iff.1 (show (m_laws_markWriteS a0 a1).bind (fun r => some ((r.1, ()), (r.2, ()))) = some r from h); cases h2; exact (en_laws_markWriteS a0 a1).trans (eq_laws_markWriteS a0 a1 _ h1)
def m_laws_markDisk (a : (List ByteArray) × (List (Int × ByteArray × Unit)) × Unit) (k : Int) : Option (Int × (List ByteArray) × (List (Int × ByteArray × Unit))) := (markM .str a.1 k).bind fun r0 => (markM (.pair (.int .i64) (.pair .str .unit)) a.2.1 r0.1).bind fun r1 =>  some (r1.1, r0.2, r1.2)
def sg_laws_markDisk : Sig := ⟨[.mu 9 .str, .mu 102 (.pair (.int .i64) (.pair .str .unit)), .rd (.int .i64)], [some 2, none], [.rd (.int .i64)], [none]⟩
def sd_laws_markDisk : SD := ⟨sg_laws_markDisk, fun x => (m_laws_markDisk (x.1, x.2.1, ()) x.2.2.1).bind fun r => some ((r.1, ()), (r.2.1, r.2.2, ()))⟩
def ta_laws_markDisk : Tb := Tb.of fun f => if f = 104 then some sd_laws_markStringS else if f = 105 then some sd_laws_markWriteS else none
def pa_laws_markDisk : Nat → Pat × (Nat → Pat) := fun k => (⟨[], [], []⟩, fun _ => ⟨[], [], []⟩)
def de_laws_markDisk (a0 : List ByteArray) (a1 : List (Int × ByteArray × Unit)) (a2 : Int) : Option ((((Int) × Unit) × ((List ByteArray) × (List (Int × ByteArray × Unit)) × Unit))) :=
  Option.bind (Option.bind (m_laws_markStringS a0 a2) fun val => some ((val.fst, ()), val.snd, ())) fun val =>
    Option.bind (Option.bind (m_laws_markWriteS a1 val.fst.fst) fun val => some ((val.fst, ()), val.snd, ())) fun val_1 => some ((val_1.fst.fst, ()), val.snd.fst, val_1.snd.fst, ())
theorem eq_laws_markDisk (a0 : List ByteArray) (a1 : List (Int × ByteArray × Unit)) (a2 : Int) r (h : m_laws_markDisk (a0, a1, ()) a2 = some r) : de_laws_markDisk a0 a1 a2 = some ((r.1, ()), (r.2.1, r.2.2, ())) := by
  unfold m_laws_markDisk at h
  obtain ⟨⟨k0, x0⟩, e0, h⟩ := Option.bind_eq_some_iff.1 h
  have e0 : markM .str a0 a2 = some (k0, x0) := e0
  obtain ⟨⟨k1, x1⟩, e1, h⟩ := Option.bind_eq_some_iff.1 h
  have e1 : markM (.pair (.int .i64) (.pair .str .unit)) a1 k0 = some (k1, x1) := e1
  cases h
  unfold de_laws_markDisk
  have c0 : m_laws_markStringS a0 a2 = (some (k0, x0) : Option (Int × (List ByteArray))) := e0
  rw [c0]
  simp only [Option.bind_some]
  have c1 : m_laws_markWriteS a1 k0 = (some (k1, x1) : Option (Int × (List (Int × ByteArray × Unit)))) := e1
  rw [c1]
  simp only [Option.bind_some]
  try rfl
theorem en_laws_markDisk (a0 : List ByteArray) (a1 : List (Int × ByteArray × Unit)) (a2 : Int) : evalF Try.prog ta_laws_markDisk pa_laws_markDisk sg_laws_markDisk Try.f56 noL (a0, a1, a2, ()) = de_laws_markDisk a0 a1 a2 := by kernel_rfl
theorem si_laws_markDisk : SigsOk Try.prog ta_laws_markDisk := SigsOk.of fun f sd h => by
  try dsimp only [Tb.of, ta_laws_markDisk] at h
  split at h
  · rename_i e; subst e; cases h; exact sn_laws_markStringS
  split at h
  · rename_i e; subst e; cases h; exact sn_laws_markWriteS
  cases h
theorem sn_laws_markDisk : Callable Try.prog 56 ∧ Sound Try.prog 56 sd_laws_markDisk.sg sd_laws_markDisk.den :=
  fn_plain (pat := pa_laws_markDisk) (by kernel_rfl) si_laws_markDisk Try.func56 (by kernel_rfl) (by kernel_rfl) (by kernel_rfl) fun x r h => by
    obtain ⟨a0, a1, a2, ⟨⟩⟩ := x; obtain ⟨y, h1, h2⟩ := Option.bind_eq_some_iff.1 (show (m_laws_markDisk (a0, a1, ()) a2).bind (fun r => some ((r.1, ()), (r.2.1, r.2.2, ()))) = some r from h); cases h2; exact (en_laws_markDisk a0 a1 a2).trans (eq_laws_markDisk a0 a1 a2 _ h1)
def m_laws_heldStringS (a : List ByteArray) (k : Int) : Option Int := heldM .str a k
def sg_laws_heldStringS : Sig := ⟨[.rd (.sl .str), .rd (.int .i64)], [none, none], [.rd (.int .i64)], [none]⟩
def sd_laws_heldStringS : SD := ⟨sg_laws_heldStringS, fun x => (m_laws_heldStringS x.1 x.2.1).bind fun r => some ((r, ()), (()))⟩
def ta_laws_heldStringS : Tb := Tb.of fun f => if f = 89 then some sd_laws_markText else none
def pa_laws_heldStringS : Nat → Pat × (Nat → Pat) := fun k => if k = 3 then (⟨[.sl 0 0 .str], [(0, .lf (.d (.sl .str))), (1, .lf (.d (.int .i64))), (5, .lf (.d (.int .i64)))], []⟩, fun e => if e = 1 then ⟨[], [(4, .lf (.d (.int .i64)))], []⟩ else if e = 2 then ⟨[], [(1, .lf (.d (.int .i64)))], []⟩ else ⟨[], [], []⟩) else (⟨[], [], []⟩, fun _ => ⟨[], [], []⟩)
noncomputable def co_laws_heldStringS_3 : Code := (loopsIn (bodyOf Try.f106)).getD 0 .skip
def fu_laws_heldStringS_3 (v0 : List ByteArray) (v1 : Int) (v5 : Int) : Nat := ((v0.length : Int) - v5).toNat + 1
def tr_laws_heldStringS_3 {R : Type}  (NX : ((List ByteArray) × (Int) × (Int) × Unit) → Option R) (X2 : ((Int) × Unit) → Option R) (X1 : ((Int) × Unit) → Option R) (v0 : List ByteArray) (v1 : Int) (v5 : Int) : Option R :=
  bif decide (v5 < nI (List.length v0)) then
    bif decide (0 ≤ v5) then
      bif decide (v5 < nI (List.length v0)) then
        Option.bind (Option.bind (m_laws_markText v1) fun val => some ((val, ()), ())) fun val =>
          bif !ByteArray.toList (List.getD v0 (Int.toNat v5) (ByteArray.mk #[])) == ByteArray.toList val.fst.fst then X1 (-1, ())
          else NX (v0, IntKind.wrap IntKind.i64 (v1 + 1), IntKind.wrap IntKind.i64 (v5 + 1), ())
      else none
    else none
  else X2 (v1, ())
def lo_laws_heldStringS_3 : Nat → (List ByteArray) → (Int) → (Int) →  Option (((Int) × Unit) ⊕ ((Int) × Unit))
  | 0, _, _, _ => none
  | m + 1, v0, v1, v5 => tr_laws_heldStringS_3  (fun d => lo_laws_heldStringS_3 m d.1 d.2.1 d.2.2.1) (fun d => some (.inl (d))) (fun d => some (.inr (d))) v0 v1 v5
theorem na_laws_heldStringS_3 {R S : Type}  (NX : ((List ByteArray) × (Int) × (Int) × Unit) → Option R) (X2 : ((Int) × Unit) → Option R) (X1 : ((Int) × Unit) → Option R) (v0 : List ByteArray) (v1 : Int) (v5 : Int) (f : R → Option S) : tr_laws_heldStringS_3  (fun d => (NX d).bind f) (fun d => (X2 d).bind f) (fun d => (X1 d).bind f) v0 v1 v5 = (tr_laws_heldStringS_3  NX X2 X1 v0 v1 v5).bind f := by
  unfold tr_laws_heldStringS_3
  simp only [cond_bind, ite_bind, onSum_bind, Option.bind_assoc, Option.bind_none, Option.bind_some]
def de_laws_heldStringS (a0 : List ByteArray) (a1 : Int) : Option ((((Int) × Unit) × (Unit))) :=
  Option.bind ((fun d => lo_laws_heldStringS_3 (fu_laws_heldStringS_3 d.1 d.2.1 d.2.2.1) d.1 d.2.1 d.2.2.1) (a0, a1, 0, ())) fun val => onSum (fun val => some ((val.fst, ()), ())) (fun val => some ((val.fst, ()), ())) val
theorem eq_laws_heldStringS (a0 : List ByteArray) (a1 : Int) r (h : m_laws_heldStringS a0 a1 = some r) : de_laws_heldStringS a0 a1 = some ((r, ()), (())) := by
  obtain ⟨g0, g1, hl0, rfl⟩ := heldM_some (t := .str) h
  have hl : a0.length ≤ 1125899906842624 := hl0
  have hEE : (fun k : Int => (show ByteArray from (mkE .str k).1)) = (fun k : Int => mkT (k)) := funext fun k => by
    show mkT (k) = mkT (k)
    try simp only [Int.add_assoc, Int.add_zero]
    try rfl
  show _ = some ((if eqL (α := ByteArray) eqS a0 (gL (fun k : Int => (show ByteArray from (mkE .str k).1)) 1 a0.length a1) = true then a1 + (a0.length : Int) * 1 else -1, ()), ())
  rw [hEE]
  unfold de_laws_heldStringS
  have hL := held_loop (xs := a0) (ByteArray.mk #[]) eqS (fun k : Int => mkT (k)) 1 (K := 36028797018963000) (g := fun m k i => lo_laws_heldStringS_3 m a0 k i) (ok := fun k => .inl (k, ())) (bad := .inr (-1, ())) (fun m i k hi h1 hK => by
    show lo_laws_heldStringS_3 (m + 1) a0 k i = bif eqS (List.getD (α := ByteArray) a0 i (ByteArray.mk #[])) ((fun k : Int => mkT (k)) k) then lo_laws_heldStringS_3 m a0 (k + 1) ((i + 1 : Nat) : Int) else _
    have hK1 : k + 1 ≤ 36028797018963000 := by
      have : (1 : Int) ≤ (a0.length - i : Nat) := by omega
      omega
    have hE : eqS (List.getD (α := ByteArray) a0 i (ByteArray.mk #[])) ((fun k : Int => mkT (k)) k) = eqS (List.getD (α := ByteArray) a0 i (ByteArray.mk #[])) (mkT (k + 0)) := by
      try simp only [Int.add_zero]
      try rfl
    rw [hE, show lo_laws_heldStringS_3 (m + 1) a0 k i = lo_laws_heldStringS_3 (m + 1) a0 (k + 0) i from by rw [Int.add_zero]]
    have k0 : k = k + 0 := (Int.add_zero k).symm
    have t0 : m_laws_markText (k + 0) = some (mkT (k + 0)) := if_pos (by omega)
    have w0 : IntKind.wrap IntKind.i64 (k + 0 + 1) = k + 1 := by rw [wrap_ok (by omega) (by omega)]; omega
    have v0 : (!(ByteArray.toList (List.getD (α := ByteArray) a0 i (ByteArray.mk #[])) == ByteArray.toList (mkT (k + 0)))) = !eqS (List.getD (α := ByteArray) a0 i (ByteArray.mk #[])) (mkT (k + 0)) := rfl
    simp only [lo_laws_heldStringS_3, tr_laws_heldStringS_3]
    simp only [t0,  Option.bind_some, w0,  cLt hi, cLe0, wI (show i < 4611686018427387904 by omega), cond_true, Int.toNat_natCast, v0]
    generalize eqS (List.getD (α := ByteArray) a0 i (ByteArray.mk #[])) (mkT (k + 0)) = p0
    cases p0 <;> rfl) (fun m k => by
    show lo_laws_heldStringS_3 (m + 1) a0 k a0.length = _
    simp only [lo_laws_heldStringS_3, tr_laws_heldStringS_3]
    rw [cLtF]
    rfl) (fu_laws_heldStringS_3 a0 a1 0) 0 a1 (by omega) (by simp [fu_laws_heldStringS_3]) g0 (by omega)
  have hL' : lo_laws_heldStringS_3 (fu_laws_heldStringS_3 a0 a1 0) a0 a1 0 = _ := hL
  show (lo_laws_heldStringS_3 (fu_laws_heldStringS_3 a0 a1 0) a0 a1 0).bind _ = some ((if eqL (α := ByteArray) eqS a0 (gL (fun k : Int => mkT (k)) 1 a0.length a1) = true then a1 + (a0.length : Int) * 1 else -1, ()), ())
  rw [hL', List.drop_zero]
  cases eqL (α := ByteArray) eqS a0 (gL (fun k : Int => mkT (k)) 1 a0.length a1) <;> rfl
def ou_laws_heldStringS_3 {R : Type} (k : Kt R) : (((Int) × Unit) ⊕ ((Int) × Unit)) → Option R := (onSum (fun d => k (.exit 0) (((pa_laws_heldStringS 3).2 2).st d) (((pa_laws_heldStringS 3).2 2).nid)) (fun d => k .ret (((pa_laws_heldStringS 3).2 1).st d) (((pa_laws_heldStringS 3).2 1).nid)))
def L_laws_heldStringS {R : Type} : Lt R pa_laws_heldStringS := (addL (pat := pa_laws_heldStringS) 3 (fun d k => (lo_laws_heldStringS_3 (fu_laws_heldStringS_3 d.1 d.2.1 d.2.2.1) d.1 d.2.1 d.2.2.1).bind (ou_laws_heldStringS_3 k)) noL)
theorem rd_laws_heldStringS_3 {R : Type} (nx : (pa_laws_heldStringS 3).1.D → Kt R → Option R) (k : Kt R) (v0 : List ByteArray) (v1 : Int) (v5 : Int) : ev Try.prog ⟨ta_laws_heldStringS, 0, 22, pa_laws_heldStringS⟩ L_laws_heldStringS co_laws_heldStringS_3 ((pa_laws_heldStringS 3).1.st (v0, v1, v5, ())) (pa_laws_heldStringS 3).1.nid (roundK 0 (pa_laws_heldStringS 3) nx k) = tr_laws_heldStringS_3  (fun d => nx d k) (fun d => k (.exit 0) (((pa_laws_heldStringS 3).2 2).st d) (((pa_laws_heldStringS 3).2 2).nid)) (fun d => k .ret (((pa_laws_heldStringS 3).2 1).st d) (((pa_laws_heldStringS 3).2 1).nid)) v0 v1 v5 := by kernel_rfl
theorem lp_laws_heldStringS_3 {R : Type} : ∀ (m : Nat) (d : (pa_laws_heldStringS 3).1.D) (k : Kt R), loopN 0 (pa_laws_heldStringS 3) (fun s nid k => ev Try.prog ⟨ta_laws_heldStringS, 0, 22, pa_laws_heldStringS⟩ L_laws_heldStringS co_laws_heldStringS_3 s nid k) m d k = (lo_laws_heldStringS_3 m d.1 d.2.1 d.2.2.1).bind (ou_laws_heldStringS_3 k)
  | 0, _, _ => rfl
  | m + 1, ⟨v0, v1, v5, ⟨⟩⟩, k => (rd_laws_heldStringS_3 _ k v0 v1 v5).trans ((congrArg (fun F => tr_laws_heldStringS_3  F (fun d => k (.exit 0) (((pa_laws_heldStringS 3).2 2).st d) (((pa_laws_heldStringS 3).2 2).nid)) (fun d => k .ret (((pa_laws_heldStringS 3).2 1).st d) (((pa_laws_heldStringS 3).2 1).nid)) v0 v1 v5) (funext fun d => lp_laws_heldStringS_3 m d k)).trans (na_laws_heldStringS_3 (f := ou_laws_heldStringS_3 k)  (fun d => lo_laws_heldStringS_3 m d.1 d.2.1 d.2.2.1) (fun d => some (.inl (d))) (fun d => some (.inr (d))) v0 v1 v5))
theorem en_laws_heldStringS (a0 : List ByteArray) (a1 : Int) : evalF Try.prog ta_laws_heldStringS pa_laws_heldStringS sg_laws_heldStringS Try.f106 L_laws_heldStringS (a0, a1, ()) = de_laws_heldStringS a0 a1 := by kernel_rfl
theorem si_laws_heldStringS : SigsOk Try.prog ta_laws_heldStringS := SigsOk.of fun f sd h => by
  try dsimp only [Tb.of, ta_laws_heldStringS] at h
  split at h
  · rename_i e; subst e; cases h; exact sn_laws_markText
  cases h
theorem lk_laws_heldStringS_3 {R : Type} : LoopOk Try.prog R 22 0 pa_laws_heldStringS L_laws_heldStringS co_laws_heldStringS_3 :=
  loop_key (cfg := ⟨ta_laws_heldStringS, 0, 22, pa_laws_heldStringS⟩) (key := 3) (by kernel_rfl) (by kernel_rfl) si_laws_heldStringS rfl rfl (fun d k r h => ⟨fu_laws_heldStringS_3 d.1 d.2.1 d.2.2.1, (lp_laws_heldStringS_3 _ d k).trans h⟩) (fun c hc => by rw [show loopsIn co_laws_heldStringS_3 = [] from by kernel_rfl] at hc; cases hc)
theorem sn_laws_heldStringS : Callable Try.prog 106 ∧ Sound Try.prog 106 sd_laws_heldStringS.sg sd_laws_heldStringS.den :=
  fn_loops (pat := pa_laws_heldStringS) L_laws_heldStringS (by kernel_rfl) si_laws_heldStringS Try.func106 (by kernel_rfl) (by kernel_rfl) (fun c hc => by rw [show loopsIn (bodyOf Try.f106) = [co_laws_heldStringS_3] from by kernel_rfl] at hc; simp only [List.mem_cons, List.not_mem_nil, or_false] at hc; rcases hc with rfl <;> first | exact lk_laws_heldStringS_3) fun x r h => by
    obtain ⟨a0, a1, ⟨⟩⟩ := x; obtain ⟨y, h1, h2⟩ := Option.bind_eq_some_iff.1 (show (m_laws_heldStringS a0 a1).bind (fun r => some ((r, ()), (()))) = some r from h); cases h2; exact (en_laws_heldStringS a0 a1).trans (eq_laws_heldStringS a0 a1 _ h1)
def m_laws_heldWriteS (a : List (Int × ByteArray × Unit)) (k : Int) : Option Int := heldM (.pair (.int .i64) (.pair .str .unit)) a k
def sg_laws_heldWriteS : Sig := ⟨[.rd (.sl (.pair (.int .i64) (.pair .str .unit))), .rd (.int .i64)], [none, none], [.rd (.int .i64)], [none]⟩
def sd_laws_heldWriteS : SD := ⟨sg_laws_heldWriteS, fun x => (m_laws_heldWriteS x.1 x.2.1).bind fun r => some ((r, ()), (()))⟩
def ta_laws_heldWriteS : Tb := Tb.of fun f => if f = 89 then some sd_laws_markText else none
def pa_laws_heldWriteS : Nat → Pat × (Nat → Pat) := fun k => if k = 3 then (⟨[.sl 0 0 (.pair (.int .i64) (.pair .str .unit))], [(0, .lf (.d (.sl (.pair (.int .i64) (.pair .str .unit))))), (1, .lf (.d (.int .i64))), (5, .lf (.d (.int .i64)))], []⟩, fun e => if e = 1 then ⟨[], [(4, .lf (.d (.int .i64)))], []⟩ else if e = 2 then ⟨[], [(1, .lf (.d (.int .i64)))], []⟩ else ⟨[], [], []⟩) else (⟨[], [], []⟩, fun _ => ⟨[], [], []⟩)
noncomputable def co_laws_heldWriteS_3 : Code := (loopsIn (bodyOf Try.f107)).getD 0 .skip
def fu_laws_heldWriteS_3 (v0 : List (Int × ByteArray × Unit)) (v1 : Int) (v5 : Int) : Nat := ((v0.length : Int) - v5).toNat + 1
def tr_laws_heldWriteS_3 {R : Type}  (NX : ((List (Int × ByteArray × Unit)) × (Int) × (Int) × Unit) → Option R) (X2 : ((Int) × Unit) → Option R) (X1 : ((Int) × Unit) → Option R) (v0 : List (Int × ByteArray × Unit)) (v1 : Int) (v5 : Int) : Option R :=
  bif decide (v5 < nI (List.length v0)) then
    bif decide (0 ≤ v5) then
      bif decide (v5 < nI (List.length v0)) then
        bif (List.getD v0 (Int.toNat v5) (0, ByteArray.mk #[], ())).fst != v1 then X1 (-1, ())
        else
          bif decide (0 ≤ v5) then
            bif decide (v5 < nI (List.length v0)) then
              Option.bind (Option.bind (m_laws_markText (IntKind.wrap IntKind.i64 (v1 + 1))) fun val => some ((val, ()), ())) fun val =>
                bif !ByteArray.toList (List.getD v0 (Int.toNat v5) (0, ByteArray.mk #[], ())).snd.fst == ByteArray.toList val.fst.fst then X1 (-1, ())
                else NX (v0, IntKind.wrap IntKind.i64 (IntKind.wrap IntKind.i64 (v1 + 1) + 1), IntKind.wrap IntKind.i64 (v5 + 1), ())
            else none
          else none
      else none
    else none
  else X2 (v1, ())
def lo_laws_heldWriteS_3 : Nat → (List (Int × ByteArray × Unit)) → (Int) → (Int) →  Option (((Int) × Unit) ⊕ ((Int) × Unit))
  | 0, _, _, _ => none
  | m + 1, v0, v1, v5 => tr_laws_heldWriteS_3  (fun d => lo_laws_heldWriteS_3 m d.1 d.2.1 d.2.2.1) (fun d => some (.inl (d))) (fun d => some (.inr (d))) v0 v1 v5
theorem na_laws_heldWriteS_3 {R S : Type}  (NX : ((List (Int × ByteArray × Unit)) × (Int) × (Int) × Unit) → Option R) (X2 : ((Int) × Unit) → Option R) (X1 : ((Int) × Unit) → Option R) (v0 : List (Int × ByteArray × Unit)) (v1 : Int) (v5 : Int) (f : R → Option S) : tr_laws_heldWriteS_3  (fun d => (NX d).bind f) (fun d => (X2 d).bind f) (fun d => (X1 d).bind f) v0 v1 v5 = (tr_laws_heldWriteS_3  NX X2 X1 v0 v1 v5).bind f := by
  unfold tr_laws_heldWriteS_3
  simp only [cond_bind, ite_bind, onSum_bind, Option.bind_assoc, Option.bind_none, Option.bind_some]
def de_laws_heldWriteS (a0 : List (Int × ByteArray × Unit)) (a1 : Int) : Option ((((Int) × Unit) × (Unit))) :=
  Option.bind ((fun d => lo_laws_heldWriteS_3 (fu_laws_heldWriteS_3 d.1 d.2.1 d.2.2.1) d.1 d.2.1 d.2.2.1) (a0, a1, 0, ())) fun val => onSum (fun val => some ((val.fst, ()), ())) (fun val => some ((val.fst, ()), ())) val
theorem eq_laws_heldWriteS (a0 : List (Int × ByteArray × Unit)) (a1 : Int) r (h : m_laws_heldWriteS a0 a1 = some r) : de_laws_heldWriteS a0 a1 = some ((r, ()), (())) := by
  obtain ⟨g0, g1, hl0, rfl⟩ := heldM_some (t := (.pair (.int .i64) (.pair .str .unit))) h
  have hl : a0.length ≤ 1125899906842624 := hl0
  have hEE : (fun k : Int => (show Int × ByteArray × Unit from (mkE (.pair (.int .i64) (.pair .str .unit)) k).1)) = (fun k : Int => (k, mkT (k + 1), ())) := funext fun k => by
    show (k, mkT (k + 1), ()) = (k, mkT (k + 1), ())
    try simp only [Int.add_assoc, Int.add_zero]
    try rfl
  show _ = some ((if eqL (α := Int × ByteArray × Unit) (fun x y : Int × ByteArray × Unit => eqB (.pair (.int .i64) (.pair .str .unit)) x y) a0 (gL (fun k : Int => (show Int × ByteArray × Unit from (mkE (.pair (.int .i64) (.pair .str .unit)) k).1)) 2 a0.length a1) = true then a1 + (a0.length : Int) * 2 else -1, ()), ())
  rw [hEE]
  unfold de_laws_heldWriteS
  have hL := held_loop (xs := a0) (0, (ByteArray.mk #[]), ()) (fun x y : Int × ByteArray × Unit => eqB (.pair (.int .i64) (.pair .str .unit)) x y) (fun k : Int => (k, mkT (k + 1), ())) 2 (K := 36028797018963000) (g := fun m k i => lo_laws_heldWriteS_3 m a0 k i) (ok := fun k => .inl (k, ())) (bad := .inr (-1, ())) (fun m i k hi h1 hK => by
    show lo_laws_heldWriteS_3 (m + 1) a0 k i = bif (fun x y : Int × ByteArray × Unit => eqB (.pair (.int .i64) (.pair .str .unit)) x y) (List.getD (α := Int × ByteArray × Unit) a0 i (0, (ByteArray.mk #[]), ())) ((fun k : Int => (k, mkT (k + 1), ())) k) then lo_laws_heldWriteS_3 m a0 (k + 2) ((i + 1 : Nat) : Int) else _
    have hK1 : k + 2 ≤ 36028797018963000 := by
      have : (1 : Int) ≤ (a0.length - i : Nat) := by omega
      omega
    have hE : (fun x y : Int × ByteArray × Unit => eqB (.pair (.int .i64) (.pair .str .unit)) x y) (List.getD (α := Int × ByteArray × Unit) a0 i (0, (ByteArray.mk #[]), ())) ((fun k : Int => (k, mkT (k + 1), ())) k) = (eqI (List.getD (α := Int × ByteArray × Unit) a0 i (0, (ByteArray.mk #[]), ())).1 (k + 0) && (eqS (List.getD (α := Int × ByteArray × Unit) a0 i (0, (ByteArray.mk #[]), ())).2.1 (mkT (k + 1)) && true)) := by
      try simp only [Int.add_zero]
      try rfl
    rw [hE, show lo_laws_heldWriteS_3 (m + 1) a0 k i = lo_laws_heldWriteS_3 (m + 1) a0 (k + 0) i from by rw [Int.add_zero]]
    have k0 : k = k + 0 := (Int.add_zero k).symm
    have t1 : m_laws_markText (k + 1) = some (mkT (k + 1)) := if_pos (by omega)
    have w0 : IntKind.wrap IntKind.i64 (k + 0 + 1) = k + 1 := by rw [wrap_ok (by omega) (by omega)]; omega
    have w1 : IntKind.wrap IntKind.i64 (k + 1 + 1) = k + 2 := by rw [wrap_ok (by omega) (by omega)]; omega
    have v0 : ((List.getD (α := Int × ByteArray × Unit) a0 i (0, (ByteArray.mk #[]), ())).1 != k + 0) = !eqI (List.getD (α := Int × ByteArray × Unit) a0 i (0, (ByteArray.mk #[]), ())).1 (k + 0) := bneI _ _
    have v1 : (!(ByteArray.toList (List.getD (α := Int × ByteArray × Unit) a0 i (0, (ByteArray.mk #[]), ())).2.1 == ByteArray.toList (mkT (k + 1)))) = !eqS (List.getD (α := Int × ByteArray × Unit) a0 i (0, (ByteArray.mk #[]), ())).2.1 (mkT (k + 1)) := rfl
    simp only [lo_laws_heldWriteS_3, tr_laws_heldWriteS_3]
    simp only [t1,  Option.bind_some, w0, w1,  cLt hi, cLe0, wI (show i < 4611686018427387904 by omega), cond_true, Int.toNat_natCast, v0, v1]
    generalize eqI (List.getD (α := Int × ByteArray × Unit) a0 i (0, (ByteArray.mk #[]), ())).1 (k + 0) = p0
    generalize eqS (List.getD (α := Int × ByteArray × Unit) a0 i (0, (ByteArray.mk #[]), ())).2.1 (mkT (k + 1)) = p1
    cases p0 <;> cases p1 <;> rfl) (fun m k => by
    show lo_laws_heldWriteS_3 (m + 1) a0 k a0.length = _
    simp only [lo_laws_heldWriteS_3, tr_laws_heldWriteS_3]
    rw [cLtF]
    rfl) (fu_laws_heldWriteS_3 a0 a1 0) 0 a1 (by omega) (by simp [fu_laws_heldWriteS_3]) g0 (by omega)
  have hL' : lo_laws_heldWriteS_3 (fu_laws_heldWriteS_3 a0 a1 0) a0 a1 0 = _ := hL
  show (lo_laws_heldWriteS_3 (fu_laws_heldWriteS_3 a0 a1 0) a0 a1 0).bind _ = some ((if eqL (α := Int × ByteArray × Unit) (fun x y : Int × ByteArray × Unit => eqB (.pair (.int .i64) (.pair .str .unit)) x y) a0 (gL (fun k : Int => (k, mkT (k + 1), ())) 2 a0.length a1) = true then a1 + (a0.length : Int) * 2 else -1, ()), ())
  rw [hL', List.drop_zero]
  cases eqL (α := Int × ByteArray × Unit) (fun x y : Int × ByteArray × Unit => eqB (.pair (.int .i64) (.pair .str .unit)) x y) a0 (gL (fun k : Int => (k, mkT (k + 1), ())) 2 a0.length a1) <;> rfl
def ou_laws_heldWriteS_3 {R : Type} (k : Kt R) : (((Int) × Unit) ⊕ ((Int) × Unit)) → Option R := (onSum (fun d => k (.exit 0) (((pa_laws_heldWriteS 3).2 2).st d) (((pa_laws_heldWriteS 3).2 2).nid)) (fun d => k .ret (((pa_laws_heldWriteS 3).2 1).st d) (((pa_laws_heldWriteS 3).2 1).nid)))
def L_laws_heldWriteS {R : Type} : Lt R pa_laws_heldWriteS := (addL (pat := pa_laws_heldWriteS) 3 (fun d k => (lo_laws_heldWriteS_3 (fu_laws_heldWriteS_3 d.1 d.2.1 d.2.2.1) d.1 d.2.1 d.2.2.1).bind (ou_laws_heldWriteS_3 k)) noL)
theorem rd_laws_heldWriteS_3 {R : Type} (nx : (pa_laws_heldWriteS 3).1.D → Kt R → Option R) (k : Kt R) (v0 : List (Int × ByteArray × Unit)) (v1 : Int) (v5 : Int) : ev Try.prog ⟨ta_laws_heldWriteS, 0, 32, pa_laws_heldWriteS⟩ L_laws_heldWriteS co_laws_heldWriteS_3 ((pa_laws_heldWriteS 3).1.st (v0, v1, v5, ())) (pa_laws_heldWriteS 3).1.nid (roundK 0 (pa_laws_heldWriteS 3) nx k) = tr_laws_heldWriteS_3  (fun d => nx d k) (fun d => k (.exit 0) (((pa_laws_heldWriteS 3).2 2).st d) (((pa_laws_heldWriteS 3).2 2).nid)) (fun d => k .ret (((pa_laws_heldWriteS 3).2 1).st d) (((pa_laws_heldWriteS 3).2 1).nid)) v0 v1 v5 := by kernel_rfl
theorem lp_laws_heldWriteS_3 {R : Type} : ∀ (m : Nat) (d : (pa_laws_heldWriteS 3).1.D) (k : Kt R), loopN 0 (pa_laws_heldWriteS 3) (fun s nid k => ev Try.prog ⟨ta_laws_heldWriteS, 0, 32, pa_laws_heldWriteS⟩ L_laws_heldWriteS co_laws_heldWriteS_3 s nid k) m d k = (lo_laws_heldWriteS_3 m d.1 d.2.1 d.2.2.1).bind (ou_laws_heldWriteS_3 k)
  | 0, _, _ => rfl
  | m + 1, ⟨v0, v1, v5, ⟨⟩⟩, k => (rd_laws_heldWriteS_3 _ k v0 v1 v5).trans ((congrArg (fun F => tr_laws_heldWriteS_3  F (fun d => k (.exit 0) (((pa_laws_heldWriteS 3).2 2).st d) (((pa_laws_heldWriteS 3).2 2).nid)) (fun d => k .ret (((pa_laws_heldWriteS 3).2 1).st d) (((pa_laws_heldWriteS 3).2 1).nid)) v0 v1 v5) (funext fun d => lp_laws_heldWriteS_3 m d k)).trans (na_laws_heldWriteS_3 (f := ou_laws_heldWriteS_3 k)  (fun d => lo_laws_heldWriteS_3 m d.1 d.2.1 d.2.2.1) (fun d => some (.inl (d))) (fun d => some (.inr (d))) v0 v1 v5))
theorem en_laws_heldWriteS (a0 : List (Int × ByteArray × Unit)) (a1 : Int) : evalF Try.prog ta_laws_heldWriteS pa_laws_heldWriteS sg_laws_heldWriteS Try.f107 L_laws_heldWriteS (a0, a1, ()) = de_laws_heldWriteS a0 a1 := by kernel_rfl
theorem si_laws_heldWriteS : SigsOk Try.prog ta_laws_heldWriteS := SigsOk.of fun f sd h => by
  try dsimp only [Tb.of, ta_laws_heldWriteS] at h
  split at h
  · rename_i e; subst e; cases h; exact sn_laws_markText
  cases h
theorem lk_laws_heldWriteS_3 {R : Type} : LoopOk Try.prog R 32 0 pa_laws_heldWriteS L_laws_heldWriteS co_laws_heldWriteS_3 :=
  loop_key (cfg := ⟨ta_laws_heldWriteS, 0, 32, pa_laws_heldWriteS⟩) (key := 3) (by kernel_rfl) (by kernel_rfl) si_laws_heldWriteS rfl rfl (fun d k r h => ⟨fu_laws_heldWriteS_3 d.1 d.2.1 d.2.2.1, (lp_laws_heldWriteS_3 _ d k).trans h⟩) (fun c hc => by rw [show loopsIn co_laws_heldWriteS_3 = [] from by kernel_rfl] at hc; cases hc)
theorem sn_laws_heldWriteS : Callable Try.prog 107 ∧ Sound Try.prog 107 sd_laws_heldWriteS.sg sd_laws_heldWriteS.den :=
  fn_loops (pat := pa_laws_heldWriteS) L_laws_heldWriteS (by kernel_rfl) si_laws_heldWriteS Try.func107 (by kernel_rfl) (by kernel_rfl) (fun c hc => by rw [show loopsIn (bodyOf Try.f107) = [co_laws_heldWriteS_3] from by kernel_rfl] at hc; simp only [List.mem_cons, List.not_mem_nil, or_false] at hc; rcases hc with rfl <;> first | exact lk_laws_heldWriteS_3) fun x r h => by
    obtain ⟨a0, a1, ⟨⟩⟩ := x; obtain ⟨y, h1, h2⟩ := Option.bind_eq_some_iff.1 (show (m_laws_heldWriteS a0 a1).bind (fun r => some ((r, ()), (()))) = some r from h); cases h2; exact (en_laws_heldWriteS a0 a1).trans (eq_laws_heldWriteS a0 a1 _ h1)
def m_laws_heldDisk (a : (List ByteArray) × (List (Int × ByteArray × Unit)) × Unit) (k : Int) : Option Int := (heldM .str a.1 k).bind fun r0 => if r0 < 0 then some (-1) else (heldM (.pair (.int .i64) (.pair .str .unit)) a.2.1 r0).bind fun r1 =>  some (if r1 < 0 then -1 else r1)
def sg_laws_heldDisk : Sig := ⟨[.rd (.pair (.sl .str) (.pair (.sl (.pair (.int .i64) (.pair .str .unit))) .unit)), .rd (.int .i64)], [some 2, none], [.rd (.int .i64)], [none]⟩
def sd_laws_heldDisk : SD := ⟨sg_laws_heldDisk, fun x => (m_laws_heldDisk x.1 x.2.1).bind fun r => some ((r, ()), (()))⟩
def ta_laws_heldDisk : Tb := Tb.of fun f => if f = 106 then some sd_laws_heldStringS else if f = 107 then some sd_laws_heldWriteS else none
def pa_laws_heldDisk : Nat → Pat × (Nat → Pat) := fun k => (⟨[], [], []⟩, fun _ => ⟨[], [], []⟩)
def de_laws_heldDisk (a0 : (List ByteArray) × (List (Int × ByteArray × Unit)) × Unit) (a1 : Int) : Option ((((Int) × Unit) × (Unit))) :=
  Option.bind (Option.bind (m_laws_heldStringS a0.fst a1) fun val => some ((val, ()), ())) fun val =>
    bif decide (val.fst.fst < 0) then some ((-1, ()), ())
    else
      Option.bind (Option.bind (m_laws_heldWriteS a0.snd.fst val.fst.fst) fun val => some ((val, ()), ())) fun val =>
        bif decide (val.fst.fst < 0) then some ((-1, ()), ()) else some ((val.fst.fst, ()), ())
theorem eq_laws_heldDisk (a0 : (List ByteArray) × (List (Int × ByteArray × Unit)) × Unit) (a1 : Int) r (h : m_laws_heldDisk a0 a1 = some r) : de_laws_heldDisk a0 a1 = some ((r, ()), (())) := by
  unfold m_laws_heldDisk at h
  unfold de_laws_heldDisk
  obtain ⟨r0, e0, h⟩ := Option.bind_eq_some_iff.1 h
  have e0 : heldM .str a0.1 a1 = some r0 := e0
  simp only [m_laws_heldStringS, m_laws_heldWriteS]
  simp only [e0, Option.bind_some]
  by_cases q0 : r0 < 0
  · simp only [if_pos q0] at h; cases h; simp only [if_pos q0, decide_eq_true q0, cond_true, show decide ((-1 : Int) < 0) = true from rfl]
  · simp only [if_neg q0] at h; simp only [if_neg q0, decide_eq_false q0, cond_false]
    obtain ⟨r1, e1, h⟩ := Option.bind_eq_some_iff.1 h
    have e1 : heldM (.pair (.int .i64) (.pair .str .unit)) a0.2.1 r0 = some r1 := e1
    simp only [e1, Option.bind_some]
    by_cases q1 : r1 < 0
    · simp only [if_pos q1] at h; cases h; simp only [if_pos q1, decide_eq_true q1, cond_true, show decide ((-1 : Int) < 0) = true from rfl]
    · simp only [if_neg q1] at h; cases h; simp only [if_neg q1, decide_eq_false q1, cond_false]
theorem en_laws_heldDisk (a0 : (List ByteArray) × (List (Int × ByteArray × Unit)) × Unit) (a1 : Int) : evalF Try.prog ta_laws_heldDisk pa_laws_heldDisk sg_laws_heldDisk Try.f57 noL (a0, a1, ()) = de_laws_heldDisk a0 a1 := by kernel_rfl
theorem si_laws_heldDisk : SigsOk Try.prog ta_laws_heldDisk := SigsOk.of fun f sd h => by
  try dsimp only [Tb.of, ta_laws_heldDisk] at h
  split at h
  · rename_i e; subst e; cases h; exact sn_laws_heldStringS
  split at h
  · rename_i e; subst e; cases h; exact sn_laws_heldWriteS
  cases h
theorem sn_laws_heldDisk : Callable Try.prog 57 ∧ Sound Try.prog 57 sd_laws_heldDisk.sg sd_laws_heldDisk.den :=
  fn_plain (pat := pa_laws_heldDisk) (by kernel_rfl) si_laws_heldDisk Try.func57 (by kernel_rfl) (by kernel_rfl) (by kernel_rfl) fun x r h => by
    obtain ⟨a0, a1, ⟨⟩⟩ := x; obtain ⟨y, h1, h2⟩ := Option.bind_eq_some_iff.1 (show (m_laws_heldDisk a0 a1).bind (fun r => some ((r, ()), (()))) = some r from h); cases h2; exact (en_laws_heldDisk a0 a1).trans (eq_laws_heldDisk a0 a1 _ h1)
def sg_laws_FnExactNewDisk : Sig := ⟨[.rd (.int .i64)], [none], [.rd .bool], [none]⟩
def ta_laws_FnExactNewDisk : Tb := Tb.of fun f => if f = 27 then some sd_laws_eqDisk else if f = 54 then some sd_spec_NewDisk else if f = 55 then some sd_impl_NewDisk else if f = 56 then some sd_laws_markDisk else if f = 57 then some sd_laws_heldDisk else none
def pa_laws_FnExactNewDisk : Nat → Pat × (Nat → Pat) := fun k => (⟨[], [], []⟩, fun _ => ⟨[], [], []⟩)
def de_laws_FnExactNewDisk (a0 : Int) : Option ((((Bool) × Unit) × (Unit))) :=
  Option.bind (Option.bind (m_laws_eqDisk ((m_impl_NewDisk a0).fst, (m_impl_NewDisk a0).snd.fst, ()) ((m_spec_NewDisk a0).fst, (m_spec_NewDisk a0).snd.fst, ())) fun val => some ((val, ()), ()))
    fun val =>
    bif !val.fst.fst then some ((false, ()), ())
    else
      Option.bind (Option.bind (m_laws_markDisk ((m_impl_NewDisk a0).fst, (m_impl_NewDisk a0).snd.fst, ()) 1) fun val => some ((val.fst, ()), val.snd.fst, val.snd.snd, ())) fun val =>
        Option.bind (Option.bind (m_laws_heldDisk (val.snd.fst, val.snd.snd.fst, ()) 1) fun val => some ((val, ()), ())) fun val_1 =>
          bif decide (val_1.fst.fst < 0) then some ((false, ()), ())
          else
            bif val_1.fst.fst != val.fst.fst then some ((false, ()), ())
            else
              Option.bind
                (Option.bind (m_laws_eqDisk ((m_impl_NewDisk a0).fst, (m_impl_NewDisk a0).snd.fst, ()) ((m_spec_NewDisk a0).fst, (m_spec_NewDisk a0).snd.fst, ())) fun val => some ((val, ()), ()))
                fun val_2 =>
                bif !val_2.fst.fst then some ((false, ()), ())
                else
                  Option.bind (Option.bind (m_laws_heldDisk (val.snd.fst, val.snd.snd.fst, ()) 1) fun val => some ((val, ()), ())) fun val_3 =>
                    bif decide (val_3.fst.fst < 0) then some ((false, ()), ()) else bif val_3.fst.fst != val.fst.fst then some ((false, ()), ()) else some ((true, ()), ())
def sd_laws_FnExactNewDisk : SD := ⟨sg_laws_FnExactNewDisk, fun x => de_laws_FnExactNewDisk x.1⟩
theorem law_FnExactNewDisk (a0 : Int) (h0 : FineD (.int .i64) a0) : de_laws_FnExactNewDisk a0 = some ((true, ()), ()) := by
  have hf0 := fine_of h0
  unfold de_laws_FnExactNewDisk
  have gw : m_spec_NewDisk a0 = m_impl_NewDisk a0 := rfl
  have gg0 : goodB (.pair (.sl .str) (.pair (.sl (.pair (.int .i64) (.pair .str .unit))) .unit)) (m_impl_NewDisk a0) = true := newDisk_good _
  simp only [Option.bind_some, cond_false, gw]
  generalize m_impl_NewDisk a0 = g at *
  have v0 : m_laws_eqDisk (g.fst, g.snd.fst, ()) (g.fst, g.snd.fst, ()) = some true := eqM_self (t := (.pair (.sl .str) (.pair (.sl (.pair (.int .i64) (.pair .str .unit))) .unit))) (x := g) (good_fine gg0)
  have Lz0 := gg0
  simp only [smallB, goodB, Bool.and_eq_true, decide_eq_true_eq, and_true, true_and] at Lz0
  obtain ⟨kz0_0, yz0_0, mz0_0, bz0_0, cz0_0, dz0_0⟩ : ∃ (k2 : Int) (ys : List (ByteArray)), markM .str g.fst 1 = (some (k2, ys) : Option (Int × List (ByteArray))) ∧ 1 ≤ k2 ∧ k2 ≤ 1 + 1073741824 * ((1 : Nat) : Int) ∧ heldM .str ys 1 = some k2 := mk_ex (t := .str) (xs := g.fst) (k := 1) 1 rfl (by omega) (by omega) (by omega)
  obtain ⟨kz0_1, yz0_1, mz0_1, bz0_1, cz0_1, dz0_1⟩ : ∃ (k2 : Int) (ys : List (Int × ByteArray × Unit)), markM (.pair (.int .i64) (.pair .str .unit)) g.snd.fst kz0_0 = (some (k2, ys) : Option (Int × List (Int × ByteArray × Unit))) ∧ kz0_0 ≤ k2 ∧ k2 ≤ kz0_0 + 1073741824 * ((2 : Nat) : Int) ∧ heldM (.pair (.int .i64) (.pair .str .unit)) ys kz0_0 = some k2 := mk_ex (t := (.pair (.int .i64) (.pair .str .unit))) (xs := g.snd.fst) (k := kz0_0) 2 rfl (by omega) (by omega) (by omega)
  have mkz0 : m_laws_markDisk (g.fst, g.snd.fst, ()) 1 = some (kz0_1, yz0_0, yz0_1) := bi_ mz0_0 (bi_ mz0_1 (rfl))
  have nnz0_0 : ¬ kz0_0 < 0 := by omega
  have nnz0_1 : ¬ kz0_1 < 0 := by omega
  have hdz0 : m_laws_heldDisk (yz0_0, yz0_1, ()) 1 = some kz0_1 := bi_ dz0_0 ((if_neg nnz0_0).trans (bi_ dz0_1 (congrArg some (if_neg nnz0_1))))
  have nkz : decide (kz0_1 < 0) = false := decide_eq_false (by omega)
  simp only [v0, mkz0, hdz0, nkz, Option.bind_some, cond_false, cond_true, beq_self_eq_true, bne_self_eq_false, Bool.not_true, Bool.or_self, Bool.false_or]
theorem en_laws_FnExactNewDisk (a0 : Int) : evalF Try.prog ta_laws_FnExactNewDisk pa_laws_FnExactNewDisk sg_laws_FnExactNewDisk Try.f13 noL (a0, ()) = de_laws_FnExactNewDisk a0 := by kernel_rfl
theorem si_laws_FnExactNewDisk : SigsOk Try.prog ta_laws_FnExactNewDisk := SigsOk.of fun f sd h => by
  try dsimp only [Tb.of, ta_laws_FnExactNewDisk] at h
  split at h
  · rename_i e; subst e; cases h; exact sn_laws_eqDisk
  split at h
  · rename_i e; subst e; cases h; exact sn_spec_NewDisk
  split at h
  · rename_i e; subst e; cases h; exact sn_impl_NewDisk
  split at h
  · rename_i e; subst e; cases h; exact sn_laws_markDisk
  split at h
  · rename_i e; subst e; cases h; exact sn_laws_heldDisk
  cases h
theorem sn_laws_FnExactNewDisk : Callable Try.prog 13 ∧ Sound Try.prog 13 sd_laws_FnExactNewDisk.sg sd_laws_FnExactNewDisk.den :=
  fn_plain (pat := pa_laws_FnExactNewDisk) (by kernel_rfl) si_laws_FnExactNewDisk Try.func13 (by kernel_rfl) (by kernel_rfl) (by kernel_rfl) fun x r h => by
    obtain ⟨a0, ⟨⟩⟩ := x; exact (en_laws_FnExactNewDisk a0).trans h
end Go.Proofs.Ytmhjcfgkheihdaa.V
