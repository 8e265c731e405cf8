/- What the functions that FnExactScan reaches come to: part 2. No condition. -/
import Derived.Test.YtjoiklaecelalaaVFnExactScana
import Derived.KernelRfl
namespace Go.Proofs.Ytjoiklaecelalaa.V
open Go Go.Proofs.Ytjoiklaecelalaa.R Go.Proofs
set_option maxRecDepth 100000
set_option linter.unusedVariables false
set_option linter.unusedSimpArgs false
def m_impl_ValidDisk (d : Dk) : Bool := validDisk d
def sg_impl_ValidDisk : Sig := ⟨[.rd (.pair (.sl .str) (.pair (.sl (.pair (.int .i64) (.pair .str .unit))) .unit))], [some 2], [.rd .bool], [none]⟩
noncomputable def sd_impl_ValidDisk : SD := ⟨sg_impl_ValidDisk, fun x => some (((m_impl_ValidDisk x.1), ()), (()))⟩
noncomputable def ta_impl_ValidDisk : Tb := Tb.of fun f => if f = 98 then some sd_impl_in else none
def pa_impl_ValidDisk : Nat → Pat × (Nat → Pat) := fun k => if k = 5 then (⟨[.sl 19 0 .str, .boxSl 1 0 .str, .boxSl 1 1 (.pair (.int .i64) (.pair .str .unit))], [(1, .lf (.ptr 0 0)), (19, .lf (.d (.sl .str))), (20, .lf (.d (.int .i64))), (21, .lf (.d (.int .i64)))], [.box 47 [.d (.sl .str), .d (.sl (.pair (.int .i64) (.pair .str .unit)))]]⟩, fun e => if e = 1 then ⟨[], [(2, .lf (.d .bool))], []⟩ else if e = 2 then ⟨[.boxSl 1 0 .str, .boxSl 1 1 (.pair (.int .i64) (.pair .str .unit))], [(1, .lf (.ptr 0 0))], [.box 47 [.d (.sl .str), .d (.sl (.pair (.int .i64) (.pair .str .unit)))]]⟩ else ⟨[], [], []⟩) else if k = 11 then (⟨[.sl 30 0 (.pair (.int .i64) (.pair .str .unit)), .boxSl 1 0 .str, .boxSl 1 1 (.pair (.int .i64) (.pair .str .unit))], [(1, .lf (.ptr 0 0)), (30, .lf (.d (.sl (.pair (.int .i64) (.pair .str .unit))))), (31, .lf (.d (.int .i64))), (32, .lf (.d (.int .i64)))], [.box 47 [.d (.sl .str), .d (.sl (.pair (.int .i64) (.pair .str .unit)))]]⟩, fun e => if e = 1 then ⟨[], [(2, .lf (.d .bool))], []⟩ else if e = 4 then ⟨[], [], []⟩ else ⟨[], [], []⟩) else (⟨[], [], []⟩, fun _ => ⟨[], [], []⟩)
noncomputable def co_impl_ValidDisk_5 : Code := (loopsIn (bodyOf Try.f109)).getD 0 .skip
noncomputable def co_impl_ValidDisk_11 : Code := (loopsIn (bodyOf Try.f109)).getD 1 .skip
def fu_impl_ValidDisk_11 (v30 : List (Int × ByteArray × Unit)) (v31 : Int) (v32 : Int) (b0_0 : List ByteArray) (b0_1 : List (Int × ByteArray × Unit)) : Nat := (v31 - v32).toNat + 1
noncomputable def tr_impl_ValidDisk_11 {R : Type}  (NX : ((List (Int × ByteArray × Unit)) × (Int) × (Int) × (List ByteArray) × (List (Int × ByteArray × Unit)) × Unit) → Option R) (X4 : (Unit) → Option R) (X1 : ((Bool) × Unit) → Option R) (v30 : List (Int × ByteArray × Unit)) (v31 : Int) (v32 : Int) (b0_0 : List ByteArray) (b0_1 : List (Int × ByteArray × Unit)) : Option R :=
  bif decide (v32 < v31) then
    bif decide (0 ≤ v32) then
      bif decide (v32 < nI (List.length v30)) then
        bif !m_impl_in (List.getD v30 (Int.toNat v32) (0, ByteArray.mk #[], ())).fst 0 (IntKind.wrap IntKind.i64 (nI (List.length b0_0) - 1)) then X1 (false, ())
        else bif nI (ByteArray.size (List.getD v30 (Int.toNat v32) (0, ByteArray.mk #[], ())).snd.fst) != 64 then X1 (false, ()) else NX (v30, v31, IntKind.wrap IntKind.i64 (v32 + 1), b0_0, b0_1, ())
      else none
    else none
  else X4 PUnit.unit
noncomputable def lo_impl_ValidDisk_11 : Nat → (List (Int × ByteArray × Unit)) → (Int) → (Int) → (List ByteArray) → (List (Int × ByteArray × Unit)) →  Option ((Unit) ⊕ ((Bool) × Unit))
  | 0, _, _, _, _, _ => none
  | m + 1, v30, v31, v32, b0_0, b0_1 => tr_impl_ValidDisk_11  (fun d => lo_impl_ValidDisk_11 m d.1 d.2.1 d.2.2.1 d.2.2.2.1 d.2.2.2.2.1) (fun d => some (.inl (d))) (fun d => some (.inr (d))) v30 v31 v32 b0_0 b0_1
theorem na_impl_ValidDisk_11 {R S : Type}  (NX : ((List (Int × ByteArray × Unit)) × (Int) × (Int) × (List ByteArray) × (List (Int × ByteArray × Unit)) × Unit) → Option R) (X4 : (Unit) → Option R) (X1 : ((Bool) × Unit) → Option R) (v30 : List (Int × ByteArray × Unit)) (v31 : Int) (v32 : Int) (b0_0 : List ByteArray) (b0_1 : List (Int × ByteArray × Unit)) (f : R → Option S) : tr_impl_ValidDisk_11  (fun d => (NX d).bind f) (fun d => (X4 d).bind f) (fun d => (X1 d).bind f) v30 v31 v32 b0_0 b0_1 = (tr_impl_ValidDisk_11  NX X4 X1 v30 v31 v32 b0_0 b0_1).bind f := by
  unfold tr_impl_ValidDisk_11
  simp only [cond_bind, ite_bind, onSum_bind, Option.bind_assoc, Option.bind_none, Option.bind_some]
def fu_impl_ValidDisk_5 (v19 : List ByteArray) (v20 : Int) (v21 : Int) (b0_0 : List ByteArray) (b0_1 : List (Int × ByteArray × Unit)) : Nat := (v20 - v21).toNat + 1
noncomputable def tr_impl_ValidDisk_5 {R : Type}  (NX : ((List ByteArray) × (Int) × (Int) × (List ByteArray) × (List (Int × ByteArray × Unit)) × Unit) → Option R) (X2 : ((List ByteArray) × (List (Int × ByteArray × Unit)) × Unit) → Option R) (X1 : ((Bool) × Unit) → Option R) (v19 : List ByteArray) (v20 : Int) (v21 : Int) (b0_0 : List ByteArray) (b0_1 : List (Int × ByteArray × Unit)) : Option R :=
  bif decide (v21 < v20) then
    bif decide (0 ≤ v21) then
      bif decide (v21 < nI (List.length v19)) then
        bif nI (ByteArray.size (List.getD v19 (Int.toNat v21) (ByteArray.mk #[]))) != 64 then X1 (false, ()) else NX (v19, v20, IntKind.wrap IntKind.i64 (v21 + 1), b0_0, b0_1, ())
      else none
    else none
  else X2 (b0_0, b0_1, ())
noncomputable def lo_impl_ValidDisk_5 : Nat → (List ByteArray) → (Int) → (Int) → (List ByteArray) → (List (Int × ByteArray × Unit)) →  Option (((List ByteArray) × (List (Int × ByteArray × Unit)) × Unit) ⊕ ((Bool) × Unit))
  | 0, _, _, _, _, _ => none
  | m + 1, v19, v20, v21, b0_0, b0_1 => tr_impl_ValidDisk_5  (fun d => lo_impl_ValidDisk_5 m d.1 d.2.1 d.2.2.1 d.2.2.2.1 d.2.2.2.2.1) (fun d => some (.inl (d))) (fun d => some (.inr (d))) v19 v20 v21 b0_0 b0_1
theorem na_impl_ValidDisk_5 {R S : Type}  (NX : ((List ByteArray) × (Int) × (Int) × (List ByteArray) × (List (Int × ByteArray × Unit)) × Unit) → Option R) (X2 : ((List ByteArray) × (List (Int × ByteArray × Unit)) × Unit) → Option R) (X1 : ((Bool) × Unit) → Option R) (v19 : List ByteArray) (v20 : Int) (v21 : Int) (b0_0 : List ByteArray) (b0_1 : List (Int × ByteArray × Unit)) (f : R → Option S) : tr_impl_ValidDisk_5  (fun d => (NX d).bind f) (fun d => (X2 d).bind f) (fun d => (X1 d).bind f) v19 v20 v21 b0_0 b0_1 = (tr_impl_ValidDisk_5  NX X2 X1 v19 v20 v21 b0_0 b0_1).bind f := by
  unfold tr_impl_ValidDisk_5
  simp only [cond_bind, ite_bind, onSum_bind, Option.bind_assoc, Option.bind_none, Option.bind_some]
noncomputable def de_impl_ValidDisk (a0 : (List ByteArray) × (List (Int × ByteArray × Unit)) × Unit) : Option ((((Bool) × Unit) × (Unit))) :=
  bif !m_impl_in (nI (List.length a0.fst)) 8 200 then some ((false, ()), ())
  else
    bif decide (nI (List.length a0.snd.fst) > 300) then some ((false, ()), ())
    else
      Option.bind ((fun d => lo_impl_ValidDisk_5 (fu_impl_ValidDisk_5 d.1 d.2.1 d.2.2.1 d.2.2.2.1 d.2.2.2.2.1) d.1 d.2.1 d.2.2.1 d.2.2.2.1 d.2.2.2.2.1) (a0.fst, nI (List.length a0.fst), 0, a0.fst, a0.snd.fst, ())) fun val =>
        onSum
          (fun val =>
            Option.bind ((fun d => lo_impl_ValidDisk_11 (fu_impl_ValidDisk_11 d.1 d.2.1 d.2.2.1 d.2.2.2.1 d.2.2.2.2.1) d.1 d.2.1 d.2.2.1 d.2.2.2.1 d.2.2.2.2.1) (val.snd.fst, nI (List.length val.snd.fst), 0, val.fst, val.snd.fst, ())) fun val => onSum (fun val => some ((true, ()), ())) (fun val => some ((val.fst, ()), ())) val)
          (fun val => some ((val.fst, ()), ())) val
theorem eq_impl_ValidDisk (a0 : Dk) : de_impl_ValidDisk a0 = some ((m_impl_ValidDisk a0, ()), ()) := by
  unfold de_impl_ValidDisk m_impl_ValidDisk validDisk
  have c1 : decide (nI a0.2.1.length > 300) = !decide (a0.2.1.length ≤ 300) := gt100 _ 300
  rw [c1]
  show (bif !inB (a0.1.length : Int) 8 200 then _ else _) = _
  cases hin : inB (a0.1.length : Int) 8 200 with
  | false => rfl
  | true =>
    have hlen : a0.1.length ≤ 200 := by have := of_decide_eq_true (and2 hin).2; omega
    by_cases hp : a0.2.1.length ≤ 300
    · rw [decide_eq_true hp]
      have hL := all_loop (n := a0.1.length) (fun i => decide ((a0.1.getD i z0).size = 64)) (g := fun m i => lo_impl_ValidDisk_5 m a0.1 (nI a0.1.length) i a0.1 a0.2.1) (ok := .inl (a0.1, a0.2.1, ())) (bad := .inr (false, ())) (fun m i hi => by
        show lo_impl_ValidDisk_5 (m + 1) a0.1 (nI a0.1.length) i a0.1 a0.2.1 = _
        simp only [lo_impl_ValidDisk_5, tr_impl_ValidDisk_5]
        have g1 : (nI (ByteArray.size (List.getD a0.1 i (ByteArray.mk #[]))) != 64) = !decide ((a0.1.getD i z0).size = 64) := ne64 _ 64
        rw [cLt hi, cLe0, wI (show i < 4611686018427387904 by omega), Int.toNat_natCast, g1]
        cases decide ((a0.1.getD i z0).size = 64) <;> rfl) (fun m => by
        show lo_impl_ValidDisk_5 (m + 1) a0.1 (nI a0.1.length) (a0.1.length : Int) a0.1 a0.2.1 = _
        simp only [lo_impl_ValidDisk_5, tr_impl_ValidDisk_5]
        rw [cLtF]
        rfl) (fu_impl_ValidDisk_5 a0.1 (nI a0.1.length) 0 a0.1 a0.2.1) 0 (by omega) (by simp [fu_impl_ValidDisk_5, nI])
      have hL' : lo_impl_ValidDisk_5 (fu_impl_ValidDisk_5 a0.1 (nI a0.1.length) 0 a0.1 a0.2.1) a0.1 (nI a0.1.length) 0 a0.1 a0.2.1 = _ := hL
      have hM := all_loop (n := a0.2.1.length) (fun i => okWr a0.1.length (a0.2.1.getD i zW)) (g := fun m i => lo_impl_ValidDisk_11 m a0.2.1 (nI a0.2.1.length) i a0.1 a0.2.1) (ok := .inl ()) (bad := .inr (false, ())) (fun m i hi => by
        show lo_impl_ValidDisk_11 (m + 1) a0.2.1 (nI a0.2.1.length) i a0.1 a0.2.1 = _
        simp only [lo_impl_ValidDisk_11, tr_impl_ValidDisk_11]
        have g1 : (nI (ByteArray.size (List.getD a0.2.1 i (0, ByteArray.mk #[], ())).2.1) != 64) = !decide ((a0.2.1.getD i zW).2.1.size = 64) := ne64 _ 64
        have hw : IntKind.wrap IntKind.i64 (nI a0.1.length - 1) = (a0.1.length : Int) - 1 := wrap_ok (by simp only [nI]; omega) (by simp only [nI]; omega)
        rw [cLt hi, cLe0, wI (show i < 4611686018427387904 by omega), Int.toNat_natCast, g1, hw]
        have g2 : m_impl_in (List.getD a0.2.1 i (0, ByteArray.mk #[], ())).1 0 ((a0.1.length : Int) - 1) = (decide (0 ≤ (a0.2.1.getD i zW).1) && decide ((a0.2.1.getD i zW).1 < (a0.1.length : Int))) := by
          show (decide (0 ≤ (a0.2.1.getD i zW).1) && decide ((a0.2.1.getD i zW).1 ≤ (a0.1.length : Int) - 1)) = _
          congr 1
          exact decide_eq_decide.2 (by omega)
        rw [g2]
        unfold okWr
        cases decide (0 ≤ (a0.2.1.getD i zW).1) <;> cases decide ((a0.2.1.getD i zW).1 < (a0.1.length : Int)) <;> cases decide ((a0.2.1.getD i zW).2.1.size = 64) <;> rfl) (fun m => by
        show lo_impl_ValidDisk_11 (m + 1) a0.2.1 (nI a0.2.1.length) (a0.2.1.length : Int) a0.1 a0.2.1 = _
        simp only [lo_impl_ValidDisk_11, tr_impl_ValidDisk_11]
        rw [cLtF]
        rfl) (fu_impl_ValidDisk_11 a0.2.1 (nI a0.2.1.length) 0 a0.1 a0.2.1) 0 (by omega) (by simp [fu_impl_ValidDisk_11, nI])
      have hM' : lo_impl_ValidDisk_11 (fu_impl_ValidDisk_11 a0.2.1 (nI a0.2.1.length) 0 a0.1 a0.2.1) a0.2.1 (nI a0.2.1.length) 0 a0.1 a0.2.1 = _ := hM
      show (lo_impl_ValidDisk_5 (fu_impl_ValidDisk_5 a0.1 (nI a0.1.length) 0 a0.1 a0.2.1) a0.1 (nI a0.1.length) 0 a0.1 a0.2.1).bind _ = _
      rw [hL']
      rw [Nat.sub_zero] at hM' ⊢
      cases (List.range' 0 a0.1.length).all (fun i => decide ((a0.1.getD i z0).size = 64)) with
      | false => rfl
      | true =>
        show (lo_impl_ValidDisk_11 (fu_impl_ValidDisk_11 a0.2.1 (nI a0.2.1.length) 0 a0.1 a0.2.1) a0.2.1 (nI a0.2.1.length) 0 a0.1 a0.2.1).bind _ = _
        rw [hM']
        cases (List.range' 0 a0.2.1.length).all (fun i => okWr a0.1.length (a0.2.1.getD i zW)) <;> rfl
    · rw [decide_eq_false hp]
      rfl
noncomputable def ou_impl_ValidDisk_5 {R : Type} (k : Kt R) : (((List ByteArray) × (List (Int × ByteArray × Unit)) × Unit) ⊕ ((Bool) × Unit)) → Option R := (onSum (fun d => k (.exit 0) (((pa_impl_ValidDisk 5).2 2).st d) (((pa_impl_ValidDisk 5).2 2).nid)) (fun d => k .ret (((pa_impl_ValidDisk 5).2 1).st d) (((pa_impl_ValidDisk 5).2 1).nid)))
noncomputable def ou_impl_ValidDisk_11 {R : Type} (k : Kt R) : ((Unit) ⊕ ((Bool) × Unit)) → Option R := (onSum (fun d => k (.exit 2) (((pa_impl_ValidDisk 11).2 4).st d) (((pa_impl_ValidDisk 11).2 4).nid)) (fun d => k .ret (((pa_impl_ValidDisk 11).2 1).st d) (((pa_impl_ValidDisk 11).2 1).nid)))
noncomputable def L_impl_ValidDisk {R : Type} : Lt R pa_impl_ValidDisk := (addL (pat := pa_impl_ValidDisk) 5 (fun d k => (lo_impl_ValidDisk_5 (fu_impl_ValidDisk_5 d.1 d.2.1 d.2.2.1 d.2.2.2.1 d.2.2.2.2.1) d.1 d.2.1 d.2.2.1 d.2.2.2.1 d.2.2.2.2.1).bind (ou_impl_ValidDisk_5 k)) (addL (pat := pa_impl_ValidDisk) 11 (fun d k => (lo_impl_ValidDisk_11 (fu_impl_ValidDisk_11 d.1 d.2.1 d.2.2.1 d.2.2.2.1 d.2.2.2.2.1) d.1 d.2.1 d.2.2.1 d.2.2.2.1 d.2.2.2.2.1).bind (ou_impl_ValidDisk_11 k)) noL))
theorem rd_impl_ValidDisk_11 {R : Type} (nx : (pa_impl_ValidDisk 11).1.D → Kt R → Option R) (k : Kt R) (v30 : List (Int × ByteArray × Unit)) (v31 : Int) (v32 : Int) (b0_0 : List ByteArray) (b0_1 : List (Int × ByteArray × Unit)) : ev Try.prog ⟨ta_impl_ValidDisk, 0, 51, pa_impl_ValidDisk⟩ L_impl_ValidDisk co_impl_ValidDisk_11 ((pa_impl_ValidDisk 11).1.st (v30, v31, v32, b0_0, b0_1, ())) (pa_impl_ValidDisk 11).1.nid (roundK 0 (pa_impl_ValidDisk 11) nx k) = tr_impl_ValidDisk_11  (fun d => nx d k) (fun d => k (.exit 2) (((pa_impl_ValidDisk 11).2 4).st d) (((pa_impl_ValidDisk 11).2 4).nid)) (fun d => k .ret (((pa_impl_ValidDisk 11).2 1).st d) (((pa_impl_ValidDisk 11).2 1).nid)) v30 v31 v32 b0_0 b0_1 := by kernel_rfl
theorem lp_impl_ValidDisk_11 {R : Type} : ∀ (m : Nat) (d : (pa_impl_ValidDisk 11).1.D) (k : Kt R), loopN 0 (pa_impl_ValidDisk 11) (fun s nid k => ev Try.prog ⟨ta_impl_ValidDisk, 0, 51, pa_impl_ValidDisk⟩ L_impl_ValidDisk co_impl_ValidDisk_11 s nid k) m d k = (lo_impl_ValidDisk_11 m d.1 d.2.1 d.2.2.1 d.2.2.2.1 d.2.2.2.2.1).bind (ou_impl_ValidDisk_11 k)
  | 0, _, _ => rfl
  | m + 1, ⟨v30, v31, v32, b0_0, b0_1, ⟨⟩⟩, k => (rd_impl_ValidDisk_11 _ k v30 v31 v32 b0_0 b0_1).trans ((congrArg (fun F => tr_impl_ValidDisk_11  F (fun d => k (.exit 2) (((pa_impl_ValidDisk 11).2 4).st d) (((pa_impl_ValidDisk 11).2 4).nid)) (fun d => k .ret (((pa_impl_ValidDisk 11).2 1).st d) (((pa_impl_ValidDisk 11).2 1).nid)) v30 v31 v32 b0_0 b0_1) (funext fun d => lp_impl_ValidDisk_11 m d k)).trans (na_impl_ValidDisk_11 (f := ou_impl_ValidDisk_11 k)  (fun d => lo_impl_ValidDisk_11 m d.1 d.2.1 d.2.2.1 d.2.2.2.1 d.2.2.2.2.1) (fun d => some (.inl (d))) (fun d => some (.inr (d))) v30 v31 v32 b0_0 b0_1))
theorem rd_impl_ValidDisk_5 {R : Type} (nx : (pa_impl_ValidDisk 5).1.D → Kt R → Option R) (k : Kt R) (v19 : List ByteArray) (v20 : Int) (v21 : Int) (b0_0 : List ByteArray) (b0_1 : List (Int × ByteArray × Unit)) : ev Try.prog ⟨ta_impl_ValidDisk, 0, 51, pa_impl_ValidDisk⟩ L_impl_ValidDisk co_impl_ValidDisk_5 ((pa_impl_ValidDisk 5).1.st (v19, v20, v21, b0_0, b0_1, ())) (pa_impl_ValidDisk 5).1.nid (roundK 0 (pa_impl_ValidDisk 5) nx k) = tr_impl_ValidDisk_5  (fun d => nx d k) (fun d => k (.exit 0) (((pa_impl_ValidDisk 5).2 2).st d) (((pa_impl_ValidDisk 5).2 2).nid)) (fun d => k .ret (((pa_impl_ValidDisk 5).2 1).st d) (((pa_impl_ValidDisk 5).2 1).nid)) v19 v20 v21 b0_0 b0_1 := by kernel_rfl
theorem lp_impl_ValidDisk_5 {R : Type} : ∀ (m : Nat) (d : (pa_impl_ValidDisk 5).1.D) (k : Kt R), loopN 0 (pa_impl_ValidDisk 5) (fun s nid k => ev Try.prog ⟨ta_impl_ValidDisk, 0, 51, pa_impl_ValidDisk⟩ L_impl_ValidDisk co_impl_ValidDisk_5 s nid k) m d k = (lo_impl_ValidDisk_5 m d.1 d.2.1 d.2.2.1 d.2.2.2.1 d.2.2.2.2.1).bind (ou_impl_ValidDisk_5 k)
  | 0, _, _ => rfl
  | m + 1, ⟨v19, v20, v21, b0_0, b0_1, ⟨⟩⟩, k => (rd_impl_ValidDisk_5 _ k v19 v20 v21 b0_0 b0_1).trans ((congrArg (fun F => tr_impl_ValidDisk_5  F (fun d => k (.exit 0) (((pa_impl_ValidDisk 5).2 2).st d) (((pa_impl_ValidDisk 5).2 2).nid)) (fun d => k .ret (((pa_impl_ValidDisk 5).2 1).st d) (((pa_impl_ValidDisk 5).2 1).nid)) v19 v20 v21 b0_0 b0_1) (funext fun d => lp_impl_ValidDisk_5 m d k)).trans (na_impl_ValidDisk_5 (f := ou_impl_ValidDisk_5 k)  (fun d => lo_impl_ValidDisk_5 m d.1 d.2.1 d.2.2.1 d.2.2.2.1 d.2.2.2.2.1) (fun d => some (.inl (d))) (fun d => some (.inr (d))) v19 v20 v21 b0_0 b0_1))
theorem en_impl_ValidDisk (a0 : (List ByteArray) × (List (Int × ByteArray × Unit)) × Unit) : evalF Try.prog ta_impl_ValidDisk pa_impl_ValidDisk sg_impl_ValidDisk Try.f109 L_impl_ValidDisk (a0, ()) = de_impl_ValidDisk a0 := by kernel_rfl
theorem si_impl_ValidDisk : SigsOk Try.prog ta_impl_ValidDisk := SigsOk.of fun f sd h => by
  try dsimp only [Tb.of, ta_impl_ValidDisk] at h
  split at h
  · rename_i e; subst e; cases h; exact sn_impl_in
  cases h
theorem lk_impl_ValidDisk_11 {R : Type} : LoopOk Try.prog R 51 0 pa_impl_ValidDisk L_impl_ValidDisk co_impl_ValidDisk_11 :=
  loop_key (cfg := ⟨ta_impl_ValidDisk, 0, 51, pa_impl_ValidDisk⟩) (key := 11) (by kernel_rfl) (by kernel_rfl) si_impl_ValidDisk rfl rfl (fun d k r h => ⟨fu_impl_ValidDisk_11 d.1 d.2.1 d.2.2.1 d.2.2.2.1 d.2.2.2.2.1, (lp_impl_ValidDisk_11 _ d k).trans h⟩) (fun c hc => by rw [show loopsIn co_impl_ValidDisk_11 = [] from by kernel_rfl] at hc; cases hc)
theorem lk_impl_ValidDisk_5 {R : Type} : LoopOk Try.prog R 51 0 pa_impl_ValidDisk L_impl_ValidDisk co_impl_ValidDisk_5 :=
  loop_key (cfg := ⟨ta_impl_ValidDisk, 0, 51, pa_impl_ValidDisk⟩) (key := 5) (by kernel_rfl) (by kernel_rfl) si_impl_ValidDisk rfl rfl (fun d k r h => ⟨fu_impl_ValidDisk_5 d.1 d.2.1 d.2.2.1 d.2.2.2.1 d.2.2.2.2.1, (lp_impl_ValidDisk_5 _ d k).trans h⟩) (fun c hc => by rw [show loopsIn co_impl_ValidDisk_5 = [] from by kernel_rfl] at hc; cases hc)
theorem sn_impl_ValidDisk : Callable Try.prog 109 ∧ Sound Try.prog 109 sd_impl_ValidDisk.sg sd_impl_ValidDisk.den :=
  fn_loops (pat := pa_impl_ValidDisk) L_impl_ValidDisk (by kernel_rfl) si_impl_ValidDisk Try.func109 (by kernel_rfl) (by kernel_rfl) (fun c hc => by rw [show loopsIn (bodyOf Try.f109) = [co_impl_ValidDisk_5, co_impl_ValidDisk_11] from by kernel_rfl] at hc; simp only [List.mem_cons, List.not_mem_nil, or_false] at hc; rcases hc with rfl | rfl <;> first | exact lk_impl_ValidDisk_5 | exact lk_impl_ValidDisk_11) fun x r h => by
    obtain ⟨a0, ⟨⟩⟩ := x; rw [← h]; exact (en_impl_ValidDisk a0).trans (eq_impl_ValidDisk a0)
def m_impl_see (d : Dk) (a : Int) : Option ByteArray := if d.2.1.length ≤ 1099511627776 ∧ 0 ≤ a ∧ a < (d.1.length : Int) then some (seeD d a) else none
def fu_impl_see_3 (v1 : Int) (v5 : Int) (b0_0 : List ByteArray) (b0_1 : List (Int × ByteArray × Unit)) : Nat := (v5 + 1).toNat + 1
def sg_impl_see : Sig := ⟨[.rd (.pair (.sl .str) (.pair (.sl (.pair (.int .i64) (.pair .str .unit))) .unit)), .rd (.int .i64)], [some 2, none], [.rd .str], [none]⟩
noncomputable def sd_impl_see : SD := ⟨sg_impl_see, fun x => (m_impl_see x.1 x.2.1).bind fun r => some ((r, ()), (()))⟩
noncomputable def ta_impl_see : Tb := Tb.of fun f => none
def pa_impl_see : Nat → Pat × (Nat → Pat) := fun k => if k = 3 then (⟨[.boxSl 2 0 .str, .boxSl 2 1 (.pair (.int .i64) (.pair .str .unit))], [(1, .lf (.d (.int .i64))), (2, .lf (.ptr 0 0)), (5, .lf (.d (.int .i64)))], [.box 47 [.d (.sl .str), .d (.sl (.pair (.int .i64) (.pair .str .unit)))]]⟩, fun e => if e = 1 then ⟨[], [(4, .lf (.d .str))], []⟩ else if e = 2 then ⟨[.boxSl 2 0 .str, .boxSl 2 1 (.pair (.int .i64) (.pair .str .unit))], [(1, .lf (.d (.int .i64))), (2, .lf (.ptr 0 0))], [.box 47 [.d (.sl .str), .d (.sl (.pair (.int .i64) (.pair .str .unit)))]]⟩ else ⟨[], [], []⟩) else (⟨[], [], []⟩, fun _ => ⟨[], [], []⟩)
noncomputable def co_impl_see_3 : Code := (loopsIn (bodyOf Try.f135)).getD 0 .skip
noncomputable def tr_impl_see_3 {R : Type}  (NX : ((Int) × (Int) × (List ByteArray) × (List (Int × ByteArray × Unit)) × Unit) → Option R) (X2 : ((Int) × (List ByteArray) × (List (Int × ByteArray × Unit)) × Unit) → Option R) (X1 : ((ByteArray) × Unit) → Option R) (v1 : Int) (v5 : Int) (b0_0 : List ByteArray) (b0_1 : List (Int × ByteArray × Unit)) : Option R :=
  bif decide (v5 ≥ 0) then
    bif decide (0 ≤ v5) then
      bif decide (v5 < nI (List.length b0_1)) then
        bif (List.getD b0_1 (Int.toNat v5) (0, ByteArray.mk #[], ())).fst == v1 then
          bif decide (0 ≤ v5) then bif decide (v5 < nI (List.length b0_1)) then X1 ((List.getD b0_1 (Int.toNat v5) (0, ByteArray.mk #[], ())).snd.fst, ()) else none else none
        else NX (v1, IntKind.wrap IntKind.i64 (v5 - 1), b0_0, b0_1, ())
      else none
    else none
  else X2 (v1, b0_0, b0_1, ())
noncomputable def lo_impl_see_3 : Nat → (Int) → (Int) → (List ByteArray) → (List (Int × ByteArray × Unit)) →  Option (((Int) × (List ByteArray) × (List (Int × ByteArray × Unit)) × Unit) ⊕ ((ByteArray) × Unit))
  | 0, _, _, _, _ => none
  | m + 1, v1, v5, b0_0, b0_1 => tr_impl_see_3  (fun d => lo_impl_see_3 m d.1 d.2.1 d.2.2.1 d.2.2.2.1) (fun d => some (.inl (d))) (fun d => some (.inr (d))) v1 v5 b0_0 b0_1
theorem na_impl_see_3 {R S : Type}  (NX : ((Int) × (Int) × (List ByteArray) × (List (Int × ByteArray × Unit)) × Unit) → Option R) (X2 : ((Int) × (List ByteArray) × (List (Int × ByteArray × Unit)) × Unit) → Option R) (X1 : ((ByteArray) × Unit) → Option R) (v1 : Int) (v5 : Int) (b0_0 : List ByteArray) (b0_1 : List (Int × ByteArray × Unit)) (f : R → Option S) : tr_impl_see_3  (fun d => (NX d).bind f) (fun d => (X2 d).bind f) (fun d => (X1 d).bind f) v1 v5 b0_0 b0_1 = (tr_impl_see_3  NX X2 X1 v1 v5 b0_0 b0_1).bind f := by
  unfold tr_impl_see_3
  simp only [cond_bind, ite_bind, onSum_bind, Option.bind_assoc, Option.bind_none, Option.bind_some]
noncomputable def de_impl_see (a0 : (List ByteArray) × (List (Int × ByteArray × Unit)) × Unit) (a1 : Int) : Option ((((ByteArray) × Unit) × (Unit))) :=
  Option.bind ((fun d => lo_impl_see_3 (fu_impl_see_3 d.1 d.2.1 d.2.2.1 d.2.2.2.1) d.1 d.2.1 d.2.2.1 d.2.2.2.1) (a1, IntKind.wrap IntKind.i64 (nI (List.length a0.snd.fst) - 1), a0.fst, a0.snd.fst, ())) fun val =>
    onSum
      (fun val =>
        bif decide (0 ≤ val.fst) then bif decide (val.fst < nI (List.length val.snd.fst)) then some ((List.getD val.snd.fst (Int.toNat val.fst) (ByteArray.mk #[]), ()), ()) else none else none)
      (fun val => some ((val.fst, ()), ())) val
theorem eq_impl_see (a0 : Dk) (a1 : Int) r (h : m_impl_see a0 a1 = some r) : de_impl_see a0 a1 = some ((r, ()), (())) := by
  unfold m_impl_see at h
  split at h
  · rename_i hc
    obtain ⟨hp, h0, h1⟩ := hc
    cases h
    have hw : IntKind.wrap IntKind.i64 (nI a0.2.1.length - 1) = (a0.2.1.length : Int) - 1 := wrap_ok (by simp only [nI]; omega) (by simp only [nI]; omega)
    have hL := rfind_loop (xs := a0.2.1) zW (fun w => w.1 == a1) (fun w => .inr (w.2.1, ())) (g := fun m i => lo_impl_see_3 m a1 i a0.1 a0.2.1) (ok := .inl (a1, a0.1, a0.2.1, ())) (fun m i hi => by
      show lo_impl_see_3 (m + 1) a1 i a0.1 a0.2.1 = _
      simp only [lo_impl_see_3, tr_impl_see_3]
      have hi0 : (i : Int) ≥ 0 := by omega
      have hw : IntKind.wrap IntKind.i64 ((i : Int) - 1) = (i : Int) - 1 := wrap_ok (by omega) (by omega)
      rw [decide_eq_true hi0, cLt hi, Int.toNat_natCast, hw]
      rfl) (fun m => by
      show lo_impl_see_3 (m + 1) a1 (-1) a0.1 a0.2.1 = _
      simp only [lo_impl_see_3, tr_impl_see_3]
      rfl) (fu_impl_see_3 a1 ((a0.2.1.length : Int) - 1) a0.1 a0.2.1) a0.2.1.length (by omega) (by simp [fu_impl_see_3])
    have hL' : lo_impl_see_3 (fu_impl_see_3 a1 ((a0.2.1.length : Int) - 1) a0.1 a0.2.1) a1 ((a0.2.1.length : Int) - 1) a0.1 a0.2.1 = _ := hL
    unfold de_impl_see
    rw [hw]
    show (lo_impl_see_3 (fu_impl_see_3 a1 ((a0.2.1.length : Int) - 1) a0.1 a0.2.1) a1 ((a0.2.1.length : Int) - 1) a0.1 a0.2.1).bind _ = _
    rw [hL', List.take_length]
    show onSum _ _ _ = _
    have hc1 : decide (0 ≤ a1) = true := decide_eq_true h0
    have hc2 : decide (a1 < nI a0.1.length) = true := decide_eq_true h1
    unfold seeD
    rw [findGo_map (onSum _ _), findGo_map (fun r : ByteArray => some ((r, ()), ()))]
    simp only [onSum, hc1, hc2, cond_true]
    rfl
  · cases h
noncomputable def ou_impl_see_3 {R : Type} (k : Kt R) : (((Int) × (List ByteArray) × (List (Int × ByteArray × Unit)) × Unit) ⊕ ((ByteArray) × Unit)) → Option R := (onSum (fun d => k (.exit 0) (((pa_impl_see 3).2 2).st d) (((pa_impl_see 3).2 2).nid)) (fun d => k .ret (((pa_impl_see 3).2 1).st d) (((pa_impl_see 3).2 1).nid)))
noncomputable def L_impl_see {R : Type} : Lt R pa_impl_see := (addL (pat := pa_impl_see) 3 (fun d k => (lo_impl_see_3 (fu_impl_see_3 d.1 d.2.1 d.2.2.1 d.2.2.2.1) d.1 d.2.1 d.2.2.1 d.2.2.2.1).bind (ou_impl_see_3 k)) noL)
theorem rd_impl_see_3 {R : Type} (nx : (pa_impl_see 3).1.D → Kt R → Option R) (k : Kt R) (v1 : Int) (v5 : Int) (b0_0 : List ByteArray) (b0_1 : List (Int × ByteArray × Unit)) : ev Try.prog ⟨ta_impl_see, 0, 33, pa_impl_see⟩ L_impl_see co_impl_see_3 ((pa_impl_see 3).1.st (v1, v5, b0_0, b0_1, ())) (pa_impl_see 3).1.nid (roundK 0 (pa_impl_see 3) nx k) = tr_impl_see_3  (fun d => nx d k) (fun d => k (.exit 0) (((pa_impl_see 3).2 2).st d) (((pa_impl_see 3).2 2).nid)) (fun d => k .ret (((pa_impl_see 3).2 1).st d) (((pa_impl_see 3).2 1).nid)) v1 v5 b0_0 b0_1 := by kernel_rfl
theorem lp_impl_see_3 {R : Type} : ∀ (m : Nat) (d : (pa_impl_see 3).1.D) (k : Kt R), loopN 0 (pa_impl_see 3) (fun s nid k => ev Try.prog ⟨ta_impl_see, 0, 33, pa_impl_see⟩ L_impl_see co_impl_see_3 s nid k) m d k = (lo_impl_see_3 m d.1 d.2.1 d.2.2.1 d.2.2.2.1).bind (ou_impl_see_3 k)
  | 0, _, _ => rfl
  | m + 1, ⟨v1, v5, b0_0, b0_1, ⟨⟩⟩, k => (rd_impl_see_3 _ k v1 v5 b0_0 b0_1).trans ((congrArg (fun F => tr_impl_see_3  F (fun d => k (.exit 0) (((pa_impl_see 3).2 2).st d) (((pa_impl_see 3).2 2).nid)) (fun d => k .ret (((pa_impl_see 3).2 1).st d) (((pa_impl_see 3).2 1).nid)) v1 v5 b0_0 b0_1) (funext fun d => lp_impl_see_3 m d k)).trans (na_impl_see_3 (f := ou_impl_see_3 k)  (fun d => lo_impl_see_3 m d.1 d.2.1 d.2.2.1 d.2.2.2.1) (fun d => some (.inl (d))) (fun d => some (.inr (d))) v1 v5 b0_0 b0_1))
theorem en_impl_see (a0 : (List ByteArray) × (List (Int × ByteArray × Unit)) × Unit) (a1 : Int) : evalF Try.prog ta_impl_see pa_impl_see sg_impl_see Try.f135 L_impl_see (a0, a1, ()) = de_impl_see a0 a1 := by kernel_rfl
theorem si_impl_see : SigsOk Try.prog ta_impl_see := SigsOk.of fun f sd h => by
  try dsimp only [Tb.of, ta_impl_see] at h
  cases h
theorem lk_impl_see_3 {R : Type} : LoopOk Try.prog R 33 0 pa_impl_see L_impl_see co_impl_see_3 :=
  loop_key (cfg := ⟨ta_impl_see, 0, 33, pa_impl_see⟩) (key := 3) (by kernel_rfl) (by kernel_rfl) si_impl_see rfl rfl (fun d k r h => ⟨fu_impl_see_3 d.1 d.2.1 d.2.2.1 d.2.2.2.1, (lp_impl_see_3 _ d k).trans h⟩) (fun c hc => by rw [show loopsIn co_impl_see_3 = [] from by kernel_rfl] at hc; cases hc)
theorem sn_impl_see : Callable Try.prog 135 ∧ Sound Try.prog 135 sd_impl_see.sg sd_impl_see.den :=
  fn_loops (pat := pa_impl_see) L_impl_see (by kernel_rfl) si_impl_see Try.func135 (by kernel_rfl) (by kernel_rfl) (fun c hc => by rw [show loopsIn (bodyOf Try.f135) = [co_impl_see_3] from by kernel_rfl] at hc; simp only [List.mem_cons, List.not_mem_nil, or_false] at hc; rcases hc with rfl <;> first | exact lk_impl_see_3) fun x r h => by
    obtain ⟨a0, a1, ⟨⟩⟩ := x; obtain ⟨y, h1, h2⟩ := Option.bind_eq_some_iff.1 (show (m_impl_see a0 a1).bind (fun r => some ((r, ()), (()))) = some r from h); cases h2; exact (en_impl_see a0 a1).trans (eq_impl_see a0 a1 _ h1)
def m_impl_Scan (d : Dk) (from_ size first life w : Int) : Scd := scanS d from_ size first life w
def sg_impl_Scan : Sig := ⟨[.rd (.pair (.sl .str) (.pair (.sl (.pair (.int .i64) (.pair .str .unit))) .unit)), .rd (.int .i64), .rd (.int .i64), .rd (.int .i64), .rd (.int .i64), .rd (.int .i64)], [some 2, none, none, none, none, none], [.own 9 .str, .rd (.int .i64), .rd (.int .i64)], [some 3]⟩
noncomputable def sd_impl_Scan : SD := ⟨sg_impl_Scan, fun x => some (((m_impl_Scan x.1 x.2.1 x.2.2.1 x.2.2.2.1 x.2.2.2.2.1 x.2.2.2.2.2.1).1, (m_impl_Scan x.1 x.2.1 x.2.2.1 x.2.2.2.1 x.2.2.2.2.1 x.2.2.2.2.2.1).2.1, (m_impl_Scan x.1 x.2.1 x.2.2.1 x.2.2.2.1 x.2.2.2.2.1 x.2.2.2.2.2.1).2.2.1, ()), (()))⟩
noncomputable def ta_impl_Scan : Tb := Tb.of fun f => if f = 80 then some sd_impl_ReadPage else if f = 98 then some sd_impl_in else if f = 109 then some sd_impl_ValidDisk else if f = 135 then some sd_impl_see else none
def pa_impl_Scan : Nat → Pat × (Nat → Pat) := fun k => if k = 9 then (⟨[.boxSl 6 0 .str, .boxSl 6 1 (.pair (.int .i64) (.pair .str .unit)), .boxRow 12 0 9 .str, .boxRow 13 0 9 .str], [(1, .lf (.d (.int .i64))), (2, .lf (.d (.int .i64))), (3, .lf (.d (.int .i64))), (5, .lf (.d (.int .i64))), (6, .lf (.ptr 0 0)), (12, .lf (.ptr 1 0)), (13, .lf (.ptr 2 0)), (14, .lf (.d .bool)), (15, .lf (.d .str)), (16, .lf (.d (.int .i64))), (17, .lf (.d (.int .i64)))], [.box 47 [.d (.sl .str), .d (.sl (.pair (.int .i64) (.pair .str .unit)))], .box 83 [.row 3, .d (.int .i64), .d (.int .i64)], .box 83 [.row 4, .d (.int .i64), .d (.int .i64)], .row 9 .str, .row 9 .str]⟩, fun e => if e = 2 then ⟨[.boxRow 12 0 9 .str, .boxRow 13 0 9 .str], [(12, .lf (.ptr 0 0)), (13, .lf (.ptr 1 0))], [.box 83 [.row 2, .d (.int .i64), .d (.int .i64)], .box 83 [.row 3, .d (.int .i64), .d (.int .i64)], .row 9 .str, .row 9 .str]⟩ else ⟨[], [], []⟩) else (⟨[], [], []⟩, fun _ => ⟨[], [], []⟩)
noncomputable def co_impl_Scan_9 : Code := (loopsIn (bodyOf Try.f54)).getD 0 .skip
def fu_impl_Scan_9 (v1 : Int) (v2 : Int) (v3 : Int) (v5 : Int) (v14 : Bool) (v15 : ByteArray) (v16 : Int) (v17 : Int) (b0_0 : List ByteArray) (b0_1 : List (Int × ByteArray × Unit)) (b1_1 : Int) (b1_2 : Int) (b2_1 : Int) (b2_2 : Int) (r3 : List ByteArray) (r4 : List ByteArray) : Nat := (v2 - v17).toNat + 1
noncomputable def tr_impl_Scan_9 {R : Type}  (NX : ((Int) × (Int) × (Int) × (Int) × (Bool) × (ByteArray) × (Int) × (Int) × (List ByteArray) × (List (Int × ByteArray × Unit)) × (Int) × (Int) × (Int) × (Int) × (List ByteArray) × (List ByteArray) × Unit) → Option R) (X2 : ((Int) × (Int) × (Int) × (Int) × (List ByteArray) × (List ByteArray) × Unit) → Option R) (v1 : Int) (v2 : Int) (v3 : Int) (v5 : Int) (v14 : Bool) (v15 : ByteArray) (v16 : Int) (v17 : Int) (b0_0 : List ByteArray) (b0_1 : List (Int × ByteArray × Unit)) (b1_1 : Int) (b1_2 : Int) (b2_1 : Int) (b2_2 : Int) (r3 : List ByteArray) (r4 : List ByteArray) : Option R :=
  bif decide (v17 < v2) then
    Option.bind (Option.bind (m_impl_see (b0_0, b0_1, ()) (IntKind.wrap IntKind.i64 (v1 + v17))) fun val => some ((val, ()), ())) fun val =>
      bif !(m_impl_ReadPage val.fst.fst v5).snd then X2 (b1_1, b1_2, b2_1, b2_2, r3, r4, ())
      else
        bif IntKind.wrap IntKind.i64 ((m_impl_ReadPage val.fst.fst v5).fst.snd.snd.fst - v17) != v3 then X2 (b1_1, b1_2, b2_1, b2_2, r3, r4, ())
        else
          bif decide ((m_impl_ReadPage val.fst.fst v5).fst.snd.fst < v16) then X2 (b1_1, b1_2, b2_1, b2_2, r3, r4, ())
          else
            bif v14 then
              bif (m_impl_ReadPage val.fst.fst v5).fst.snd.fst != v16 then X2 (b1_1, b1_2, b2_1, b2_2, r3, r4, ())
              else
                bif (m_impl_ReadPage val.fst.fst v5).fst.fst == 3 then X2 (b1_1, b1_2, b2_1, b2_2, r3, r4, ())
                else
                  bif (m_impl_ReadPage val.fst.fst v5).fst.fst == 4 then X2 (b1_1, b1_2, b2_1, b2_2, r3, r4, ())
                  else
                    bif (m_impl_ReadPage val.fst.fst v5).fst.fst == 1 then
                      bif decide (ByteArray.size v15 + ByteArray.size (m_impl_ReadPage val.fst.fst v5).fst.snd.snd.snd.fst ≤ 9223372036854775807) then
                        NX
                          (v1, v2, v3, v5, true, v15 ++ (m_impl_ReadPage val.fst.fst v5).fst.snd.snd.snd.fst, (m_impl_ReadPage val.fst.fst v5).fst.snd.fst, IntKind.wrap IntKind.i64 (v17 + 1), b0_0,
                            b0_1, b1_1, b1_2, b2_1, b2_2, r3, r4, ())
                      else none
                    else
                      bif (m_impl_ReadPage val.fst.fst v5).fst.fst == 2 then
                        bif decide (ByteArray.size v15 + ByteArray.size (m_impl_ReadPage val.fst.fst v5).fst.snd.snd.snd.fst ≤ 9223372036854775807) then
                          bif decide ((List.length r4 + List.length [v15 ++ (m_impl_ReadPage val.fst.fst v5).fst.snd.snd.snd.fst]) * 16 ≤ 140737488355328) then
                            NX
                              (v1, v2, v3, v5, false, ByteArray.mk #[], (m_impl_ReadPage val.fst.fst v5).fst.snd.fst, IntKind.wrap IntKind.i64 (v17 + 1), b0_0, b0_1, b1_1, b1_2,
                                IntKind.wrap IntKind.i64 (v17 + 1), (m_impl_ReadPage val.fst.fst v5).fst.snd.fst, r3, r4 ++ [v15 ++ (m_impl_ReadPage val.fst.fst v5).fst.snd.snd.snd.fst], ())
                          else none
                        else none
                      else
                        bif (m_impl_ReadPage val.fst.fst v5).fst.fst == 3 then
                          NX
                            (v1, v2, v3, v5, v14, v15, (m_impl_ReadPage val.fst.fst v5).fst.snd.fst, IntKind.wrap IntKind.i64 (v17 + 1), b0_0, b0_1, b1_1, b1_2, IntKind.wrap IntKind.i64 (v17 + 1),
                              (m_impl_ReadPage val.fst.fst v5).fst.snd.fst, r3, r4, ())
                        else NX (v1, v2, v3, v5, v14, v15, (m_impl_ReadPage val.fst.fst v5).fst.snd.fst, IntKind.wrap IntKind.i64 (v17 + 1), b0_0, b0_1, b1_1, b1_2, b2_1, b2_2, r3, r4, ())
            else
              bif (m_impl_ReadPage val.fst.fst v5).fst.fst == 4 then X2 (b1_1, b1_2, b2_1, b2_2, r3, r4, ())
              else
                bif (m_impl_ReadPage val.fst.fst v5).fst.fst == 1 then
                  bif decide (ByteArray.size v15 + ByteArray.size (m_impl_ReadPage val.fst.fst v5).fst.snd.snd.snd.fst ≤ 9223372036854775807) then
                    NX
                      (v1, v2, v3, v5, true, v15 ++ (m_impl_ReadPage val.fst.fst v5).fst.snd.snd.snd.fst, (m_impl_ReadPage val.fst.fst v5).fst.snd.fst, IntKind.wrap IntKind.i64 (v17 + 1), b0_0, b0_1,
                        b1_1, b1_2, b2_1, b2_2, r3, r4, ())
                  else none
                else
                  bif (m_impl_ReadPage val.fst.fst v5).fst.fst == 2 then
                    bif decide (ByteArray.size v15 + ByteArray.size (m_impl_ReadPage val.fst.fst v5).fst.snd.snd.snd.fst ≤ 9223372036854775807) then
                      bif decide ((List.length r4 + List.length [v15 ++ (m_impl_ReadPage val.fst.fst v5).fst.snd.snd.snd.fst]) * 16 ≤ 140737488355328) then
                        NX
                          (v1, v2, v3, v5, false, ByteArray.mk #[], (m_impl_ReadPage val.fst.fst v5).fst.snd.fst, IntKind.wrap IntKind.i64 (v17 + 1), b0_0, b0_1, b1_1, b1_2,
                            IntKind.wrap IntKind.i64 (v17 + 1), (m_impl_ReadPage val.fst.fst v5).fst.snd.fst, r3, r4 ++ [v15 ++ (m_impl_ReadPage val.fst.fst v5).fst.snd.snd.snd.fst], ())
                      else none
                    else none
                  else
                    bif (m_impl_ReadPage val.fst.fst v5).fst.fst == 3 then
                      NX
                        (v1, v2, v3, v5, v14, v15, (m_impl_ReadPage val.fst.fst v5).fst.snd.fst, IntKind.wrap IntKind.i64 (v17 + 1), b0_0, b0_1, b1_1, b1_2, IntKind.wrap IntKind.i64 (v17 + 1),
                          (m_impl_ReadPage val.fst.fst v5).fst.snd.fst, r3, r4, ())
                    else NX (v1, v2, v3, v5, v14, v15, (m_impl_ReadPage val.fst.fst v5).fst.snd.fst, IntKind.wrap IntKind.i64 (v17 + 1), b0_0, b0_1, b1_1, b1_2, b2_1, b2_2, r3, r4, ())
  else X2 (b1_1, b1_2, b2_1, b2_2, r3, r4, ())
noncomputable def lo_impl_Scan_9 : Nat → (Int) → (Int) → (Int) → (Int) → (Bool) → (ByteArray) → (Int) → (Int) → (List ByteArray) → (List (Int × ByteArray × Unit)) → (Int) → (Int) → (Int) → (Int) → (List ByteArray) → (List ByteArray) →  Option ((Int) × (Int) × (Int) × (Int) × (List ByteArray) × (List ByteArray) × Unit)
  | 0, _, _, _, _, _, _, _, _, _, _, _, _, _, _, _, _ => none
  | m + 1, v1, v2, v3, v5, v14, v15, v16, v17, b0_0, b0_1, b1_1, b1_2, b2_1, b2_2, r3, r4 => tr_impl_Scan_9  (fun d => lo_impl_Scan_9 m d.1 d.2.1 d.2.2.1 d.2.2.2.1 d.2.2.2.2.1 d.2.2.2.2.2.1 d.2.2.2.2.2.2.1 d.2.2.2.2.2.2.2.1 d.2.2.2.2.2.2.2.2.1 d.2.2.2.2.2.2.2.2.2.1 d.2.2.2.2.2.2.2.2.2.2.1 d.2.2.2.2.2.2.2.2.2.2.2.1 d.2.2.2.2.2.2.2.2.2.2.2.2.1 d.2.2.2.2.2.2.2.2.2.2.2.2.2.1 d.2.2.2.2.2.2.2.2.2.2.2.2.2.2.1 d.2.2.2.2.2.2.2.2.2.2.2.2.2.2.2.1) (fun d => some (d)) v1 v2 v3 v5 v14 v15 v16 v17 b0_0 b0_1 b1_1 b1_2 b2_1 b2_2 r3 r4
theorem na_impl_Scan_9 {R S : Type}  (NX : ((Int) × (Int) × (Int) × (Int) × (Bool) × (ByteArray) × (Int) × (Int) × (List ByteArray) × (List (Int × ByteArray × Unit)) × (Int) × (Int) × (Int) × (Int) × (List ByteArray) × (List ByteArray) × Unit) → Option R) (X2 : ((Int) × (Int) × (Int) × (Int) × (List ByteArray) × (List ByteArray) × Unit) → Option R) (v1 : Int) (v2 : Int) (v3 : Int) (v5 : Int) (v14 : Bool) (v15 : ByteArray) (v16 : Int) (v17 : Int) (b0_0 : List ByteArray) (b0_1 : List (Int × ByteArray × Unit)) (b1_1 : Int) (b1_2 : Int) (b2_1 : Int) (b2_2 : Int) (r3 : List ByteArray) (r4 : List ByteArray) (f : R → Option S) : tr_impl_Scan_9  (fun d => (NX d).bind f) (fun d => (X2 d).bind f) v1 v2 v3 v5 v14 v15 v16 v17 b0_0 b0_1 b1_1 b1_2 b2_1 b2_2 r3 r4 = (tr_impl_Scan_9  NX X2 v1 v2 v3 v5 v14 v15 v16 v17 b0_0 b0_1 b1_1 b1_2 b2_1 b2_2 r3 r4).bind f := by
  unfold tr_impl_Scan_9
  simp only [cond_bind, ite_bind, onSum_bind, Option.bind_assoc, Option.bind_none, Option.bind_some]
noncomputable def de_impl_Scan (a0 : (List ByteArray) × (List (Int × ByteArray × Unit)) × Unit) (a1 : Int) (a2 : Int) (a3 : Int) (a4 : Int) (a5 : Int) : Option ((((List ByteArray) × (Int) × (Int) × Unit) × (Unit))) :=
  bif !m_impl_ValidDisk (a0.fst, a0.snd.fst, ()) then some (([], 0, 0, ()), ())
  else
    bif !m_impl_in a5 1 8 then some (([], 0, 0, ()), ())
    else
      bif decide (a1 < 0) then some (([], 0, 0, ()), ())
      else
        bif decide (a2 < 0) then some (([], 0, 0, ()), ())
        else
          bif decide (a1 > nI (List.length a0.fst)) then some (([], 0, 0, ()), ())
          else
            bif decide (a2 > IntKind.wrap IntKind.i64 (nI (List.length a0.fst) - a1)) then some (([], 0, 0, ()), ())
            else
              Option.bind ((fun d => lo_impl_Scan_9 (fu_impl_Scan_9 d.1 d.2.1 d.2.2.1 d.2.2.2.1 d.2.2.2.2.1 d.2.2.2.2.2.1 d.2.2.2.2.2.2.1 d.2.2.2.2.2.2.2.1 d.2.2.2.2.2.2.2.2.1 d.2.2.2.2.2.2.2.2.2.1 d.2.2.2.2.2.2.2.2.2.2.1 d.2.2.2.2.2.2.2.2.2.2.2.1 d.2.2.2.2.2.2.2.2.2.2.2.2.1 d.2.2.2.2.2.2.2.2.2.2.2.2.2.1 d.2.2.2.2.2.2.2.2.2.2.2.2.2.2.1 d.2.2.2.2.2.2.2.2.2.2.2.2.2.2.2.1) d.1 d.2.1 d.2.2.1 d.2.2.2.1 d.2.2.2.2.1 d.2.2.2.2.2.1 d.2.2.2.2.2.2.1 d.2.2.2.2.2.2.2.1 d.2.2.2.2.2.2.2.2.1 d.2.2.2.2.2.2.2.2.2.1 d.2.2.2.2.2.2.2.2.2.2.1 d.2.2.2.2.2.2.2.2.2.2.2.1 d.2.2.2.2.2.2.2.2.2.2.2.2.1 d.2.2.2.2.2.2.2.2.2.2.2.2.2.1 d.2.2.2.2.2.2.2.2.2.2.2.2.2.2.1 d.2.2.2.2.2.2.2.2.2.2.2.2.2.2.2.1) (a1, a2, a3, a5, false, ByteArray.mk #[], a4, 0, a0.fst, a0.snd.fst, 0, 0, 0, a4, [], [], ())) fun val =>
                some ((val.snd.snd.snd.snd.snd.fst, val.snd.snd.fst, val.snd.snd.snd.fst, ()), ())
def outScanI (v : Int × Int × Int × Int × List ByteArray × List ByteArray × Unit) : Scd := (v.2.2.2.2.2.1, v.2.2.1, v.2.2.2.1, ())
theorem scanI_loop {d : Dk} (hd : DiskOk d) (f n : Nat) (hfn : f + n ≤ d.1.length) (first w b1 b2 : Int) (r3 : List ByteArray) : ∀ (k m i : Nat) (st : ScT), i + k = n → k < m → ScanI i st → (st.1 ≠ 1 → st.2.2.1 = z0) →
    ∃ y, lo_impl_Scan_9 m f n first w (st.1 == 1) st.2.2.1 st.2.1 i d.1 d.2.1 b1 b2 st.2.2.2.2.1 st.2.2.2.2.2 r3 st.2.2.2.1 = some y ∧ outScanI y = scanGo w first (seen d f i k) i st
  | 0, m + 1, i, st, hi, _, _, _ => by
    simp only [lo_impl_Scan_9, tr_impl_Scan_9]
    rw [decide_eq_false (show ¬ (i : Int) < (n : Int) by omega)]
    exact ⟨_, rfl, rfl⟩
  | k + 1, m + 1, i, st, hi, hm, hI, hz => by
    have h200 := hd.n200
    have e1 : IntKind.wrap IntKind.i64 ((f : Int) + (i : Int)) = (f : Int) + (i : Int) := wrap_ok (by omega) (by omega)
    have e2 : m_impl_see (d.1, d.2.1, ()) ((f : Int) + (i : Int)) = some (seeD d ((f : Int) + (i : Int))) := if_pos ⟨Nat.le_trans hd.p300 (by decide), by omega, by show _ < (d.1.length : Int); omega⟩
    have e4 : IntKind.wrap IntKind.i64 ((i : Int) + 1) = ((i + 1 : Nat) : Int) := wI (by omega)
    have es : seen d f i (k + 1) = seeD d ((f : Int) + (i : Int)) :: seen d f (i + 1) k := rfl
    simp only [lo_impl_Scan_9, tr_impl_Scan_9]
    rw [es, decide_eq_true (show (i : Int) < (n : Int) by omega)]
    simp only [e1, e2, e4, cond_true, Option.bind_some, m_impl_ReadPage]
    unfold scanGo scanOk
    generalize hx : seeD d ((f : Int) + (i : Int)) = x
    obtain ⟨p, ok, hR⟩ : ∃ p ok, readP x w = (p, ok) := ⟨_, _, rfl⟩
    simp only [hR]
    cases ok with
    | false => exact ⟨_, rfl, rfl⟩
    | true =>
      obtain ⟨q1, q2, q3⟩ := page_in hR
      have e5 : IntKind.wrap IntKind.i64 (p.2.2.1 - (i : Int)) = p.2.2.1 - (i : Int) := wrap_ok (by omega) (by omega)
      simp only [e5, Bool.not_true, cond_false, Bool.true_and, bne]
      cases hn : (p.2.2.1 - (i : Int) == first) with
      | false => exact ⟨_, rfl, rfl⟩
      | true =>
        simp only [Bool.not_true, cond_false, Bool.true_and]
        have hN := hI.next (p := p) (by omega) q3
        have e6 : decide (ByteArray.size st.2.2.1 + ByteArray.size p.2.2.2.1 ≤ 9223372036854775807) = true := decide_eq_true (by have := hI.2.1; omega)
        have e7 : decide ((List.length st.2.2.2.1 + 1) * 16 ≤ 140737488355328) = true := decide_eq_true (by have := hI.2.2; omega)
        simp only [e6, cond_true, List.length_singleton, e7]
        have ei : (i : Int) + 1 = ((i + 1 : Nat) : Int) := by omega
        have ih := fun hz => scanI_loop hd f n hfn first w b1 b2 r3 k m (i + 1) (scanNext i p st) (by omega) (by omega) hN hz
        unfold scanNext at ih ⊢
        unfold goesK
        rw [ei]
        rw [ei] at ih
        have hk : p.1 = 1 ∨ p.1 = 2 ∨ p.1 = 3 ∨ p.1 = 4 := by omega
        cases hlt : decide (p.2.1 < st.2.1) with
        | true => exact ⟨_, rfl, rfl⟩
        | false =>
          simp only [cond_false]
          have eqc : (p.2.1 == st.2.1) = (st.2.1 == p.2.1) := by
            by_cases q : p.2.1 = st.2.1
            · rw [q]
            · rw [beq_eq_false_iff_ne.2 q, beq_eq_false_iff_ne.2 (Ne.symm q)]
          rw [eqc]
          rcases hk with hp | hp | hp | hp
          · rw [hp] at ih ⊢
            have ih := ih (fun q => absurd rfl q)
            cases ho : (st.1 == 1) with
            | false =>
              have hb : (st.1 != 1) = true := by simp only [bne, ho, Bool.not_false]
              rw [hb]
              exact ih
            | true =>
              have hb : (st.1 != 1) = false := by simp only [bne, ho, Bool.not_true]
              rw [hb]
              cases (st.2.1 == p.2.1) with
              | false => exact ⟨_, rfl, rfl⟩
              | true => exact ih
          · rw [hp] at ih ⊢
            have ih := ih (fun _ => rfl)
            cases ho : (st.1 == 1) with
            | false =>
              have hb : (st.1 != 1) = true := by simp only [bne, ho, Bool.not_false]
              rw [hb]
              exact ih
            | true =>
              have hb : (st.1 != 1) = false := by simp only [bne, ho, Bool.not_true]
              rw [hb]
              cases (st.2.1 == p.2.1) with
              | false => exact ⟨_, rfl, rfl⟩
              | true => exact ih
          · rw [hp] at ih ⊢
            have ih := ih (fun _ => rfl)
            cases ho : (st.1 == 1) with
            | false =>
              have hb : (st.1 != 1) = true := by simp only [bne, ho, Bool.not_false]
              have hs := hz (fun q => by rw [q] at ho; cases ho)
              rw [hb, hs]
              exact ih
            | true =>
              have hb : (st.1 != 1) = false := by simp only [bne, ho, Bool.not_true]
              rw [hb]
              cases (st.2.1 == p.2.1) <;> exact ⟨_, rfl, rfl⟩
          · rw [hp]
            cases ho : (st.1 == 1) with
            | false => exact ⟨_, rfl, rfl⟩
            | true =>
              cases (st.2.1 == p.2.1) <;> exact ⟨_, rfl, rfl⟩
theorem eq_impl_Scan (a0 : (List ByteArray) × (List (Int × ByteArray × Unit)) × Unit) (a1 : Int) (a2 : Int) (a3 : Int) (a4 : Int) (a5 : Int) : de_impl_Scan a0 a1 a2 a3 a4 a5 = some (((m_impl_Scan a0 a1 a2 a3 a4 a5).1, (m_impl_Scan a0 a1 a2 a3 a4 a5).2.1, (m_impl_Scan a0 a1 a2 a3 a4 a5).2.2.1, ()), (())) := by
  unfold de_impl_Scan m_impl_Scan scanS
  show (bif !validDisk a0 then _ else bif !inB a5 1 8 then _ else _) = _
  cases hv : validDisk a0 with
  | false => rfl
  | true =>
    have hd := disk_ok hv
    cases hw : inB a5 1 8 with
    | false => rfl
    | true =>
      simp only [Bool.not_true, cond_false]
      have h200 := hd.n200
      by_cases h1 : a1 < 0
      · rw [decide_eq_true h1, decide_eq_false (show ¬ 0 ≤ a1 by omega)]; rfl
      · rw [decide_eq_false h1, decide_eq_true (show 0 ≤ a1 by omega)]
        by_cases h2 : a2 < 0
        · rw [decide_eq_true h2, decide_eq_false (show ¬ 0 ≤ a2 by omega)]; rfl
        · rw [decide_eq_false h2, decide_eq_true (show 0 ≤ a2 by omega)]
          by_cases h3 : a1 > nI a0.1.length
          · rw [decide_eq_true h3, decide_eq_false (show ¬ a1 ≤ (a0.1.length : Int) by simp only [nI] at h3; omega)]; rfl
          · have h3' : a1 ≤ (a0.1.length : Int) := by simp only [nI] at h3; omega
            rw [decide_eq_false h3, decide_eq_true h3']
            rw [wrap_ok (n := nI a0.1.length - a1) (by simp only [nI]; omega) (by simp only [nI]; omega)]
            by_cases h4 : a2 > nI a0.1.length - a1
            · rw [decide_eq_true h4, decide_eq_false (show ¬ a2 ≤ (a0.1.length : Int) - a1 by simp only [nI] at h4; omega)]; rfl
            · have h4' : a2 ≤ (a0.1.length : Int) - a1 := by simp only [nI] at h4; omega
              rw [decide_eq_false h4, decide_eq_true h4']
              simp only [cond_false, cond_true, Bool.true_and, Bool.and_self]
              obtain ⟨f, rfl⟩ : ∃ f : Nat, a1 = (f : Int) := ⟨a1.toNat, by omega⟩
              obtain ⟨n, rfl⟩ : ∃ n : Nat, a2 = (n : Int) := ⟨a2.toNat, by omega⟩
              have hfu : n < fu_impl_Scan_9 f n a3 a5 false (ByteArray.mk #[]) a4 0 a0.1 a0.2.1 0 0 0 a4 [] [] := by simp only [fu_impl_Scan_9]; omega
              obtain ⟨y, hy1, hy2⟩ := scanI_loop hd f n (by omega) a3 a5 0 0 [] n (fu_impl_Scan_9 f n a3 a5 false (ByteArray.mk #[]) a4 0 a0.1 a0.2.1 0 0 0 a4 [] []) 0 (0, a4, z0, [], 0, a4) (Nat.zero_add _) hfu (ScanI.zero _ _ _ _) (fun _ => rfl)
              show (lo_impl_Scan_9 (fu_impl_Scan_9 f n a3 a5 false (ByteArray.mk #[]) a4 0 a0.1 a0.2.1 0 0 0 a4 [] []) f n a3 a5 false (ByteArray.mk #[]) a4 0 a0.1 a0.2.1 0 0 0 a4 [] []).bind _ = _
              have hy1' : lo_impl_Scan_9 (fu_impl_Scan_9 f n a3 a5 false (ByteArray.mk #[]) a4 0 a0.1 a0.2.1 0 0 0 a4 [] []) f n a3 a5 false (ByteArray.mk #[]) a4 0 a0.1 a0.2.1 0 0 0 a4 [] [] = some y := hy1
              rw [hy1', Int.toNat_natCast]
              simp only [Option.bind_some]
              have hy3 : outScanI y = scanGo a5 a3 (seen a0 (f : Int) 0 n) 0 (0, a4, z0, [], 0, a4) := hy2
              rw [← hy3]
              rfl
noncomputable def ou_impl_Scan_9 {R : Type} (k : Kt R) : ((Int) × (Int) × (Int) × (Int) × (List ByteArray) × (List ByteArray) × Unit) → Option R := (fun d => k (.exit 0) (((pa_impl_Scan 9).2 2).st d) (((pa_impl_Scan 9).2 2).nid))
noncomputable def L_impl_Scan {R : Type} : Lt R pa_impl_Scan := (addL (pat := pa_impl_Scan) 9 (fun d k => (lo_impl_Scan_9 (fu_impl_Scan_9 d.1 d.2.1 d.2.2.1 d.2.2.2.1 d.2.2.2.2.1 d.2.2.2.2.2.1 d.2.2.2.2.2.2.1 d.2.2.2.2.2.2.2.1 d.2.2.2.2.2.2.2.2.1 d.2.2.2.2.2.2.2.2.2.1 d.2.2.2.2.2.2.2.2.2.2.1 d.2.2.2.2.2.2.2.2.2.2.2.1 d.2.2.2.2.2.2.2.2.2.2.2.2.1 d.2.2.2.2.2.2.2.2.2.2.2.2.2.1 d.2.2.2.2.2.2.2.2.2.2.2.2.2.2.1 d.2.2.2.2.2.2.2.2.2.2.2.2.2.2.2.1) d.1 d.2.1 d.2.2.1 d.2.2.2.1 d.2.2.2.2.1 d.2.2.2.2.2.1 d.2.2.2.2.2.2.1 d.2.2.2.2.2.2.2.1 d.2.2.2.2.2.2.2.2.1 d.2.2.2.2.2.2.2.2.2.1 d.2.2.2.2.2.2.2.2.2.2.1 d.2.2.2.2.2.2.2.2.2.2.2.1 d.2.2.2.2.2.2.2.2.2.2.2.2.1 d.2.2.2.2.2.2.2.2.2.2.2.2.2.1 d.2.2.2.2.2.2.2.2.2.2.2.2.2.2.1 d.2.2.2.2.2.2.2.2.2.2.2.2.2.2.2.1).bind (ou_impl_Scan_9 k)) noL)
theorem rd_impl_Scan_9 {R : Type} (nx : (pa_impl_Scan 9).1.D → Kt R → Option R) (k : Kt R) (v1 : Int) (v2 : Int) (v3 : Int) (v5 : Int) (v14 : Bool) (v15 : ByteArray) (v16 : Int) (v17 : Int) (b0_0 : List ByteArray) (b0_1 : List (Int × ByteArray × Unit)) (b1_1 : Int) (b1_2 : Int) (b2_1 : Int) (b2_2 : Int) (r3 : List ByteArray) (r4 : List ByteArray) : ev Try.prog ⟨ta_impl_Scan, 0, 140, pa_impl_Scan⟩ L_impl_Scan co_impl_Scan_9 ((pa_impl_Scan 9).1.st (v1, v2, v3, v5, v14, v15, v16, v17, b0_0, b0_1, b1_1, b1_2, b2_1, b2_2, r3, r4, ())) (pa_impl_Scan 9).1.nid (roundK 0 (pa_impl_Scan 9) nx k) = tr_impl_Scan_9  (fun d => nx d k) (fun d => k (.exit 0) (((pa_impl_Scan 9).2 2).st d) (((pa_impl_Scan 9).2 2).nid)) v1 v2 v3 v5 v14 v15 v16 v17 b0_0 b0_1 b1_1 b1_2 b2_1 b2_2 r3 r4 := by kernel_rfl
theorem lp_impl_Scan_9 {R : Type} : ∀ (m : Nat) (d : (pa_impl_Scan 9).1.D) (k : Kt R), loopN 0 (pa_impl_Scan 9) (fun s nid k => ev Try.prog ⟨ta_impl_Scan, 0, 140, pa_impl_Scan⟩ L_impl_Scan co_impl_Scan_9 s nid k) m d k = (lo_impl_Scan_9 m d.1 d.2.1 d.2.2.1 d.2.2.2.1 d.2.2.2.2.1 d.2.2.2.2.2.1 d.2.2.2.2.2.2.1 d.2.2.2.2.2.2.2.1 d.2.2.2.2.2.2.2.2.1 d.2.2.2.2.2.2.2.2.2.1 d.2.2.2.2.2.2.2.2.2.2.1 d.2.2.2.2.2.2.2.2.2.2.2.1 d.2.2.2.2.2.2.2.2.2.2.2.2.1 d.2.2.2.2.2.2.2.2.2.2.2.2.2.1 d.2.2.2.2.2.2.2.2.2.2.2.2.2.2.1 d.2.2.2.2.2.2.2.2.2.2.2.2.2.2.2.1).bind (ou_impl_Scan_9 k)
  | 0, _, _ => rfl
  | m + 1, ⟨v1, v2, v3, v5, v14, v15, v16, v17, b0_0, b0_1, b1_1, b1_2, b2_1, b2_2, r3, r4, ⟨⟩⟩, k => (rd_impl_Scan_9 _ k v1 v2 v3 v5 v14 v15 v16 v17 b0_0 b0_1 b1_1 b1_2 b2_1 b2_2 r3 r4).trans ((congrArg (fun F => tr_impl_Scan_9  F (fun d => k (.exit 0) (((pa_impl_Scan 9).2 2).st d) (((pa_impl_Scan 9).2 2).nid)) v1 v2 v3 v5 v14 v15 v16 v17 b0_0 b0_1 b1_1 b1_2 b2_1 b2_2 r3 r4) (funext fun d => lp_impl_Scan_9 m d k)).trans (na_impl_Scan_9 (f := ou_impl_Scan_9 k)  (fun d => lo_impl_Scan_9 m d.1 d.2.1 d.2.2.1 d.2.2.2.1 d.2.2.2.2.1 d.2.2.2.2.2.1 d.2.2.2.2.2.2.1 d.2.2.2.2.2.2.2.1 d.2.2.2.2.2.2.2.2.1 d.2.2.2.2.2.2.2.2.2.1 d.2.2.2.2.2.2.2.2.2.2.1 d.2.2.2.2.2.2.2.2.2.2.2.1 d.2.2.2.2.2.2.2.2.2.2.2.2.1 d.2.2.2.2.2.2.2.2.2.2.2.2.2.1 d.2.2.2.2.2.2.2.2.2.2.2.2.2.2.1 d.2.2.2.2.2.2.2.2.2.2.2.2.2.2.2.1) (fun d => some (d)) v1 v2 v3 v5 v14 v15 v16 v17 b0_0 b0_1 b1_1 b1_2 b2_1 b2_2 r3 r4))
theorem en_impl_Scan (a0 : (List ByteArray) × (List (Int × ByteArray × Unit)) × Unit) (a1 : Int) (a2 : Int) (a3 : Int) (a4 : Int) (a5 : Int) : evalF Try.prog ta_impl_Scan pa_impl_Scan sg_impl_Scan Try.f54 L_impl_Scan (a0, a1, a2, a3, a4, a5, ()) = de_impl_Scan a0 a1 a2 a3 a4 a5 := by kernel_rfl
theorem si_impl_Scan : SigsOk Try.prog ta_impl_Scan := SigsOk.of fun f sd h => by
  try dsimp only [Tb.of, ta_impl_Scan] at h
  split at h
  · rename_i e; subst e; cases h; exact sn_impl_ReadPage
  split at h
  · rename_i e; subst e; cases h; exact sn_impl_in
  split at h
  · rename_i e; subst e; cases h; exact sn_impl_ValidDisk
  split at h
  · rename_i e; subst e; cases h; exact sn_impl_see
  cases h
theorem lk_impl_Scan_9 {R : Type} : LoopOk Try.prog R 140 0 pa_impl_Scan L_impl_Scan co_impl_Scan_9 :=
  loop_key (cfg := ⟨ta_impl_Scan, 0, 140, pa_impl_Scan⟩) (key := 9) (by kernel_rfl) (by kernel_rfl) si_impl_Scan rfl rfl (fun d k r h => ⟨fu_impl_Scan_9 d.1 d.2.1 d.2.2.1 d.2.2.2.1 d.2.2.2.2.1 d.2.2.2.2.2.1 d.2.2.2.2.2.2.1 d.2.2.2.2.2.2.2.1 d.2.2.2.2.2.2.2.2.1 d.2.2.2.2.2.2.2.2.2.1 d.2.2.2.2.2.2.2.2.2.2.1 d.2.2.2.2.2.2.2.2.2.2.2.1 d.2.2.2.2.2.2.2.2.2.2.2.2.1 d.2.2.2.2.2.2.2.2.2.2.2.2.2.1 d.2.2.2.2.2.2.2.2.2.2.2.2.2.2.1 d.2.2.2.2.2.2.2.2.2.2.2.2.2.2.2.1, (lp_impl_Scan_9 _ d k).trans h⟩) (fun c hc => by rw [show loopsIn co_impl_Scan_9 = [] from by kernel_rfl] at hc; cases hc)
theorem sn_impl_Scan : Callable Try.prog 54 ∧ Sound Try.prog 54 sd_impl_Scan.sg sd_impl_Scan.den :=
  fn_loops (pat := pa_impl_Scan) L_impl_Scan (by kernel_rfl) si_impl_Scan Try.func54 (by kernel_rfl) (by kernel_rfl) (fun c hc => by rw [show loopsIn (bodyOf Try.f54) = [co_impl_Scan_9] from by kernel_rfl] at hc; simp only [List.mem_cons, List.not_mem_nil, or_false] at hc; rcases hc with rfl <;> first | exact lk_impl_Scan_9) fun x r h => by
    obtain ⟨a0, a1, a2, a3, a4, a5, ⟨⟩⟩ := x; rw [← h]; exact (en_impl_Scan a0 a1 a2 a3 a4 a5).trans (eq_impl_Scan a0 a1 a2 a3 a4 a5)
def m_laws_eqScanned (a b : (List ByteArray) × Int × Int × Unit) : Option Bool := eqM (.pair (.sl .str) (.pair (.int .i64) (.pair (.int .i64) .unit))) a b
def sg_laws_eqScanned : Sig := ⟨[.rd (.pair (.sl .str) (.pair (.int .i64) (.pair (.int .i64) .unit))), .rd (.pair (.sl .str) (.pair (.int .i64) (.pair (.int .i64) .unit)))], [some 3, some 3], [.rd .bool], [none]⟩
noncomputable def sd_laws_eqScanned : SD := ⟨sg_laws_eqScanned, fun x => (m_laws_eqScanned x.1 x.2.1).bind fun r => some ((r, ()), (()))⟩
noncomputable def ta_laws_eqScanned : Tb := Tb.of fun f => if f = 111 then some sd_laws_eqStringS else none
def pa_laws_eqScanned : Nat → Pat × (Nat → Pat) := fun k => (⟨[], [], []⟩, fun _ => ⟨[], [], []⟩)
noncomputable def de_laws_eqScanned (a0 : (List ByteArray) × Int × Int × Unit) (a1 : (List ByteArray) × Int × Int × Unit) : Option ((((Bool) × Unit) × (Unit))) :=
  Option.bind (Option.bind (m_laws_eqStringS a0.fst a1.fst) fun val => some ((val, ()), ())) fun val =>
    bif !val.fst.fst then some ((false, ()), ())
    else bif a0.snd.fst != a1.snd.fst then some ((false, ()), ()) else bif a0.snd.snd.fst != a1.snd.snd.fst then some ((false, ()), ()) else some ((true, ()), ())
theorem eq_laws_eqScanned (a0 : (List ByteArray) × Int × Int × Unit) (a1 : (List ByteArray) × Int × Int × Unit) r (h : m_laws_eqScanned a0 a1 = some r) : de_laws_eqScanned a0 a1 = some ((r, ()), (())) := by
  obtain ⟨hc, hd, rfl⟩ := eqM_some (t := (.pair (.sl .str) (.pair (.int .i64) (.pair (.int .i64) .unit)))) h
  obtain ⟨hc0, hc1, hc2, _⟩ : fineB (.sl .str) a0.1 = true ∧ fineB (.int .i64) a0.2.1 = true ∧ fineB (.int .i64) a0.2.2.1 = true ∧ True := by
    have s := hc
    obtain ⟨h0, s⟩ := fineB_pair s
    obtain ⟨h1, s⟩ := fineB_pair s
    obtain ⟨h2, s⟩ := fineB_pair s
    exact ⟨h0, h1, h2, trivial⟩
  obtain ⟨hd0, hd1, hd2, _⟩ : fineB (.sl .str) a1.1 = true ∧ fineB (.int .i64) a1.2.1 = true ∧ fineB (.int .i64) a1.2.2.1 = true ∧ True := by
    have s := hd
    obtain ⟨h0, s⟩ := fineB_pair s
    obtain ⟨h1, s⟩ := fineB_pair s
    obtain ⟨h2, s⟩ := fineB_pair s
    exact ⟨h0, h1, h2, trivial⟩
  unfold de_laws_eqScanned
  have e0 : m_laws_eqStringS a0.1 a1.1 = some (eqB (.sl .str) a0.1 a1.1) := eqM_is (t := (.sl .str)) hc0 hd0
  have e1 : (a0.2.1 != a1.2.1) = !eqI a0.2.1 a1.2.1 := bneI _ _
  have e2 : (a0.2.2.1 != a1.2.2.1) = !eqI a0.2.2.1 a1.2.2.1 := bneI _ _
  simp only [e0, e1, e2, Option.bind_some]
  show _ = some (((eqB (.sl .str) a0.1 a1.1 && (eqI a0.2.1 a1.2.1 && (eqI a0.2.2.1 a1.2.2.1 && true))), ()), ())
  generalize eqB (.sl .str) a0.1 a1.1 = p0
  generalize eqI a0.2.1 a1.2.1 = p1
  generalize eqI a0.2.2.1 a1.2.2.1 = p2
  cases p0 <;> cases p1 <;> cases p2 <;> rfl
theorem en_laws_eqScanned (a0 : (List ByteArray) × Int × Int × Unit) (a1 : (List ByteArray) × Int × Int × Unit) : evalF Try.prog ta_laws_eqScanned pa_laws_eqScanned sg_laws_eqScanned Try.f55 noL (a0, a1, ()) = de_laws_eqScanned a0 a1 := by kernel_rfl
theorem si_laws_eqScanned : SigsOk Try.prog ta_laws_eqScanned := SigsOk.of fun f sd h => by
  try dsimp only [Tb.of, ta_laws_eqScanned] at h
  split at h
  · rename_i e; subst e; cases h; exact sn_laws_eqStringS
  cases h
theorem sn_laws_eqScanned : Callable Try.prog 55 ∧ Sound Try.prog 55 sd_laws_eqScanned.sg sd_laws_eqScanned.den :=
  fn_plain (pat := pa_laws_eqScanned) (by kernel_rfl) si_laws_eqScanned Try.func55 (by kernel_rfl) (by kernel_rfl) (by kernel_rfl) fun x r h => by
    obtain ⟨a0, a1, ⟨⟩⟩ := x; obtain ⟨y, h1, h2⟩ := Option.bind_eq_some_iff.1 (show (m_laws_eqScanned a0 a1).bind (fun r => some ((r, ()), (()))) = some r from h); cases h2; exact (en_laws_eqScanned a0 a1).trans (eq_laws_eqScanned a0 a1 _ h1)
def m_laws_markScanned (a : (List ByteArray) × Int × Int × Unit) (k : Int) : Option (Int × (List ByteArray)) := (markM .str a.1 k).bind fun r0 =>  some (r0.1, r0.2)
def sg_laws_markScanned : Sig := ⟨[.mu 9 .str, .rd (.int .i64), .rd (.int .i64), .rd (.int .i64)], [some 3, none], [.rd (.int .i64)], [none]⟩
noncomputable def sd_laws_markScanned : SD := ⟨sg_laws_markScanned, fun x => (m_laws_markScanned (x.1, x.2.1, x.2.2.1, ()) x.2.2.2.1).bind fun r => some ((r.1, ()), (r.2, ()))⟩
noncomputable def ta_laws_markScanned : Tb := Tb.of fun f => if f = 114 then some sd_laws_markStringS else none
def pa_laws_markScanned : Nat → Pat × (Nat → Pat) := fun k => (⟨[], [], []⟩, fun _ => ⟨[], [], []⟩)
noncomputable def de_laws_markScanned (a0 : List ByteArray) (a1 : Int) (a2 : Int) (a3 : Int) : Option ((((Int) × Unit) × ((List ByteArray) × Unit))) :=
  Option.bind (Option.bind (m_laws_markStringS a0 a3) fun val => some ((val.fst, ()), val.snd, ())) fun val => some ((val.fst.fst, ()), val.snd.fst, ())
theorem eq_laws_markScanned (a0 : List ByteArray) (a1 : Int) (a2 : Int) (a3 : Int) r (h : m_laws_markScanned (a0, a1, a2, ()) a3 = some r) : de_laws_markScanned a0 a1 a2 a3 = some ((r.1, ()), (r.2, ())) := by
  unfold m_laws_markScanned at h
  obtain ⟨⟨k0, x0⟩, e0, h⟩ := Option.bind_eq_some_iff.1 h
  have e0 : markM .str a0 a3 = some (k0, x0) := e0
  cases h
  unfold de_laws_markScanned
  have c0 : m_laws_markStringS a0 a3 = (some (k0, x0) : Option (Int × (List ByteArray))) := e0
  rw [c0]
  simp only [Option.bind_some]
  try rfl
theorem en_laws_markScanned (a0 : List ByteArray) (a1 : Int) (a2 : Int) (a3 : Int) : evalF Try.prog ta_laws_markScanned pa_laws_markScanned sg_laws_markScanned Try.f56 noL (a0, a1, a2, a3, ()) = de_laws_markScanned a0 a1 a2 a3 := by kernel_rfl
theorem si_laws_markScanned : SigsOk Try.prog ta_laws_markScanned := SigsOk.of fun f sd h => by
  try dsimp only [Tb.of, ta_laws_markScanned] at h
  split at h
  · rename_i e; subst e; cases h; exact sn_laws_markStringS
  cases h
theorem sn_laws_markScanned : Callable Try.prog 56 ∧ Sound Try.prog 56 sd_laws_markScanned.sg sd_laws_markScanned.den :=
  fn_plain (pat := pa_laws_markScanned) (by kernel_rfl) si_laws_markScanned Try.func56 (by kernel_rfl) (by kernel_rfl) (by kernel_rfl) fun x r h => by
    obtain ⟨a0, a1, a2, a3, ⟨⟩⟩ := x; obtain ⟨y, h1, h2⟩ := Option.bind_eq_some_iff.1 (show (m_laws_markScanned (a0, a1, a2, ()) a3).bind (fun r => some ((r.1, ()), (r.2, ()))) = some r from h); cases h2; exact (en_laws_markScanned a0 a1 a2 a3).trans (eq_laws_markScanned a0 a1 a2 a3 _ h1)
def m_laws_heldStringS (a : List ByteArray) (k : Int) : Option Int := heldM .str a k
def sg_laws_heldStringS : Sig := ⟨[.rd (.sl .str), .rd (.int .i64)], [none, none], [.rd (.int .i64)], [none]⟩
noncomputable def sd_laws_heldStringS : SD := ⟨sg_laws_heldStringS, fun x => (m_laws_heldStringS x.1 x.2.1).bind fun r => some ((r, ()), (()))⟩
noncomputable def ta_laws_heldStringS : Tb := Tb.of fun f => if f = 116 then some sd_laws_markText else none
def pa_laws_heldStringS : Nat → Pat × (Nat → Pat) := fun k => if k = 3 then (⟨[.sl 0 0 .str], [(0, .lf (.d (.sl .str))), (1, .lf (.d (.int .i64))), (5, .lf (.d (.int .i64)))], []⟩, fun e => if e = 1 then ⟨[], [(4, .lf (.d (.int .i64)))], []⟩ else if e = 2 then ⟨[], [(1, .lf (.d (.int .i64)))], []⟩ else ⟨[], [], []⟩) else (⟨[], [], []⟩, fun _ => ⟨[], [], []⟩)
noncomputable def co_laws_heldStringS_3 : Code := (loopsIn (bodyOf Try.f117)).getD 0 .skip
def fu_laws_heldStringS_3 (v0 : List ByteArray) (v1 : Int) (v5 : Int) : Nat := ((v0.length : Int) - v5).toNat + 1
noncomputable def tr_laws_heldStringS_3 {R : Type}  (NX : ((List ByteArray) × (Int) × (Int) × Unit) → Option R) (X2 : ((Int) × Unit) → Option R) (X1 : ((Int) × Unit) → Option R) (v0 : List ByteArray) (v1 : Int) (v5 : Int) : Option R :=
  bif decide (v5 < nI (List.length v0)) then
    bif decide (0 ≤ v5) then
      bif decide (v5 < nI (List.length v0)) then
        Option.bind (Option.bind (m_laws_markText v1) fun val => some ((val, ()), ())) fun val =>
          bif !ByteArray.toList (List.getD v0 (Int.toNat v5) (ByteArray.mk #[])) == ByteArray.toList val.fst.fst then X1 (-1, ())
          else NX (v0, IntKind.wrap IntKind.i64 (v1 + 1), IntKind.wrap IntKind.i64 (v5 + 1), ())
      else none
    else none
  else X2 (v1, ())
noncomputable def lo_laws_heldStringS_3 : Nat → (List ByteArray) → (Int) → (Int) →  Option (((Int) × Unit) ⊕ ((Int) × Unit))
  | 0, _, _, _ => none
  | m + 1, v0, v1, v5 => tr_laws_heldStringS_3  (fun d => lo_laws_heldStringS_3 m d.1 d.2.1 d.2.2.1) (fun d => some (.inl (d))) (fun d => some (.inr (d))) v0 v1 v5
theorem na_laws_heldStringS_3 {R S : Type}  (NX : ((List ByteArray) × (Int) × (Int) × Unit) → Option R) (X2 : ((Int) × Unit) → Option R) (X1 : ((Int) × Unit) → Option R) (v0 : List ByteArray) (v1 : Int) (v5 : Int) (f : R → Option S) : tr_laws_heldStringS_3  (fun d => (NX d).bind f) (fun d => (X2 d).bind f) (fun d => (X1 d).bind f) v0 v1 v5 = (tr_laws_heldStringS_3  NX X2 X1 v0 v1 v5).bind f := by
  unfold tr_laws_heldStringS_3
  simp only [cond_bind, ite_bind, onSum_bind, Option.bind_assoc, Option.bind_none, Option.bind_some]
noncomputable def de_laws_heldStringS (a0 : List ByteArray) (a1 : Int) : Option ((((Int) × Unit) × (Unit))) :=
  Option.bind ((fun d => lo_laws_heldStringS_3 (fu_laws_heldStringS_3 d.1 d.2.1 d.2.2.1) d.1 d.2.1 d.2.2.1) (a0, a1, 0, ())) fun val => onSum (fun val => some ((val.fst, ()), ())) (fun val => some ((val.fst, ()), ())) val
theorem eq_laws_heldStringS (a0 : List ByteArray) (a1 : Int) r (h : m_laws_heldStringS a0 a1 = some r) : de_laws_heldStringS a0 a1 = some ((r, ()), (())) := by
  obtain ⟨g0, g1, hl0, rfl⟩ := heldM_some (t := .str) h
  have hl : a0.length ≤ 1125899906842624 := hl0
  have hEE : (fun k : Int => (show ByteArray from (mkE .str k).1)) = (fun k : Int => mkT (k)) := funext fun k => by
    show mkT (k) = mkT (k)
    try simp only [Int.add_assoc, Int.add_zero]
    try rfl
  show _ = some ((if eqL (α := ByteArray) eqS a0 (gL (fun k : Int => (show ByteArray from (mkE .str k).1)) 1 a0.length a1) = true then a1 + (a0.length : Int) * 1 else -1, ()), ())
  rw [hEE]
  unfold de_laws_heldStringS
  have hL := held_loop (xs := a0) (ByteArray.mk #[]) eqS (fun k : Int => mkT (k)) 1 (K := 36028797018963000) (g := fun m k i => lo_laws_heldStringS_3 m a0 k i) (ok := fun k => .inl (k, ())) (bad := .inr (-1, ())) (fun m i k hi h1 hK => by
    show lo_laws_heldStringS_3 (m + 1) a0 k i = bif eqS (List.getD (α := ByteArray) a0 i (ByteArray.mk #[])) ((fun k : Int => mkT (k)) k) then lo_laws_heldStringS_3 m a0 (k + 1) ((i + 1 : Nat) : Int) else _
    have hK1 : k + 1 ≤ 36028797018963000 := by
      have : (1 : Int) ≤ (a0.length - i : Nat) := by omega
      omega
    have hE : eqS (List.getD (α := ByteArray) a0 i (ByteArray.mk #[])) ((fun k : Int => mkT (k)) k) = eqS (List.getD (α := ByteArray) a0 i (ByteArray.mk #[])) (mkT (k + 0)) := by
      try simp only [Int.add_zero]
      try rfl
    rw [hE, show lo_laws_heldStringS_3 (m + 1) a0 k i = lo_laws_heldStringS_3 (m + 1) a0 (k + 0) i from by rw [Int.add_zero]]
    have k0 : k = k + 0 := (Int.add_zero k).symm
    have t0 : m_laws_markText (k + 0) = some (mkT (k + 0)) := if_pos (by omega)
    have w0 : IntKind.wrap IntKind.i64 (k + 0 + 1) = k + 1 := by rw [wrap_ok (by omega) (by omega)]; omega
    have v0 : (!(ByteArray.toList (List.getD (α := ByteArray) a0 i (ByteArray.mk #[])) == ByteArray.toList (mkT (k + 0)))) = !eqS (List.getD (α := ByteArray) a0 i (ByteArray.mk #[])) (mkT (k + 0)) := rfl
    simp only [lo_laws_heldStringS_3, tr_laws_heldStringS_3]
    simp only [t0,  Option.bind_some, w0,  cLt hi, cLe0, wI (show i < 4611686018427387904 by omega), cond_true, Int.toNat_natCast, v0]
    generalize eqS (List.getD (α := ByteArray) a0 i (ByteArray.mk #[])) (mkT (k + 0)) = p0
    cases p0 <;> rfl) (fun m k => by
    show lo_laws_heldStringS_3 (m + 1) a0 k a0.length = _
    simp only [lo_laws_heldStringS_3, tr_laws_heldStringS_3]
    rw [cLtF]
    rfl) (fu_laws_heldStringS_3 a0 a1 0) 0 a1 (by omega) (by simp [fu_laws_heldStringS_3]) g0 (by omega)
  have hL' : lo_laws_heldStringS_3 (fu_laws_heldStringS_3 a0 a1 0) a0 a1 0 = _ := hL
  show (lo_laws_heldStringS_3 (fu_laws_heldStringS_3 a0 a1 0) a0 a1 0).bind _ = some ((if eqL (α := ByteArray) eqS a0 (gL (fun k : Int => mkT (k)) 1 a0.length a1) = true then a1 + (a0.length : Int) * 1 else -1, ()), ())
  rw [hL', List.drop_zero]
  cases eqL (α := ByteArray) eqS a0 (gL (fun k : Int => mkT (k)) 1 a0.length a1) <;> rfl
noncomputable def ou_laws_heldStringS_3 {R : Type} (k : Kt R) : (((Int) × Unit) ⊕ ((Int) × Unit)) → Option R := (onSum (fun d => k (.exit 0) (((pa_laws_heldStringS 3).2 2).st d) (((pa_laws_heldStringS 3).2 2).nid)) (fun d => k .ret (((pa_laws_heldStringS 3).2 1).st d) (((pa_laws_heldStringS 3).2 1).nid)))
noncomputable def L_laws_heldStringS {R : Type} : Lt R pa_laws_heldStringS := (addL (pat := pa_laws_heldStringS) 3 (fun d k => (lo_laws_heldStringS_3 (fu_laws_heldStringS_3 d.1 d.2.1 d.2.2.1) d.1 d.2.1 d.2.2.1).bind (ou_laws_heldStringS_3 k)) noL)
theorem rd_laws_heldStringS_3 {R : Type} (nx : (pa_laws_heldStringS 3).1.D → Kt R → Option R) (k : Kt R) (v0 : List ByteArray) (v1 : Int) (v5 : Int) : ev Try.prog ⟨ta_laws_heldStringS, 0, 22, pa_laws_heldStringS⟩ L_laws_heldStringS co_laws_heldStringS_3 ((pa_laws_heldStringS 3).1.st (v0, v1, v5, ())) (pa_laws_heldStringS 3).1.nid (roundK 0 (pa_laws_heldStringS 3) nx k) = tr_laws_heldStringS_3  (fun d => nx d k) (fun d => k (.exit 0) (((pa_laws_heldStringS 3).2 2).st d) (((pa_laws_heldStringS 3).2 2).nid)) (fun d => k .ret (((pa_laws_heldStringS 3).2 1).st d) (((pa_laws_heldStringS 3).2 1).nid)) v0 v1 v5 := by kernel_rfl
theorem lp_laws_heldStringS_3 {R : Type} : ∀ (m : Nat) (d : (pa_laws_heldStringS 3).1.D) (k : Kt R), loopN 0 (pa_laws_heldStringS 3) (fun s nid k => ev Try.prog ⟨ta_laws_heldStringS, 0, 22, pa_laws_heldStringS⟩ L_laws_heldStringS co_laws_heldStringS_3 s nid k) m d k = (lo_laws_heldStringS_3 m d.1 d.2.1 d.2.2.1).bind (ou_laws_heldStringS_3 k)
  | 0, _, _ => rfl
  | m + 1, ⟨v0, v1, v5, ⟨⟩⟩, k => (rd_laws_heldStringS_3 _ k v0 v1 v5).trans ((congrArg (fun F => tr_laws_heldStringS_3  F (fun d => k (.exit 0) (((pa_laws_heldStringS 3).2 2).st d) (((pa_laws_heldStringS 3).2 2).nid)) (fun d => k .ret (((pa_laws_heldStringS 3).2 1).st d) (((pa_laws_heldStringS 3).2 1).nid)) v0 v1 v5) (funext fun d => lp_laws_heldStringS_3 m d k)).trans (na_laws_heldStringS_3 (f := ou_laws_heldStringS_3 k)  (fun d => lo_laws_heldStringS_3 m d.1 d.2.1 d.2.2.1) (fun d => some (.inl (d))) (fun d => some (.inr (d))) v0 v1 v5))
theorem en_laws_heldStringS (a0 : List ByteArray) (a1 : Int) : evalF Try.prog ta_laws_heldStringS pa_laws_heldStringS sg_laws_heldStringS Try.f117 L_laws_heldStringS (a0, a1, ()) = de_laws_heldStringS a0 a1 := by kernel_rfl
theorem si_laws_heldStringS : SigsOk Try.prog ta_laws_heldStringS := SigsOk.of fun f sd h => by
  try dsimp only [Tb.of, ta_laws_heldStringS] at h
  split at h
  · rename_i e; subst e; cases h; exact sn_laws_markText
  cases h
theorem lk_laws_heldStringS_3 {R : Type} : LoopOk Try.prog R 22 0 pa_laws_heldStringS L_laws_heldStringS co_laws_heldStringS_3 :=
  loop_key (cfg := ⟨ta_laws_heldStringS, 0, 22, pa_laws_heldStringS⟩) (key := 3) (by kernel_rfl) (by kernel_rfl) si_laws_heldStringS rfl rfl (fun d k r h => ⟨fu_laws_heldStringS_3 d.1 d.2.1 d.2.2.1, (lp_laws_heldStringS_3 _ d k).trans h⟩) (fun c hc => by rw [show loopsIn co_laws_heldStringS_3 = [] from by kernel_rfl] at hc; cases hc)
theorem sn_laws_heldStringS : Callable Try.prog 117 ∧ Sound Try.prog 117 sd_laws_heldStringS.sg sd_laws_heldStringS.den :=
  fn_loops (pat := pa_laws_heldStringS) L_laws_heldStringS (by kernel_rfl) si_laws_heldStringS Try.func117 (by kernel_rfl) (by kernel_rfl) (fun c hc => by rw [show loopsIn (bodyOf Try.f117) = [co_laws_heldStringS_3] from by kernel_rfl] at hc; simp only [List.mem_cons, List.not_mem_nil, or_false] at hc; rcases hc with rfl <;> first | exact lk_laws_heldStringS_3) fun x r h => by
    obtain ⟨a0, a1, ⟨⟩⟩ := x; obtain ⟨y, h1, h2⟩ := Option.bind_eq_some_iff.1 (show (m_laws_heldStringS a0 a1).bind (fun r => some ((r, ()), (()))) = some r from h); cases h2; exact (en_laws_heldStringS a0 a1).trans (eq_laws_heldStringS a0 a1 _ h1)
def m_laws_heldScanned (a : (List ByteArray) × Int × Int × Unit) (k : Int) : Option Int := (heldM .str a.1 k).bind fun r0 =>  some (if r0 < 0 then -1 else r0)
def sg_laws_heldScanned : Sig := ⟨[.rd (.pair (.sl .str) (.pair (.int .i64) (.pair (.int .i64) .unit))), .rd (.int .i64)], [some 3, none], [.rd (.int .i64)], [none]⟩
noncomputable def sd_laws_heldScanned : SD := ⟨sg_laws_heldScanned, fun x => (m_laws_heldScanned x.1 x.2.1).bind fun r => some ((r, ()), (()))⟩
noncomputable def ta_laws_heldScanned : Tb := Tb.of fun f => if f = 117 then some sd_laws_heldStringS else none
def pa_laws_heldScanned : Nat → Pat × (Nat → Pat) := fun k => (⟨[], [], []⟩, fun _ => ⟨[], [], []⟩)
noncomputable def de_laws_heldScanned (a0 : (List ByteArray) × Int × Int × Unit) (a1 : Int) : Option ((((Int) × Unit) × (Unit))) :=
  Option.bind (Option.bind (m_laws_heldStringS a0.fst a1) fun val => some ((val, ()), ())) fun val => bif decide (val.fst.fst < 0) then some ((-1, ()), ()) else some ((val.fst.fst, ()), ())
theorem eq_laws_heldScanned (a0 : (List ByteArray) × Int × Int × Unit) (a1 : Int) r (h : m_laws_heldScanned a0 a1 = some r) : de_laws_heldScanned a0 a1 = some ((r, ()), (())) := by
  unfold m_laws_heldScanned at h
  unfold de_laws_heldScanned
  obtain ⟨r0, e0, h⟩ := Option.bind_eq_some_iff.1 h
  have e0 : heldM .str a0.1 a1 = some r0 := e0
  simp only [m_laws_heldStringS]
  simp only [e0, Option.bind_some]
  by_cases q0 : r0 < 0
  · simp only [if_pos q0] at h; cases h; simp only [if_pos q0, decide_eq_true q0, cond_true, show decide ((-1 : Int) < 0) = true from rfl]
  · simp only [if_neg q0] at h; cases h; simp only [if_neg q0, decide_eq_false q0, cond_false]
theorem en_laws_heldScanned (a0 : (List ByteArray) × Int × Int × Unit) (a1 : Int) : evalF Try.prog ta_laws_heldScanned pa_laws_heldScanned sg_laws_heldScanned Try.f57 noL (a0, a1, ()) = de_laws_heldScanned a0 a1 := by kernel_rfl
theorem si_laws_heldScanned : SigsOk Try.prog ta_laws_heldScanned := SigsOk.of fun f sd h => by
  try dsimp only [Tb.of, ta_laws_heldScanned] at h
  split at h
  · rename_i e; subst e; cases h; exact sn_laws_heldStringS
  cases h
theorem sn_laws_heldScanned : Callable Try.prog 57 ∧ Sound Try.prog 57 sd_laws_heldScanned.sg sd_laws_heldScanned.den :=
  fn_plain (pat := pa_laws_heldScanned) (by kernel_rfl) si_laws_heldScanned Try.func57 (by kernel_rfl) (by kernel_rfl) (by kernel_rfl) fun x r h => by
    obtain ⟨a0, a1, ⟨⟩⟩ := x; obtain ⟨y, h1, h2⟩ := Option.bind_eq_some_iff.1 (show (m_laws_heldScanned a0 a1).bind (fun r => some ((r, ()), (()))) = some r from h); cases h2; exact (en_laws_heldScanned a0 a1).trans (eq_laws_heldScanned a0 a1 _ h1)
def sg_laws_FnExactScan : Sig := ⟨[.rd (.pair (.sl .str) (.pair (.sl (.pair (.int .i64) (.pair .str .unit))) .unit)), .rd (.int .i64), .rd (.int .i64), .rd (.int .i64), .rd (.int .i64), .rd (.int .i64)], [some 2, none, none, none, none, none], [.rd .bool], [none]⟩
noncomputable def ta_laws_FnExactScan : Tb := Tb.of fun f => if f = 26 then some sd_laws_szDisk else if f = 29 then some sd_laws_toDisk else if f = 32 then some sd_laws_eqDisk else if f = 34 then some sd_laws_markDisk else if f = 53 then some sd_spec_Scan else if f = 54 then some sd_impl_Scan else if f = 55 then some sd_laws_eqScanned else if f = 56 then some sd_laws_markScanned else if f = 57 then some sd_laws_heldScanned else none
def pa_laws_FnExactScan : Nat → Pat × (Nat → Pat) := fun k => (⟨[], [], []⟩, fun _ => ⟨[], [], []⟩)
noncomputable def de_laws_FnExactScan (a0 : (List ByteArray) × (List (Int × ByteArray × Unit)) × Unit) (a1 : Int) (a2 : Int) (a3 : Int) (a4 : Int) (a5 : Int) : Option ((((Bool) × Unit) × (Unit))) :=
  Option.bind (Option.bind (m_laws_szDisk (a0.fst, a0.snd.fst, ()) 1048576) fun val => some ((val, ()), ())) fun val =>
    bif decide (val.fst.fst < 0) then some ((true, ()), ())
    else
      Option.bind (Option.bind (m_laws_toDisk (a0.fst, a0.snd.fst, ())) fun val => some ((val.fst, val.snd.fst, ()), ())) fun val =>
        Option.bind (Option.bind (m_laws_toDisk (a0.fst, a0.snd.fst, ())) fun val => some ((val.fst, val.snd.fst, ()), ())) fun val_1 =>
          Option.bind
            (Option.bind
              (m_laws_eqScanned
                ((m_impl_Scan (val_1.fst.fst, val_1.fst.snd.fst, ()) a1 a2 a3 a4 a5).fst, (m_impl_Scan (val_1.fst.fst, val_1.fst.snd.fst, ()) a1 a2 a3 a4 a5).snd.fst,
                  (m_impl_Scan (val_1.fst.fst, val_1.fst.snd.fst, ()) a1 a2 a3 a4 a5).snd.snd.fst, ())
                ((m_spec_Scan (val.fst.fst, val.fst.snd.fst, ()) a1 a2 a3 a4 a5).fst, (m_spec_Scan (val.fst.fst, val.fst.snd.fst, ()) a1 a2 a3 a4 a5).snd.fst,
                  (m_spec_Scan (val.fst.fst, val.fst.snd.fst, ()) a1 a2 a3 a4 a5).snd.snd.fst, ()))
              fun val => some ((val, ()), ()))
            fun val_2 =>
            bif !val_2.fst.fst then some ((false, ()), ())
            else
              Option.bind (Option.bind (m_laws_toDisk (a0.fst, a0.snd.fst, ())) fun val => some ((val.fst, val.snd.fst, ()), ())) fun val_3 =>
                Option.bind (Option.bind (m_laws_eqDisk (val_1.fst.fst, val_1.fst.snd.fst, ()) (val_3.fst.fst, val_3.fst.snd.fst, ())) fun val => some ((val, ()), ())) fun val_4 =>
                  bif !val_4.fst.fst then some ((false, ()), ())
                  else
                    Option.bind (Option.bind (m_laws_markDisk (val_1.fst.fst, val_1.fst.snd.fst, ()) 1) fun val => some ((val.fst, ()), val.snd.fst, val.snd.snd, ())) fun val_5 =>
                      bif decide (val_5.fst.fst < 0) then some ((false, ()), ())
                      else
                        Option.bind
                          (Option.bind
                            (m_laws_eqScanned
                              ((m_impl_Scan (val_1.fst.fst, val_1.fst.snd.fst, ()) a1 a2 a3 a4 a5).fst, (m_impl_Scan (val_1.fst.fst, val_1.fst.snd.fst, ()) a1 a2 a3 a4 a5).snd.fst,
                                (m_impl_Scan (val_1.fst.fst, val_1.fst.snd.fst, ()) a1 a2 a3 a4 a5).snd.snd.fst, ())
                              ((m_spec_Scan (val.fst.fst, val.fst.snd.fst, ()) a1 a2 a3 a4 a5).fst, (m_spec_Scan (val.fst.fst, val.fst.snd.fst, ()) a1 a2 a3 a4 a5).snd.fst,
                                (m_spec_Scan (val.fst.fst, val.fst.snd.fst, ()) a1 a2 a3 a4 a5).snd.snd.fst, ()))
                            fun val => some ((val, ()), ()))
                          fun val_6 =>
                          bif !val_6.fst.fst then some ((false, ()), ())
                          else
                            Option.bind
                              (Option.bind
                                (m_laws_markScanned
                                  ((m_impl_Scan (val_1.fst.fst, val_1.fst.snd.fst, ()) a1 a2 a3 a4 a5).fst, (m_impl_Scan (val_1.fst.fst, val_1.fst.snd.fst, ()) a1 a2 a3 a4 a5).snd.fst,
                                    (m_impl_Scan (val_1.fst.fst, val_1.fst.snd.fst, ()) a1 a2 a3 a4 a5).snd.snd.fst, ())
                                  1)
                                fun val => some ((val.fst, ()), val.snd, ()))
                              fun val_7 =>
                              Option.bind
                                (Option.bind
                                  (m_laws_heldScanned
                                    (val_7.snd.fst, (m_impl_Scan (val_1.fst.fst, val_1.fst.snd.fst, ()) a1 a2 a3 a4 a5).snd.fst,
                                      (m_impl_Scan (val_1.fst.fst, val_1.fst.snd.fst, ()) a1 a2 a3 a4 a5).snd.snd.fst, ())
                                    1)
                                  fun val => some ((val, ()), ()))
                                fun val_8 =>
                                bif decide (val_8.fst.fst < 0) then some ((false, ()), ())
                                else
                                  bif val_8.fst.fst != val_7.fst.fst then some ((false, ()), ())
                                  else
                                    Option.bind (Option.bind (m_laws_toDisk (a0.fst, a0.snd.fst, ())) fun val => some ((val.fst, val.snd.fst, ()), ())) fun val_9 =>
                                      Option.bind
                                        (Option.bind
                                          (m_laws_eqScanned
                                            ((m_impl_Scan (val_9.fst.fst, val_9.fst.snd.fst, ()) a1 a2 a3 a4 a5).fst, (m_impl_Scan (val_9.fst.fst, val_9.fst.snd.fst, ()) a1 a2 a3 a4 a5).snd.fst,
                                              (m_impl_Scan (val_9.fst.fst, val_9.fst.snd.fst, ()) a1 a2 a3 a4 a5).snd.snd.fst, ())
                                            ((m_spec_Scan (val.fst.fst, val.fst.snd.fst, ()) a1 a2 a3 a4 a5).fst, (m_spec_Scan (val.fst.fst, val.fst.snd.fst, ()) a1 a2 a3 a4 a5).snd.fst,
                                              (m_spec_Scan (val.fst.fst, val.fst.snd.fst, ()) a1 a2 a3 a4 a5).snd.snd.fst, ()))
                                          fun val => some ((val, ()), ()))
                                        fun val =>
                                        bif !val.fst.fst then some ((false, ()), ())
                                        else
                                          Option.bind
                                            (Option.bind
                                              (m_laws_heldScanned
                                                (val_7.snd.fst, (m_impl_Scan (val_1.fst.fst, val_1.fst.snd.fst, ()) a1 a2 a3 a4 a5).snd.fst,
                                                  (m_impl_Scan (val_1.fst.fst, val_1.fst.snd.fst, ()) a1 a2 a3 a4 a5).snd.snd.fst, ())
                                                1)
                                              fun val => some ((val, ()), ()))
                                            fun val =>
                                            bif decide (val.fst.fst < 0) then some ((false, ()), ()) else bif val.fst.fst != val_7.fst.fst then some ((false, ()), ()) else some ((true, ()), ())
noncomputable def sd_laws_FnExactScan : SD := ⟨sg_laws_FnExactScan, fun x => de_laws_FnExactScan x.1 x.2.1 x.2.2.1 x.2.2.2.1 x.2.2.2.2.1 x.2.2.2.2.2.1⟩
theorem law_FnExactScan (a0 : (List ByteArray) × (List (Int × ByteArray × Unit)) × Unit)  (a1 : Int)  (a2 : Int)  (a3 : Int)  (a4 : Int)  (a5 : Int) (h0 : FineD (.pair (.sl .str) (.pair (.sl (.pair (.int .i64) (.pair .str .unit))) .unit)) a0) (h1 : FineD (.int .i64) a1) (h2 : FineD (.int .i64) a2) (h3 : FineD (.int .i64) a3) (h4 : FineD (.int .i64) a4) (h5 : FineD (.int .i64) a5) : de_laws_FnExactScan a0 a1 a2 a3 a4 a5 = some ((true, ()), ()) := by
  have hf0 := fine_of h0
  have hf1 := fine_of h1
  have hf2 := fine_of h2
  have hf3 := fine_of h3
  have hf4 := fine_of h4
  have hf5 := fine_of h5
  unfold de_laws_FnExactScan
  rcases sz_cases (l0 := 1048576) hf0 (by first | decide | assumption) (by first | decide | assumption) (m := m_laws_szDisk (a0.fst, a0.snd.fst, ()) 1048576) rfl with e0 | ⟨l0, e0, g0, k0, s0, q0⟩
  · simp only [e0, Option.bind_some, lt_m1, cond_true, cond_false]
  · skip
    have t0 : m_laws_toDisk (a0.fst, a0.snd.fst, ()) = some (a0.fst, a0.snd.fst, ()) := toM_is (t := (.pair (.sl .str) (.pair (.sl (.pair (.int .i64) (.pair .str .unit))) .unit))) (x := a0) s0
    have u0 : m_laws_eqDisk (a0.fst, a0.snd.fst, ()) (a0.fst, a0.snd.fst, ()) = some true := eqM_self (t := (.pair (.sl .str) (.pair (.sl (.pair (.int .i64) (.pair .str .unit))) .unit))) (x := a0) hf0
    have gw : m_spec_Scan (a0.fst, a0.snd.fst, ()) a1 a2 a3 a4 a5 = m_impl_Scan (a0.fst, a0.snd.fst, ()) a1 a2 a3 a4 a5 := rfl
    have gg0 : goodB (.pair (.sl .str) (.pair (.int .i64) (.pair (.int .i64) .unit))) (m_impl_Scan (a0.fst, a0.snd.fst, ()) a1 a2 a3 a4 a5) = true := scanS_good _ _ _ _ _ _
    simp only [e0, q0, t0, u0, Option.bind_some, cond_false, gw]
    generalize m_impl_Scan (a0.fst, a0.snd.fst, ()) a1 a2 a3 a4 a5 = g at *
    have v0 : m_laws_eqScanned (g.fst, g.snd.fst, g.snd.snd.fst, ()) (g.fst, g.snd.fst, g.snd.snd.fst, ()) = some true := eqM_self (t := (.pair (.sl .str) (.pair (.int .i64) (.pair (.int .i64) .unit)))) (x := g) (good_fine gg0)
    have Lx0 := s0
    simp only [smallB, goodB, Bool.and_eq_true, decide_eq_true_eq, and_true, true_and] at Lx0
    obtain ⟨kx0_0, yx0_0, mx0_0, bx0_0, cx0_0, dx0_0⟩ : ∃ (k2 : Int) (ys : List (ByteArray)), markM .str a0.fst 1 = (some (k2, ys) : Option (Int × List (ByteArray))) ∧ 1 ≤ k2 ∧ k2 ≤ 1 + 1073741824 * ((1 : Nat) : Int) ∧ heldM .str ys 1 = some k2 := mk_ex (t := .str) (xs := a0.fst) (k := 1) 1 rfl (by omega) (by omega) (by omega)
    obtain ⟨kx0_1, yx0_1, mx0_1, bx0_1, cx0_1, dx0_1⟩ : ∃ (k2 : Int) (ys : List (Int × ByteArray × Unit)), markM (.pair (.int .i64) (.pair .str .unit)) a0.snd.fst kx0_0 = (some (k2, ys) : Option (Int × List (Int × ByteArray × Unit))) ∧ kx0_0 ≤ k2 ∧ k2 ≤ kx0_0 + 1073741824 * ((2 : Nat) : Int) ∧ heldM (.pair (.int .i64) (.pair .str .unit)) ys kx0_0 = some k2 := mk_ex (t := (.pair (.int .i64) (.pair .str .unit))) (xs := a0.snd.fst) (k := kx0_0) 2 rfl (by omega) (by omega) (by omega)
    have mkx0 : m_laws_markDisk (a0.fst, a0.snd.fst, ()) 1 = some (kx0_1, yx0_0, yx0_1) := bi_ mx0_0 (bi_ mx0_1 (rfl))
    have nkx : decide (kx0_1 < 0) = false := decide_eq_false (by omega)
    have Lz0 := gg0
    simp only [smallB, goodB, Bool.and_eq_true, decide_eq_true_eq, and_true, true_and] at Lz0
    obtain ⟨kz0_0, yz0_0, mz0_0, bz0_0, cz0_0, dz0_0⟩ : ∃ (k2 : Int) (ys : List (ByteArray)), markM .str g.fst 1 = (some (k2, ys) : Option (Int × List (ByteArray))) ∧ 1 ≤ k2 ∧ k2 ≤ 1 + 1073741824 * ((1 : Nat) : Int) ∧ heldM .str ys 1 = some k2 := mk_ex (t := .str) (xs := g.fst) (k := 1) 1 rfl (by omega) (by omega) (by omega)
    have mkz0 : m_laws_markScanned (g.fst, g.snd.fst, g.snd.snd.fst, ()) 1 = some (kz0_0, yz0_0) := bi_ mz0_0 (rfl)
    have nnz0_0 : ¬ kz0_0 < 0 := by omega
    have hdz0 : m_laws_heldScanned (yz0_0, g.snd.fst, g.snd.snd.fst, ()) 1 = some kz0_0 := bi_ dz0_0 (congrArg some (if_neg nnz0_0))
    have nkz : decide (kz0_0 < 0) = false := decide_eq_false (by omega)
    simp only [e0, q0, t0, u0, v0, mkx0, nkx, mkz0, hdz0, nkz, Option.bind_some, cond_false, cond_true, beq_self_eq_true, bne_self_eq_false, Bool.not_true, Bool.or_self, Bool.false_or]
theorem en_laws_FnExactScan (a0 : (List ByteArray) × (List (Int × ByteArray × Unit)) × Unit) (a1 : Int) (a2 : Int) (a3 : Int) (a4 : Int) (a5 : Int) : evalF Try.prog ta_laws_FnExactScan pa_laws_FnExactScan sg_laws_FnExactScan Try.f9 noL (a0, a1, a2, a3, a4, a5, ()) = de_laws_FnExactScan a0 a1 a2 a3 a4 a5 := by kernel_rfl
theorem si_laws_FnExactScan : SigsOk Try.prog ta_laws_FnExactScan := SigsOk.of fun f sd h => by
  try dsimp only [Tb.of, ta_laws_FnExactScan] at h
  split at h
  · rename_i e; subst e; cases h; exact sn_laws_szDisk
  split at h
  · rename_i e; subst e; cases h; exact sn_laws_toDisk
  split at h
  · rename_i e; subst e; cases h; exact sn_laws_eqDisk
  split at h
  · rename_i e; subst e; cases h; exact sn_laws_markDisk
  split at h
  · rename_i e; subst e; cases h; exact sn_spec_Scan
  split at h
  · rename_i e; subst e; cases h; exact sn_impl_Scan
  split at h
  · rename_i e; subst e; cases h; exact sn_laws_eqScanned
  split at h
  · rename_i e; subst e; cases h; exact sn_laws_markScanned
  split at h
  · rename_i e; subst e; cases h; exact sn_laws_heldScanned
  cases h
theorem sn_laws_FnExactScan : Callable Try.prog 9 ∧ Sound Try.prog 9 sd_laws_FnExactScan.sg sd_laws_FnExactScan.den :=
  fn_plain (pat := pa_laws_FnExactScan) (by kernel_rfl) si_laws_FnExactScan Try.func9 (by kernel_rfl) (by kernel_rfl) (by kernel_rfl) fun x r h => by
    obtain ⟨a0, a1, a2, a3, a4, a5, ⟨⟩⟩ := x; exact (en_laws_FnExactScan a0 a1 a2 a3 a4 a5).trans h
end Go.Proofs.Ytjoiklaecelalaa.V
