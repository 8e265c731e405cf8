/- What the functions that FnExactPerform reaches come to: part 1. No condition. -/
import Derived.Test.YtjoiklaecelalaaQBase
import Derived.Test.YtjoiklaecelalaaTLay
import Derived.Test.YtjoiklaecelalaaProg
import Derived.Test.YtjoiklaecelalaaQS
import Derived.KernelRfl
namespace Go.Proofs.Ytjoiklaecelalaa.V
open Go Go.Proofs.Ytjoiklaecelalaa.R Go.Proofs
set_option maxRecDepth 100000
set_option linter.unusedVariables false
set_option linter.unusedSimpArgs false
def m_laws_szStringS (a : List ByteArray) (left : Int) : Option Int := szM (.sl .str) a left
def sg_laws_szStringS : Sig := ⟨[.rd (.sl .str), .rd (.int .i64)], [none, none], [.rd (.int .i64)], [none]⟩
noncomputable def sd_laws_szStringS : SD := ⟨sg_laws_szStringS, fun x => (m_laws_szStringS x.1 x.2.1).bind fun r => some ((r, ()), (()))⟩
noncomputable def ta_laws_szStringS : Tb := Tb.of fun f => none
def pa_laws_szStringS : Nat → Pat × (Nat → Pat) := fun k => if k = 6 then (⟨[.sl 0 0 .str], [(0, .lf (.d (.sl .str))), (1, .lf (.d (.int .i64))), (5, .lf (.d (.int .i64)))], []⟩, fun e => if e = 1 then ⟨[], [(4, .lf (.d (.int .i64)))], []⟩ else if e = 2 then ⟨[], [(1, .lf (.d (.int .i64)))], []⟩ else ⟨[], [], []⟩) else (⟨[], [], []⟩, fun _ => ⟨[], [], []⟩)
noncomputable def co_laws_szStringS_6 : Code := (loopsIn (bodyOf Try.f99)).getD 0 .skip
def fu_laws_szStringS_6 (v0 : List ByteArray) (v1 : Int) (v5 : Int) : Nat := ((v0.length : Int) - v5).toNat + 1
noncomputable def tr_laws_szStringS_6 {R : Type}  (NX : ((List ByteArray) × (Int) × (Int) × Unit) → Option R) (X2 : ((Int) × Unit) → Option R) (X1 : ((Int) × Unit) → Option R) (v0 : List ByteArray) (v1 : Int) (v5 : Int) : Option R :=
  bif decide (v5 < nI (List.length v0)) then
    bif decide (0 ≤ v5) then
      bif decide (v5 < nI (List.length v0)) then
        bif decide (IntKind.wrap IntKind.i64 (v1 - nI (ByteArray.size (List.getD v0 (Int.toNat v5) (ByteArray.mk #[])))) < 0) then X1 (-1, ())
        else NX (v0, IntKind.wrap IntKind.i64 (v1 - nI (ByteArray.size (List.getD v0 (Int.toNat v5) (ByteArray.mk #[])))), IntKind.wrap IntKind.i64 (v5 + 1), ())
      else none
    else none
  else X2 (v1, ())
noncomputable def lo_laws_szStringS_6 : Nat → (List ByteArray) → (Int) → (Int) →  Option (((Int) × Unit) ⊕ ((Int) × Unit))
  | 0, _, _, _ => none
  | m + 1, v0, v1, v5 => tr_laws_szStringS_6  (fun d => lo_laws_szStringS_6 m d.1 d.2.1 d.2.2.1) (fun d => some (.inl (d))) (fun d => some (.inr (d))) v0 v1 v5
theorem na_laws_szStringS_6 {R S : Type}  (NX : ((List ByteArray) × (Int) × (Int) × Unit) → Option R) (X2 : ((Int) × Unit) → Option R) (X1 : ((Int) × Unit) → Option R) (v0 : List ByteArray) (v1 : Int) (v5 : Int) (f : R → Option S) : tr_laws_szStringS_6  (fun d => (NX d).bind f) (fun d => (X2 d).bind f) (fun d => (X1 d).bind f) v0 v1 v5 = (tr_laws_szStringS_6  NX X2 X1 v0 v1 v5).bind f := by
  unfold tr_laws_szStringS_6
  simp only [cond_bind, ite_bind, onSum_bind, Option.bind_assoc, Option.bind_none, Option.bind_some]
noncomputable def de_laws_szStringS (a0 : List ByteArray) (a1 : Int) : Option ((((Int) × Unit) × (Unit))) :=
  bif decide (IntKind.wrap IntKind.i64 (a1 - nI (List.length a0)) < 0) then some ((-1, ()), ())
  else Option.bind ((fun d => lo_laws_szStringS_6 (fu_laws_szStringS_6 d.1 d.2.1 d.2.2.1) d.1 d.2.1 d.2.2.1) (a0, IntKind.wrap IntKind.i64 (a1 - nI (List.length a0)), 0, ())) fun val => onSum (fun val => some ((val.fst, ()), ())) (fun val => some ((val.fst, ()), ())) val
theorem eq_laws_szStringS (a0 : List ByteArray) (a1 : Int) r (h : m_laws_szStringS a0 a1 = some r) : de_laws_szStringS a0 a1 = some ((r, ()), (())) := by
  obtain ⟨hc, g0, g1, rfl⟩ := szM_some (t := .sl .str) h
  obtain ⟨hl0, hall⟩ := fineB_sl hc
  have hl : a0.length < 1152921504606846976 := hl0
  clear hl0 hc
  · unfold de_laws_szStringS
    have hw1 : IntKind.i64.wrap (a1 - nI a0.length) = a1 - (a0.length : Int) := wrap_ok (by simp only [nI]; omega) (by simp only [nI]; omega)
    rw [hw1]
    have hL := sz_loop (xs := a0) (ByteArray.mk #[]) ByteArray.size (g := fun m l i => lo_laws_szStringS_6 m a0 l i) (ok := fun l => .inl (l, ())) (bad := .inr (-1, ())) (fun m i l hi h0 h1 => by
      show lo_laws_szStringS_6 (m + 1) a0 l i = _
      simp only [lo_laws_szStringS_6, tr_laws_szStringS_6]
      rw [cLt hi, cLe0, wI (by omega)]
      simp only [cond_true, Int.toNat_natCast]
      have hf : ByteArray.size (List.getD (α := ByteArray) a0 i (ByteArray.mk #[])) < 1152921504606846976 := fineB_str (hall _ (getD_mem (ByteArray.mk #[]) hi))
      have hw : IntKind.i64.wrap (l - nI (ByteArray.size (List.getD (α := ByteArray) a0 i (ByteArray.mk #[])))) = l - (ByteArray.size (List.getD (α := ByteArray) a0 i (ByteArray.mk #[])) : Int) := wrap_ok (by simp only [nI]; omega) (by simp only [nI]; omega)
      simp only [hw]
    ) (fun m l => by
      show lo_laws_szStringS_6 (m + 1) a0 l a0.length = _
      simp only [lo_laws_szStringS_6, tr_laws_szStringS_6]
      rw [cLtF]
      rfl) (fu_laws_szStringS_6 a0 (a1 - (a0.length : Int)) 0) 0 (a1 - (a0.length : Int)) (by omega) (by simp [fu_laws_szStringS_6])
    have hW : wt (.sl .str) a0 = a0.length + (a0.map ByteArray.size).sum := rfl
    rw [hW]
    by_cases q : a1 - (a0.length : Int) < 0
    · simp only [decide_eq_true q, cond_true]; rw [if_pos (by omega)]
    · simp only [decide_eq_false q, cond_false]
      have hL := hL (by omega) (by omega)
      rw [List.drop_zero] at hL
      show (lo_laws_szStringS_6 (fu_laws_szStringS_6 a0 (a1 - (a0.length : Int)) 0) a0 (a1 - (a0.length : Int)) 0).bind _ = _
      have hL' : lo_laws_szStringS_6 (fu_laws_szStringS_6 a0 (a1 - (a0.length : Int)) 0) a0 (a1 - (a0.length : Int)) 0 = _ := hL
      rw [hL']
      have hsum : a1 - ((a0.length + (a0.map ByteArray.size).sum : Nat) : Int) = a1 - (a0.length : Int) - ((a0.map ByteArray.size).sum : Int) := by omega
      rw [hsum]
      by_cases q2 : a1 - (a0.length : Int) - ((a0.map ByteArray.size).sum : Int) < 0
      · simp only [if_pos q2]; rfl
      · simp only [if_neg q2]; rfl
noncomputable def ou_laws_szStringS_6 {R : Type} (k : Kt R) : (((Int) × Unit) ⊕ ((Int) × Unit)) → Option R := (onSum (fun d => k (.exit 0) (((pa_laws_szStringS 6).2 2).st d) (((pa_laws_szStringS 6).2 2).nid)) (fun d => k .ret (((pa_laws_szStringS 6).2 1).st d) (((pa_laws_szStringS 6).2 1).nid)))
noncomputable def L_laws_szStringS {R : Type} : Lt R pa_laws_szStringS := (addL (pat := pa_laws_szStringS) 6 (fun d k => (lo_laws_szStringS_6 (fu_laws_szStringS_6 d.1 d.2.1 d.2.2.1) d.1 d.2.1 d.2.2.1).bind (ou_laws_szStringS_6 k)) noL)
theorem rd_laws_szStringS_6 {R : Type} (nx : (pa_laws_szStringS 6).1.D → Kt R → Option R) (k : Kt R) (v0 : List ByteArray) (v1 : Int) (v5 : Int) : ev Try.prog ⟨ta_laws_szStringS, 0, 28, pa_laws_szStringS⟩ L_laws_szStringS co_laws_szStringS_6 ((pa_laws_szStringS 6).1.st (v0, v1, v5, ())) (pa_laws_szStringS 6).1.nid (roundK 0 (pa_laws_szStringS 6) nx k) = tr_laws_szStringS_6  (fun d => nx d k) (fun d => k (.exit 0) (((pa_laws_szStringS 6).2 2).st d) (((pa_laws_szStringS 6).2 2).nid)) (fun d => k .ret (((pa_laws_szStringS 6).2 1).st d) (((pa_laws_szStringS 6).2 1).nid)) v0 v1 v5 := by kernel_rfl
theorem lp_laws_szStringS_6 {R : Type} : ∀ (m : Nat) (d : (pa_laws_szStringS 6).1.D) (k : Kt R), loopN 0 (pa_laws_szStringS 6) (fun s nid k => ev Try.prog ⟨ta_laws_szStringS, 0, 28, pa_laws_szStringS⟩ L_laws_szStringS co_laws_szStringS_6 s nid k) m d k = (lo_laws_szStringS_6 m d.1 d.2.1 d.2.2.1).bind (ou_laws_szStringS_6 k)
  | 0, _, _ => rfl
  | m + 1, ⟨v0, v1, v5, ⟨⟩⟩, k => (rd_laws_szStringS_6 _ k v0 v1 v5).trans ((congrArg (fun F => tr_laws_szStringS_6  F (fun d => k (.exit 0) (((pa_laws_szStringS 6).2 2).st d) (((pa_laws_szStringS 6).2 2).nid)) (fun d => k .ret (((pa_laws_szStringS 6).2 1).st d) (((pa_laws_szStringS 6).2 1).nid)) v0 v1 v5) (funext fun d => lp_laws_szStringS_6 m d k)).trans (na_laws_szStringS_6 (f := ou_laws_szStringS_6 k)  (fun d => lo_laws_szStringS_6 m d.1 d.2.1 d.2.2.1) (fun d => some (.inl (d))) (fun d => some (.inr (d))) v0 v1 v5))
theorem en_laws_szStringS (a0 : List ByteArray) (a1 : Int) : evalF Try.prog ta_laws_szStringS pa_laws_szStringS sg_laws_szStringS Try.f99 L_laws_szStringS (a0, a1, ()) = de_laws_szStringS a0 a1 := by kernel_rfl
theorem si_laws_szStringS : SigsOk Try.prog ta_laws_szStringS := SigsOk.of fun f sd h => by
  try dsimp only [Tb.of, ta_laws_szStringS] at h
  cases h
theorem lk_laws_szStringS_6 {R : Type} : LoopOk Try.prog R 28 0 pa_laws_szStringS L_laws_szStringS co_laws_szStringS_6 :=
  loop_key (cfg := ⟨ta_laws_szStringS, 0, 28, pa_laws_szStringS⟩) (key := 6) (by kernel_rfl) (by kernel_rfl) si_laws_szStringS rfl rfl (fun d k r h => ⟨fu_laws_szStringS_6 d.1 d.2.1 d.2.2.1, (lp_laws_szStringS_6 _ d k).trans h⟩) (fun c hc => by rw [show loopsIn co_laws_szStringS_6 = [] from by kernel_rfl] at hc; cases hc)
theorem sn_laws_szStringS : Callable Try.prog 99 ∧ Sound Try.prog 99 sd_laws_szStringS.sg sd_laws_szStringS.den :=
  fn_loops (pat := pa_laws_szStringS) L_laws_szStringS (by kernel_rfl) si_laws_szStringS Try.func99 (by kernel_rfl) (by kernel_rfl) (fun c hc => by rw [show loopsIn (bodyOf Try.f99) = [co_laws_szStringS_6] from by kernel_rfl] at hc; simp only [List.mem_cons, List.not_mem_nil, or_false] at hc; rcases hc with rfl <;> first | exact lk_laws_szStringS_6) fun x r h => by
    obtain ⟨a0, a1, ⟨⟩⟩ := x; obtain ⟨y, h1, h2⟩ := Option.bind_eq_some_iff.1 (show (m_laws_szStringS a0 a1).bind (fun r => some ((r, ()), (()))) = some r from h); cases h2; exact (en_laws_szStringS a0 a1).trans (eq_laws_szStringS a0 a1 _ h1)
def m_laws_szWrite (a : Int × ByteArray × Unit) (left : Int) : Option Int := szM (.pair (.int .i64) (.pair .str .unit)) a left
def sg_laws_szWrite : Sig := ⟨[.rd (.pair (.int .i64) (.pair .str .unit)), .rd (.int .i64)], [some 2, none], [.rd (.int .i64)], [none]⟩
noncomputable def sd_laws_szWrite : SD := ⟨sg_laws_szWrite, fun x => (m_laws_szWrite x.1 x.2.1).bind fun r => some ((r, ()), (()))⟩
noncomputable def ta_laws_szWrite : Tb := Tb.of fun f => none
def pa_laws_szWrite : Nat → Pat × (Nat → Pat) := fun k => (⟨[], [], []⟩, fun _ => ⟨[], [], []⟩)
noncomputable def de_laws_szWrite (a0 : Int × ByteArray × Unit) (a1 : Int) : Option ((((Int) × Unit) × (Unit))) :=
  bif decide (IntKind.wrap IntKind.i64 (a1 - nI (ByteArray.size a0.snd.fst)) < 0) then some ((-1, ()), ()) else some ((IntKind.wrap IntKind.i64 (a1 - nI (ByteArray.size a0.snd.fst)), ()), ())
theorem eq_laws_szWrite (a0 : Int × ByteArray × Unit) (a1 : Int) r (h : m_laws_szWrite a0 a1 = some r) : de_laws_szWrite a0 a1 = some ((r, ()), (())) := by
  obtain ⟨hc, g0, g1, rfl⟩ := szM_some (t := (.pair (.int .i64) (.pair .str .unit))) h
  obtain ⟨hc0, hc1, _⟩ : fineB (.int .i64) a0.1 = true ∧ fineB .str a0.2.1 = true ∧ True := by
    have s := hc
    obtain ⟨h0, s⟩ := fineB_pair s
    obtain ⟨h1, s⟩ := fineB_pair s
    exact ⟨h0, h1, trivial⟩
  unfold de_laws_szWrite
  have hwt : (wt (.pair (.int .i64) (.pair .str .unit)) a0 : Int) = (ByteArray.size a0.2.1 : Int) := by simp only [wt]; omega
  rw [hwt]
  have hs0 : ByteArray.size a0.2.1 < 1152921504606846976 := fineB_str hc1
  have e0 : IntKind.i64.wrap (a1 - nI (ByteArray.size a0.2.1)) = a1 - (ByteArray.size a0.2.1 : Int) := wrap_ok (by simp only [nI]; omega) (by simp only [nI]; omega)
  simp only [e0]
  by_cases q0 : a1 - (ByteArray.size a0.2.1 : Int) < 0
  · simp only [decide_eq_true q0, cond_true]; try rw [if_pos (by omega)]
  · simp only [decide_eq_false q0, cond_false]
    try rw [if_neg q0]
theorem en_laws_szWrite (a0 : Int × ByteArray × Unit) (a1 : Int) : evalF Try.prog ta_laws_szWrite pa_laws_szWrite sg_laws_szWrite Try.f177 noL (a0, a1, ()) = de_laws_szWrite a0 a1 := by kernel_rfl
theorem si_laws_szWrite : SigsOk Try.prog ta_laws_szWrite := SigsOk.of fun f sd h => by
  try dsimp only [Tb.of, ta_laws_szWrite] at h
  cases h
theorem sn_laws_szWrite : Callable Try.prog 177 ∧ Sound Try.prog 177 sd_laws_szWrite.sg sd_laws_szWrite.den :=
  fn_plain (pat := pa_laws_szWrite) (by kernel_rfl) si_laws_szWrite Try.func177 (by kernel_rfl) (by kernel_rfl) (by kernel_rfl) fun x r h => by
    obtain ⟨a0, a1, ⟨⟩⟩ := x; obtain ⟨y, h1, h2⟩ := Option.bind_eq_some_iff.1 (show (m_laws_szWrite a0 a1).bind (fun r => some ((r, ()), (()))) = some r from h); cases h2; exact (en_laws_szWrite a0 a1).trans (eq_laws_szWrite a0 a1 _ h1)
def m_laws_szWriteS (a : List (Int × ByteArray × Unit)) (left : Int) : Option Int := szM (.sl (.pair (.int .i64) (.pair .str .unit))) a left
def sg_laws_szWriteS : Sig := ⟨[.rd (.sl (.pair (.int .i64) (.pair .str .unit))), .rd (.int .i64)], [none, none], [.rd (.int .i64)], [none]⟩
noncomputable def sd_laws_szWriteS : SD := ⟨sg_laws_szWriteS, fun x => (m_laws_szWriteS x.1 x.2.1).bind fun r => some ((r, ()), (()))⟩
noncomputable def ta_laws_szWriteS : Tb := Tb.of fun f => if f = 177 then some sd_laws_szWrite else none
def pa_laws_szWriteS : Nat → Pat × (Nat → Pat) := fun k => if k = 6 then (⟨[.sl 0 0 (.pair (.int .i64) (.pair .str .unit))], [(0, .lf (.d (.sl (.pair (.int .i64) (.pair .str .unit))))), (1, .lf (.d (.int .i64))), (5, .lf (.d (.int .i64)))], []⟩, fun e => if e = 1 then ⟨[], [(4, .lf (.d (.int .i64)))], []⟩ else if e = 2 then ⟨[], [(1, .lf (.d (.int .i64)))], []⟩ else ⟨[], [], []⟩) else (⟨[], [], []⟩, fun _ => ⟨[], [], []⟩)
noncomputable def co_laws_szWriteS_6 : Code := (loopsIn (bodyOf Try.f100)).getD 0 .skip
def fu_laws_szWriteS_6 (v0 : List (Int × ByteArray × Unit)) (v1 : Int) (v5 : Int) : Nat := ((v0.length : Int) - v5).toNat + 1
noncomputable def tr_laws_szWriteS_6 {R : Type}  (NX : ((List (Int × ByteArray × Unit)) × (Int) × (Int) × Unit) → Option R) (X2 : ((Int) × Unit) → Option R) (X1 : ((Int) × Unit) → Option R) (v0 : List (Int × ByteArray × Unit)) (v1 : Int) (v5 : Int) : Option R :=
  bif decide (v5 < nI (List.length v0)) then
    bif decide (0 ≤ v5) then
      bif decide (v5 < nI (List.length v0)) then
        Option.bind
          (Option.bind (m_laws_szWrite ((List.getD v0 (Int.toNat v5) (0, ByteArray.mk #[], ())).fst, (List.getD v0 (Int.toNat v5) (0, ByteArray.mk #[], ())).snd.fst, ()) v1) fun val =>
            some ((val, ()), ()))
          fun val => bif decide (val.fst.fst < 0) then X1 (-1, ()) else NX (v0, val.fst.fst, IntKind.wrap IntKind.i64 (v5 + 1), ())
      else none
    else none
  else X2 (v1, ())
noncomputable def lo_laws_szWriteS_6 : Nat → (List (Int × ByteArray × Unit)) → (Int) → (Int) →  Option (((Int) × Unit) ⊕ ((Int) × Unit))
  | 0, _, _, _ => none
  | m + 1, v0, v1, v5 => tr_laws_szWriteS_6  (fun d => lo_laws_szWriteS_6 m d.1 d.2.1 d.2.2.1) (fun d => some (.inl (d))) (fun d => some (.inr (d))) v0 v1 v5
theorem na_laws_szWriteS_6 {R S : Type}  (NX : ((List (Int × ByteArray × Unit)) × (Int) × (Int) × Unit) → Option R) (X2 : ((Int) × Unit) → Option R) (X1 : ((Int) × Unit) → Option R) (v0 : List (Int × ByteArray × Unit)) (v1 : Int) (v5 : Int) (f : R → Option S) : tr_laws_szWriteS_6  (fun d => (NX d).bind f) (fun d => (X2 d).bind f) (fun d => (X1 d).bind f) v0 v1 v5 = (tr_laws_szWriteS_6  NX X2 X1 v0 v1 v5).bind f := by
  unfold tr_laws_szWriteS_6
  simp only [cond_bind, ite_bind, onSum_bind, Option.bind_assoc, Option.bind_none, Option.bind_some]
noncomputable def de_laws_szWriteS (a0 : List (Int × ByteArray × Unit)) (a1 : Int) : Option ((((Int) × Unit) × (Unit))) :=
  bif decide (IntKind.wrap IntKind.i64 (a1 - nI (List.length a0)) < 0) then some ((-1, ()), ())
  else Option.bind ((fun d => lo_laws_szWriteS_6 (fu_laws_szWriteS_6 d.1 d.2.1 d.2.2.1) d.1 d.2.1 d.2.2.1) (a0, IntKind.wrap IntKind.i64 (a1 - nI (List.length a0)), 0, ())) fun val => onSum (fun val => some ((val.fst, ()), ())) (fun val => some ((val.fst, ()), ())) val
theorem eq_laws_szWriteS (a0 : List (Int × ByteArray × Unit)) (a1 : Int) r (h : m_laws_szWriteS a0 a1 = some r) : de_laws_szWriteS a0 a1 = some ((r, ()), (())) := by
  obtain ⟨hc, g0, g1, rfl⟩ := szM_some (t := .sl (.pair (.int .i64) (.pair .str .unit))) h
  obtain ⟨hl0, hall⟩ := fineB_sl hc
  have hl : a0.length < 1152921504606846976 := hl0
  clear hl0 hc
  · unfold de_laws_szWriteS
    have hw1 : IntKind.i64.wrap (a1 - nI a0.length) = a1 - (a0.length : Int) := wrap_ok (by simp only [nI]; omega) (by simp only [nI]; omega)
    rw [hw1]
    have hL := sz_loop (xs := a0) (0, (ByteArray.mk #[]), ()) (fun x : Int × ByteArray × Unit => wt (.pair (.int .i64) (.pair .str .unit)) x) (g := fun m l i => lo_laws_szWriteS_6 m a0 l i) (ok := fun l => .inl (l, ())) (bad := .inr (-1, ())) (fun m i l hi h0 h1 => by
      show lo_laws_szWriteS_6 (m + 1) a0 l i = _
      simp only [lo_laws_szWriteS_6, tr_laws_szWriteS_6]
      rw [cLt hi, cLe0, wI (by omega)]
      simp only [cond_true, Int.toNat_natCast]
      have hE : m_laws_szWrite ((List.getD (α := Int × ByteArray × Unit) a0 i (0, (ByteArray.mk #[]), ())).fst, (List.getD (α := Int × ByteArray × Unit) a0 i (0, (ByteArray.mk #[]), ())).snd.fst, ()) l = some (if l - (wt (.pair (.int .i64) (.pair .str .unit)) (List.getD (α := Int × ByteArray × Unit) a0 i (0, (ByteArray.mk #[]), ())) : Int) < 0 then -1 else l - wt (.pair (.int .i64) (.pair .str .unit)) (List.getD (α := Int × ByteArray × Unit) a0 i (0, (ByteArray.mk #[]), ()))) := by
        exact szM_is (t := (.pair (.int .i64) (.pair .str .unit))) (x := (List.getD (α := Int × ByteArray × Unit) a0 i (0, (ByteArray.mk #[]), ()))) (hall _ (getD_mem (0, (ByteArray.mk #[]), ()) hi)) h0 h1
      rw [hE]
      by_cases q : l - (wt (.pair (.int .i64) (.pair .str .unit)) (List.getD (α := Int × ByteArray × Unit) a0 i (0, (ByteArray.mk #[]), ())) : Int) < 0
      · simp only [if_pos q, decide_eq_true q, Option.bind_some, cond_true]; rfl
      · simp only [if_neg q, decide_eq_false q, Option.bind_some, cond_false]
    ) (fun m l => by
      show lo_laws_szWriteS_6 (m + 1) a0 l a0.length = _
      simp only [lo_laws_szWriteS_6, tr_laws_szWriteS_6]
      rw [cLtF]
      rfl) (fu_laws_szWriteS_6 a0 (a1 - (a0.length : Int)) 0) 0 (a1 - (a0.length : Int)) (by omega) (by simp [fu_laws_szWriteS_6])
    have hW : wt (.sl (.pair (.int .i64) (.pair .str .unit))) a0 = a0.length + (a0.map (fun x : Int × ByteArray × Unit => wt (.pair (.int .i64) (.pair .str .unit)) x)).sum := rfl
    rw [hW]
    by_cases q : a1 - (a0.length : Int) < 0
    · simp only [decide_eq_true q, cond_true]; rw [if_pos (by omega)]
    · simp only [decide_eq_false q, cond_false]
      have hL := hL (by omega) (by omega)
      rw [List.drop_zero] at hL
      show (lo_laws_szWriteS_6 (fu_laws_szWriteS_6 a0 (a1 - (a0.length : Int)) 0) a0 (a1 - (a0.length : Int)) 0).bind _ = _
      have hL' : lo_laws_szWriteS_6 (fu_laws_szWriteS_6 a0 (a1 - (a0.length : Int)) 0) a0 (a1 - (a0.length : Int)) 0 = _ := hL
      rw [hL']
      have hsum : a1 - ((a0.length + (a0.map (fun x : Int × ByteArray × Unit => wt (.pair (.int .i64) (.pair .str .unit)) x)).sum : Nat) : Int) = a1 - (a0.length : Int) - ((a0.map (fun x : Int × ByteArray × Unit => wt (.pair (.int .i64) (.pair .str .unit)) x)).sum : Int) := by omega
      rw [hsum]
      by_cases q2 : a1 - (a0.length : Int) - ((a0.map (fun x : Int × ByteArray × Unit => wt (.pair (.int .i64) (.pair .str .unit)) x)).sum : Int) < 0
      · simp only [if_pos q2]; rfl
      · simp only [if_neg q2]; rfl
noncomputable def ou_laws_szWriteS_6 {R : Type} (k : Kt R) : (((Int) × Unit) ⊕ ((Int) × Unit)) → Option R := (onSum (fun d => k (.exit 0) (((pa_laws_szWriteS 6).2 2).st d) (((pa_laws_szWriteS 6).2 2).nid)) (fun d => k .ret (((pa_laws_szWriteS 6).2 1).st d) (((pa_laws_szWriteS 6).2 1).nid)))
noncomputable def L_laws_szWriteS {R : Type} : Lt R pa_laws_szWriteS := (addL (pat := pa_laws_szWriteS) 6 (fun d k => (lo_laws_szWriteS_6 (fu_laws_szWriteS_6 d.1 d.2.1 d.2.2.1) d.1 d.2.1 d.2.2.1).bind (ou_laws_szWriteS_6 k)) noL)
theorem rd_laws_szWriteS_6 {R : Type} (nx : (pa_laws_szWriteS 6).1.D → Kt R → Option R) (k : Kt R) (v0 : List (Int × ByteArray × Unit)) (v1 : Int) (v5 : Int) : ev Try.prog ⟨ta_laws_szWriteS, 0, 27, pa_laws_szWriteS⟩ L_laws_szWriteS co_laws_szWriteS_6 ((pa_laws_szWriteS 6).1.st (v0, v1, v5, ())) (pa_laws_szWriteS 6).1.nid (roundK 0 (pa_laws_szWriteS 6) nx k) = tr_laws_szWriteS_6  (fun d => nx d k) (fun d => k (.exit 0) (((pa_laws_szWriteS 6).2 2).st d) (((pa_laws_szWriteS 6).2 2).nid)) (fun d => k .ret (((pa_laws_szWriteS 6).2 1).st d) (((pa_laws_szWriteS 6).2 1).nid)) v0 v1 v5 := by kernel_rfl
theorem lp_laws_szWriteS_6 {R : Type} : ∀ (m : Nat) (d : (pa_laws_szWriteS 6).1.D) (k : Kt R), loopN 0 (pa_laws_szWriteS 6) (fun s nid k => ev Try.prog ⟨ta_laws_szWriteS, 0, 27, pa_laws_szWriteS⟩ L_laws_szWriteS co_laws_szWriteS_6 s nid k) m d k = (lo_laws_szWriteS_6 m d.1 d.2.1 d.2.2.1).bind (ou_laws_szWriteS_6 k)
  | 0, _, _ => rfl
  | m + 1, ⟨v0, v1, v5, ⟨⟩⟩, k => (rd_laws_szWriteS_6 _ k v0 v1 v5).trans ((congrArg (fun F => tr_laws_szWriteS_6  F (fun d => k (.exit 0) (((pa_laws_szWriteS 6).2 2).st d) (((pa_laws_szWriteS 6).2 2).nid)) (fun d => k .ret (((pa_laws_szWriteS 6).2 1).st d) (((pa_laws_szWriteS 6).2 1).nid)) v0 v1 v5) (funext fun d => lp_laws_szWriteS_6 m d k)).trans (na_laws_szWriteS_6 (f := ou_laws_szWriteS_6 k)  (fun d => lo_laws_szWriteS_6 m d.1 d.2.1 d.2.2.1) (fun d => some (.inl (d))) (fun d => some (.inr (d))) v0 v1 v5))
theorem en_laws_szWriteS (a0 : List (Int × ByteArray × Unit)) (a1 : Int) : evalF Try.prog ta_laws_szWriteS pa_laws_szWriteS sg_laws_szWriteS Try.f100 L_laws_szWriteS (a0, a1, ()) = de_laws_szWriteS a0 a1 := by kernel_rfl
theorem si_laws_szWriteS : SigsOk Try.prog ta_laws_szWriteS := SigsOk.of fun f sd h => by
  try dsimp only [Tb.of, ta_laws_szWriteS] at h
  split at h
  · rename_i e; subst e; cases h; exact sn_laws_szWrite
  cases h
theorem lk_laws_szWriteS_6 {R : Type} : LoopOk Try.prog R 27 0 pa_laws_szWriteS L_laws_szWriteS co_laws_szWriteS_6 :=
  loop_key (cfg := ⟨ta_laws_szWriteS, 0, 27, pa_laws_szWriteS⟩) (key := 6) (by kernel_rfl) (by kernel_rfl) si_laws_szWriteS rfl rfl (fun d k r h => ⟨fu_laws_szWriteS_6 d.1 d.2.1 d.2.2.1, (lp_laws_szWriteS_6 _ d k).trans h⟩) (fun c hc => by rw [show loopsIn co_laws_szWriteS_6 = [] from by kernel_rfl] at hc; cases hc)
theorem sn_laws_szWriteS : Callable Try.prog 100 ∧ Sound Try.prog 100 sd_laws_szWriteS.sg sd_laws_szWriteS.den :=
  fn_loops (pat := pa_laws_szWriteS) L_laws_szWriteS (by kernel_rfl) si_laws_szWriteS Try.func100 (by kernel_rfl) (by kernel_rfl) (fun c hc => by rw [show loopsIn (bodyOf Try.f100) = [co_laws_szWriteS_6] from by kernel_rfl] at hc; simp only [List.mem_cons, List.not_mem_nil, or_false] at hc; rcases hc with rfl <;> first | exact lk_laws_szWriteS_6) fun x r h => by
    obtain ⟨a0, a1, ⟨⟩⟩ := x; obtain ⟨y, h1, h2⟩ := Option.bind_eq_some_iff.1 (show (m_laws_szWriteS a0 a1).bind (fun r => some ((r, ()), (()))) = some r from h); cases h2; exact (en_laws_szWriteS a0 a1).trans (eq_laws_szWriteS a0 a1 _ h1)
def m_laws_szDisk (a : (List ByteArray) × (List (Int × ByteArray × Unit)) × Unit) (left : Int) : Option Int := szM (.pair (.sl .str) (.pair (.sl (.pair (.int .i64) (.pair .str .unit))) .unit)) a left
def sg_laws_szDisk : Sig := ⟨[.rd (.pair (.sl .str) (.pair (.sl (.pair (.int .i64) (.pair .str .unit))) .unit)), .rd (.int .i64)], [some 2, none], [.rd (.int .i64)], [none]⟩
noncomputable def sd_laws_szDisk : SD := ⟨sg_laws_szDisk, fun x => (m_laws_szDisk x.1 x.2.1).bind fun r => some ((r, ()), (()))⟩
noncomputable def ta_laws_szDisk : Tb := Tb.of fun f => if f = 99 then some sd_laws_szStringS else if f = 100 then some sd_laws_szWriteS else none
def pa_laws_szDisk : Nat → Pat × (Nat → Pat) := fun k => (⟨[], [], []⟩, fun _ => ⟨[], [], []⟩)
noncomputable def de_laws_szDisk (a0 : (List ByteArray) × (List (Int × ByteArray × Unit)) × Unit) (a1 : Int) : Option ((((Int) × Unit) × (Unit))) :=
  Option.bind (Option.bind (m_laws_szStringS a0.fst a1) fun val => some ((val, ()), ())) fun val =>
    bif decide (val.fst.fst < 0) then some ((-1, ()), ())
    else
      Option.bind (Option.bind (m_laws_szWriteS a0.snd.fst val.fst.fst) fun val => some ((val, ()), ())) fun val =>
        bif decide (val.fst.fst < 0) then some ((-1, ()), ()) else some ((val.fst.fst, ()), ())
theorem eq_laws_szDisk (a0 : (List ByteArray) × (List (Int × ByteArray × Unit)) × Unit) (a1 : Int) r (h : m_laws_szDisk a0 a1 = some r) : de_laws_szDisk a0 a1 = some ((r, ()), (())) := by
  obtain ⟨hc, g0, g1, rfl⟩ := szM_some (t := (.pair (.sl .str) (.pair (.sl (.pair (.int .i64) (.pair .str .unit))) .unit))) h
  obtain ⟨hc0, hc1, _⟩ : fineB (.sl .str) a0.1 = true ∧ fineB (.sl (.pair (.int .i64) (.pair .str .unit))) a0.2.1 = true ∧ True := by
    have s := hc
    obtain ⟨h0, s⟩ := fineB_pair s
    obtain ⟨h1, s⟩ := fineB_pair s
    exact ⟨h0, h1, trivial⟩
  unfold de_laws_szDisk
  have hwt : (wt (.pair (.sl .str) (.pair (.sl (.pair (.int .i64) (.pair .str .unit))) .unit)) a0 : Int) = (wt (.sl .str) a0.1 : Int) + (wt (.sl (.pair (.int .i64) (.pair .str .unit))) a0.2.1 : Int) := by simp only [wt]; omega
  rw [hwt]
  have e0 : m_laws_szStringS a0.1 (a1) = some (if a1 - (wt (.sl .str) a0.1 : Int) < 0 then -1 else a1 - (wt (.sl .str) a0.1 : Int)) := szM_is (t := (.sl .str)) (x := a0.1) hc0 (by omega) (by omega)
  simp only [show m_laws_szStringS a0.1 (a1) = _ from e0, Option.bind_some]
  by_cases q0 : a1 - (wt (.sl .str) a0.1 : Int) < 0
  · simp only [if_pos q0, show decide ((-1 : Int) < 0) = true from rfl, cond_true]; try rw [if_pos (by omega)]
  · simp only [if_neg q0, decide_eq_false q0, cond_false]
    have e1 : m_laws_szWriteS a0.2.1 (a1 - (wt (.sl .str) a0.1 : Int)) = some (if a1 - (wt (.sl .str) a0.1 : Int) - (wt (.sl (.pair (.int .i64) (.pair .str .unit))) a0.2.1 : Int) < 0 then -1 else a1 - (wt (.sl .str) a0.1 : Int) - (wt (.sl (.pair (.int .i64) (.pair .str .unit))) a0.2.1 : Int)) := szM_is (t := (.sl (.pair (.int .i64) (.pair .str .unit)))) (x := a0.2.1) hc1 (by omega) (by omega)
    simp only [show m_laws_szWriteS a0.2.1 (a1 - (wt (.sl .str) a0.1 : Int)) = _ from e1, Option.bind_some]
    by_cases q1 : a1 - (wt (.sl .str) a0.1 : Int) - (wt (.sl (.pair (.int .i64) (.pair .str .unit))) a0.2.1 : Int) < 0
    · simp only [if_pos q1, show decide ((-1 : Int) < 0) = true from rfl, cond_true]; try rw [if_pos (by omega)]
    · simp only [if_neg q1, decide_eq_false q1, cond_false]
      rw [if_neg (by omega)]
      simp only [Int.sub_sub, Int.add_assoc]
theorem en_laws_szDisk (a0 : (List ByteArray) × (List (Int × ByteArray × Unit)) × Unit) (a1 : Int) : evalF Try.prog ta_laws_szDisk pa_laws_szDisk sg_laws_szDisk Try.f26 noL (a0, a1, ()) = de_laws_szDisk a0 a1 := by kernel_rfl
theorem si_laws_szDisk : SigsOk Try.prog ta_laws_szDisk := SigsOk.of fun f sd h => by
  try dsimp only [Tb.of, ta_laws_szDisk] at h
  split at h
  · rename_i e; subst e; cases h; exact sn_laws_szStringS
  split at h
  · rename_i e; subst e; cases h; exact sn_laws_szWriteS
  cases h
theorem sn_laws_szDisk : Callable Try.prog 26 ∧ Sound Try.prog 26 sd_laws_szDisk.sg sd_laws_szDisk.den :=
  fn_plain (pat := pa_laws_szDisk) (by kernel_rfl) si_laws_szDisk Try.func26 (by kernel_rfl) (by kernel_rfl) (by kernel_rfl) fun x r h => by
    obtain ⟨a0, a1, ⟨⟩⟩ := x; obtain ⟨y, h1, h2⟩ := Option.bind_eq_some_iff.1 (show (m_laws_szDisk a0 a1).bind (fun r => some ((r, ()), (()))) = some r from h); cases h2; exact (en_laws_szDisk a0 a1).trans (eq_laws_szDisk a0 a1 _ h1)
def m_laws_szOp (a : Bool × Int × ByteArray × Unit) (left : Int) : Option Int := szM (.pair .bool (.pair (.int .i64) (.pair .str .unit))) a left
def sg_laws_szOp : Sig := ⟨[.rd (.pair .bool (.pair (.int .i64) (.pair .str .unit))), .rd (.int .i64)], [some 3, none], [.rd (.int .i64)], [none]⟩
noncomputable def sd_laws_szOp : SD := ⟨sg_laws_szOp, fun x => (m_laws_szOp x.1 x.2.1).bind fun r => some ((r, ()), (()))⟩
noncomputable def ta_laws_szOp : Tb := Tb.of fun f => none
def pa_laws_szOp : Nat → Pat × (Nat → Pat) := fun k => (⟨[], [], []⟩, fun _ => ⟨[], [], []⟩)
noncomputable def de_laws_szOp (a0 : Bool × Int × ByteArray × Unit) (a1 : Int) : Option ((((Int) × Unit) × (Unit))) :=
  bif decide (IntKind.wrap IntKind.i64 (a1 - nI (ByteArray.size a0.snd.snd.fst)) < 0) then some ((-1, ()), ()) else some ((IntKind.wrap IntKind.i64 (a1 - nI (ByteArray.size a0.snd.snd.fst)), ()), ())
theorem eq_laws_szOp (a0 : Bool × Int × ByteArray × Unit) (a1 : Int) r (h : m_laws_szOp a0 a1 = some r) : de_laws_szOp a0 a1 = some ((r, ()), (())) := by
  obtain ⟨hc, g0, g1, rfl⟩ := szM_some (t := (.pair .bool (.pair (.int .i64) (.pair .str .unit)))) h
  obtain ⟨hc0, hc1, hc2, _⟩ : fineB .bool a0.1 = true ∧ fineB (.int .i64) a0.2.1 = true ∧ fineB .str a0.2.2.1 = true ∧ True := by
    have s := hc
    obtain ⟨h0, s⟩ := fineB_pair s
    obtain ⟨h1, s⟩ := fineB_pair s
    obtain ⟨h2, s⟩ := fineB_pair s
    exact ⟨h0, h1, h2, trivial⟩
  unfold de_laws_szOp
  have hwt : (wt (.pair .bool (.pair (.int .i64) (.pair .str .unit))) a0 : Int) = (ByteArray.size a0.2.2.1 : Int) := by simp only [wt]; omega
  rw [hwt]
  have hs0 : ByteArray.size a0.2.2.1 < 1152921504606846976 := fineB_str hc2
  have e0 : IntKind.i64.wrap (a1 - nI (ByteArray.size a0.2.2.1)) = a1 - (ByteArray.size a0.2.2.1 : Int) := wrap_ok (by simp only [nI]; omega) (by simp only [nI]; omega)
  simp only [e0]
  by_cases q0 : a1 - (ByteArray.size a0.2.2.1 : Int) < 0
  · simp only [decide_eq_true q0, cond_true]; try rw [if_pos (by omega)]
  · simp only [decide_eq_false q0, cond_false]
    try rw [if_neg q0]
theorem en_laws_szOp (a0 : Bool × Int × ByteArray × Unit) (a1 : Int) : evalF Try.prog ta_laws_szOp pa_laws_szOp sg_laws_szOp Try.f101 noL (a0, a1, ()) = de_laws_szOp a0 a1 := by kernel_rfl
theorem si_laws_szOp : SigsOk Try.prog ta_laws_szOp := SigsOk.of fun f sd h => by
  try dsimp only [Tb.of, ta_laws_szOp] at h
  cases h
theorem sn_laws_szOp : Callable Try.prog 101 ∧ Sound Try.prog 101 sd_laws_szOp.sg sd_laws_szOp.den :=
  fn_plain (pat := pa_laws_szOp) (by kernel_rfl) si_laws_szOp Try.func101 (by kernel_rfl) (by kernel_rfl) (by kernel_rfl) fun x r h => by
    obtain ⟨a0, a1, ⟨⟩⟩ := x; obtain ⟨y, h1, h2⟩ := Option.bind_eq_some_iff.1 (show (m_laws_szOp a0 a1).bind (fun r => some ((r, ()), (()))) = some r from h); cases h2; exact (en_laws_szOp a0 a1).trans (eq_laws_szOp a0 a1 _ h1)
def m_laws_szOpS (a : List (Bool × Int × ByteArray × Unit)) (left : Int) : Option Int := szM (.sl (.pair .bool (.pair (.int .i64) (.pair .str .unit)))) a left
def sg_laws_szOpS : Sig := ⟨[.rd (.sl (.pair .bool (.pair (.int .i64) (.pair .str .unit)))), .rd (.int .i64)], [none, none], [.rd (.int .i64)], [none]⟩
noncomputable def sd_laws_szOpS : SD := ⟨sg_laws_szOpS, fun x => (m_laws_szOpS x.1 x.2.1).bind fun r => some ((r, ()), (()))⟩
noncomputable def ta_laws_szOpS : Tb := Tb.of fun f => if f = 101 then some sd_laws_szOp else none
def pa_laws_szOpS : Nat → Pat × (Nat → Pat) := fun k => if k = 6 then (⟨[.sl 0 0 (.pair .bool (.pair (.int .i64) (.pair .str .unit)))], [(0, .lf (.d (.sl (.pair .bool (.pair (.int .i64) (.pair .str .unit)))))), (1, .lf (.d (.int .i64))), (5, .lf (.d (.int .i64)))], []⟩, fun e => if e = 1 then ⟨[], [(4, .lf (.d (.int .i64)))], []⟩ else if e = 2 then ⟨[], [(1, .lf (.d (.int .i64)))], []⟩ else ⟨[], [], []⟩) else (⟨[], [], []⟩, fun _ => ⟨[], [], []⟩)
noncomputable def co_laws_szOpS_6 : Code := (loopsIn (bodyOf Try.f27)).getD 0 .skip
def fu_laws_szOpS_6 (v0 : List (Bool × Int × ByteArray × Unit)) (v1 : Int) (v5 : Int) : Nat := ((v0.length : Int) - v5).toNat + 1
noncomputable def tr_laws_szOpS_6 {R : Type}  (NX : ((List (Bool × Int × ByteArray × Unit)) × (Int) × (Int) × Unit) → Option R) (X2 : ((Int) × Unit) → Option R) (X1 : ((Int) × Unit) → Option R) (v0 : List (Bool × Int × ByteArray × Unit)) (v1 : Int) (v5 : Int) : Option R :=
  bif decide (v5 < nI (List.length v0)) then
    bif decide (0 ≤ v5) then
      bif decide (v5 < nI (List.length v0)) then
        Option.bind
          (Option.bind
            (m_laws_szOp
              ((List.getD v0 (Int.toNat v5) (false, 0, ByteArray.mk #[], ())).fst, (List.getD v0 (Int.toNat v5) (false, 0, ByteArray.mk #[], ())).snd.fst,
                (List.getD v0 (Int.toNat v5) (false, 0, ByteArray.mk #[], ())).snd.snd.fst, ())
              v1)
            fun val => some ((val, ()), ()))
          fun val => bif decide (val.fst.fst < 0) then X1 (-1, ()) else NX (v0, val.fst.fst, IntKind.wrap IntKind.i64 (v5 + 1), ())
      else none
    else none
  else X2 (v1, ())
noncomputable def lo_laws_szOpS_6 : Nat → (List (Bool × Int × ByteArray × Unit)) → (Int) → (Int) →  Option (((Int) × Unit) ⊕ ((Int) × Unit))
  | 0, _, _, _ => none
  | m + 1, v0, v1, v5 => tr_laws_szOpS_6  (fun d => lo_laws_szOpS_6 m d.1 d.2.1 d.2.2.1) (fun d => some (.inl (d))) (fun d => some (.inr (d))) v0 v1 v5
theorem na_laws_szOpS_6 {R S : Type}  (NX : ((List (Bool × Int × ByteArray × Unit)) × (Int) × (Int) × Unit) → Option R) (X2 : ((Int) × Unit) → Option R) (X1 : ((Int) × Unit) → Option R) (v0 : List (Bool × Int × ByteArray × Unit)) (v1 : Int) (v5 : Int) (f : R → Option S) : tr_laws_szOpS_6  (fun d => (NX d).bind f) (fun d => (X2 d).bind f) (fun d => (X1 d).bind f) v0 v1 v5 = (tr_laws_szOpS_6  NX X2 X1 v0 v1 v5).bind f := by
  unfold tr_laws_szOpS_6
  simp only [cond_bind, ite_bind, onSum_bind, Option.bind_assoc, Option.bind_none, Option.bind_some]
noncomputable def de_laws_szOpS (a0 : List (Bool × Int × ByteArray × Unit)) (a1 : Int) : Option ((((Int) × Unit) × (Unit))) :=
  bif decide (IntKind.wrap IntKind.i64 (a1 - nI (List.length a0)) < 0) then some ((-1, ()), ())
  else Option.bind ((fun d => lo_laws_szOpS_6 (fu_laws_szOpS_6 d.1 d.2.1 d.2.2.1) d.1 d.2.1 d.2.2.1) (a0, IntKind.wrap IntKind.i64 (a1 - nI (List.length a0)), 0, ())) fun val => onSum (fun val => some ((val.fst, ()), ())) (fun val => some ((val.fst, ()), ())) val
theorem eq_laws_szOpS (a0 : List (Bool × Int × ByteArray × Unit)) (a1 : Int) r (h : m_laws_szOpS a0 a1 = some r) : de_laws_szOpS a0 a1 = some ((r, ()), (())) := by
  obtain ⟨hc, g0, g1, rfl⟩ := szM_some (t := .sl (.pair .bool (.pair (.int .i64) (.pair .str .unit)))) h
  obtain ⟨hl0, hall⟩ := fineB_sl hc
  have hl : a0.length < 1152921504606846976 := hl0
  clear hl0 hc
  · unfold de_laws_szOpS
    have hw1 : IntKind.i64.wrap (a1 - nI a0.length) = a1 - (a0.length : Int) := wrap_ok (by simp only [nI]; omega) (by simp only [nI]; omega)
    rw [hw1]
    have hL := sz_loop (xs := a0) (false, 0, (ByteArray.mk #[]), ()) (fun x : Bool × Int × ByteArray × Unit => wt (.pair .bool (.pair (.int .i64) (.pair .str .unit))) x) (g := fun m l i => lo_laws_szOpS_6 m a0 l i) (ok := fun l => .inl (l, ())) (bad := .inr (-1, ())) (fun m i l hi h0 h1 => by
      show lo_laws_szOpS_6 (m + 1) a0 l i = _
      simp only [lo_laws_szOpS_6, tr_laws_szOpS_6]
      rw [cLt hi, cLe0, wI (by omega)]
      simp only [cond_true, Int.toNat_natCast]
      have hE : m_laws_szOp ((List.getD (α := Bool × Int × ByteArray × Unit) a0 i (false, 0, (ByteArray.mk #[]), ())).fst, (List.getD (α := Bool × Int × ByteArray × Unit) a0 i (false, 0, (ByteArray.mk #[]), ())).snd.fst, (List.getD (α := Bool × Int × ByteArray × Unit) a0 i (false, 0, (ByteArray.mk #[]), ())).snd.snd.fst, ()) l = some (if l - (wt (.pair .bool (.pair (.int .i64) (.pair .str .unit))) (List.getD (α := Bool × Int × ByteArray × Unit) a0 i (false, 0, (ByteArray.mk #[]), ())) : Int) < 0 then -1 else l - wt (.pair .bool (.pair (.int .i64) (.pair .str .unit))) (List.getD (α := Bool × Int × ByteArray × Unit) a0 i (false, 0, (ByteArray.mk #[]), ()))) := by
        exact szM_is (t := (.pair .bool (.pair (.int .i64) (.pair .str .unit)))) (x := (List.getD (α := Bool × Int × ByteArray × Unit) a0 i (false, 0, (ByteArray.mk #[]), ()))) (hall _ (getD_mem (false, 0, (ByteArray.mk #[]), ()) hi)) h0 h1
      rw [hE]
      by_cases q : l - (wt (.pair .bool (.pair (.int .i64) (.pair .str .unit))) (List.getD (α := Bool × Int × ByteArray × Unit) a0 i (false, 0, (ByteArray.mk #[]), ())) : Int) < 0
      · simp only [if_pos q, decide_eq_true q, Option.bind_some, cond_true]; rfl
      · simp only [if_neg q, decide_eq_false q, Option.bind_some, cond_false]
    ) (fun m l => by
      show lo_laws_szOpS_6 (m + 1) a0 l a0.length = _
      simp only [lo_laws_szOpS_6, tr_laws_szOpS_6]
      rw [cLtF]
      rfl) (fu_laws_szOpS_6 a0 (a1 - (a0.length : Int)) 0) 0 (a1 - (a0.length : Int)) (by omega) (by simp [fu_laws_szOpS_6])
    have hW : wt (.sl (.pair .bool (.pair (.int .i64) (.pair .str .unit)))) a0 = a0.length + (a0.map (fun x : Bool × Int × ByteArray × Unit => wt (.pair .bool (.pair (.int .i64) (.pair .str .unit))) x)).sum := rfl
    rw [hW]
    by_cases q : a1 - (a0.length : Int) < 0
    · simp only [decide_eq_true q, cond_true]; rw [if_pos (by omega)]
    · simp only [decide_eq_false q, cond_false]
      have hL := hL (by omega) (by omega)
      rw [List.drop_zero] at hL
      show (lo_laws_szOpS_6 (fu_laws_szOpS_6 a0 (a1 - (a0.length : Int)) 0) a0 (a1 - (a0.length : Int)) 0).bind _ = _
      have hL' : lo_laws_szOpS_6 (fu_laws_szOpS_6 a0 (a1 - (a0.length : Int)) 0) a0 (a1 - (a0.length : Int)) 0 = _ := hL
      rw [hL']
      have hsum : a1 - ((a0.length + (a0.map (fun x : Bool × Int × ByteArray × Unit => wt (.pair .bool (.pair (.int .i64) (.pair .str .unit))) x)).sum : Nat) : Int) = a1 - (a0.length : Int) - ((a0.map (fun x : Bool × Int × ByteArray × Unit => wt (.pair .bool (.pair (.int .i64) (.pair .str .unit))) x)).sum : Int) := by omega
      rw [hsum]
      by_cases q2 : a1 - (a0.length : Int) - ((a0.map (fun x : Bool × Int × ByteArray × Unit => wt (.pair .bool (.pair (.int .i64) (.pair .str .unit))) x)).sum : Int) < 0
      · simp only [if_pos q2]; rfl
      · simp only [if_neg q2]; rfl
noncomputable def ou_laws_szOpS_6 {R : Type} (k : Kt R) : (((Int) × Unit) ⊕ ((Int) × Unit)) → Option R := (onSum (fun d => k (.exit 0) (((pa_laws_szOpS 6).2 2).st d) (((pa_laws_szOpS 6).2 2).nid)) (fun d => k .ret (((pa_laws_szOpS 6).2 1).st d) (((pa_laws_szOpS 6).2 1).nid)))
noncomputable def L_laws_szOpS {R : Type} : Lt R pa_laws_szOpS := (addL (pat := pa_laws_szOpS) 6 (fun d k => (lo_laws_szOpS_6 (fu_laws_szOpS_6 d.1 d.2.1 d.2.2.1) d.1 d.2.1 d.2.2.1).bind (ou_laws_szOpS_6 k)) noL)
theorem rd_laws_szOpS_6 {R : Type} (nx : (pa_laws_szOpS 6).1.D → Kt R → Option R) (k : Kt R) (v0 : List (Bool × Int × ByteArray × Unit)) (v1 : Int) (v5 : Int) : ev Try.prog ⟨ta_laws_szOpS, 0, 27, pa_laws_szOpS⟩ L_laws_szOpS co_laws_szOpS_6 ((pa_laws_szOpS 6).1.st (v0, v1, v5, ())) (pa_laws_szOpS 6).1.nid (roundK 0 (pa_laws_szOpS 6) nx k) = tr_laws_szOpS_6  (fun d => nx d k) (fun d => k (.exit 0) (((pa_laws_szOpS 6).2 2).st d) (((pa_laws_szOpS 6).2 2).nid)) (fun d => k .ret (((pa_laws_szOpS 6).2 1).st d) (((pa_laws_szOpS 6).2 1).nid)) v0 v1 v5 := by kernel_rfl
theorem lp_laws_szOpS_6 {R : Type} : ∀ (m : Nat) (d : (pa_laws_szOpS 6).1.D) (k : Kt R), loopN 0 (pa_laws_szOpS 6) (fun s nid k => ev Try.prog ⟨ta_laws_szOpS, 0, 27, pa_laws_szOpS⟩ L_laws_szOpS co_laws_szOpS_6 s nid k) m d k = (lo_laws_szOpS_6 m d.1 d.2.1 d.2.2.1).bind (ou_laws_szOpS_6 k)
  | 0, _, _ => rfl
  | m + 1, ⟨v0, v1, v5, ⟨⟩⟩, k => (rd_laws_szOpS_6 _ k v0 v1 v5).trans ((congrArg (fun F => tr_laws_szOpS_6  F (fun d => k (.exit 0) (((pa_laws_szOpS 6).2 2).st d) (((pa_laws_szOpS 6).2 2).nid)) (fun d => k .ret (((pa_laws_szOpS 6).2 1).st d) (((pa_laws_szOpS 6).2 1).nid)) v0 v1 v5) (funext fun d => lp_laws_szOpS_6 m d k)).trans (na_laws_szOpS_6 (f := ou_laws_szOpS_6 k)  (fun d => lo_laws_szOpS_6 m d.1 d.2.1 d.2.2.1) (fun d => some (.inl (d))) (fun d => some (.inr (d))) v0 v1 v5))
theorem en_laws_szOpS (a0 : List (Bool × Int × ByteArray × Unit)) (a1 : Int) : evalF Try.prog ta_laws_szOpS pa_laws_szOpS sg_laws_szOpS Try.f27 L_laws_szOpS (a0, a1, ()) = de_laws_szOpS a0 a1 := by kernel_rfl
theorem si_laws_szOpS : SigsOk Try.prog ta_laws_szOpS := SigsOk.of fun f sd h => by
  try dsimp only [Tb.of, ta_laws_szOpS] at h
  split at h
  · rename_i e; subst e; cases h; exact sn_laws_szOp
  cases h
theorem lk_laws_szOpS_6 {R : Type} : LoopOk Try.prog R 27 0 pa_laws_szOpS L_laws_szOpS co_laws_szOpS_6 :=
  loop_key (cfg := ⟨ta_laws_szOpS, 0, 27, pa_laws_szOpS⟩) (key := 6) (by kernel_rfl) (by kernel_rfl) si_laws_szOpS rfl rfl (fun d k r h => ⟨fu_laws_szOpS_6 d.1 d.2.1 d.2.2.1, (lp_laws_szOpS_6 _ d k).trans h⟩) (fun c hc => by rw [show loopsIn co_laws_szOpS_6 = [] from by kernel_rfl] at hc; cases hc)
theorem sn_laws_szOpS : Callable Try.prog 27 ∧ Sound Try.prog 27 sd_laws_szOpS.sg sd_laws_szOpS.den :=
  fn_loops (pat := pa_laws_szOpS) L_laws_szOpS (by kernel_rfl) si_laws_szOpS Try.func27 (by kernel_rfl) (by kernel_rfl) (fun c hc => by rw [show loopsIn (bodyOf Try.f27) = [co_laws_szOpS_6] from by kernel_rfl] at hc; simp only [List.mem_cons, List.not_mem_nil, or_false] at hc; rcases hc with rfl <;> first | exact lk_laws_szOpS_6) fun x r h => by
    obtain ⟨a0, a1, ⟨⟩⟩ := x; obtain ⟨y, h1, h2⟩ := Option.bind_eq_some_iff.1 (show (m_laws_szOpS a0 a1).bind (fun r => some ((r, ()), (()))) = some r from h); cases h2; exact (en_laws_szOpS a0 a1).trans (eq_laws_szOpS a0 a1 _ h1)
def m_spec_l2WriteOk (d : Dk) (at_ : Int) (data : ByteArray) : Bool := okWr d.1.length (at_, data, ())
def sg_spec_l2WriteOk : Sig := ⟨[.rd (.pair (.sl .str) (.pair (.sl (.pair (.int .i64) (.pair .str .unit))) .unit)), .rd (.int .i64), .rd .str], [some 2, none, none], [.rd .bool], [none]⟩
noncomputable def sd_spec_l2WriteOk : SD := ⟨sg_spec_l2WriteOk, fun x => some (((m_spec_l2WriteOk x.1 x.2.1 x.2.2.1), ()), (()))⟩
noncomputable def ta_spec_l2WriteOk : Tb := Tb.of fun f => none
def pa_spec_l2WriteOk : Nat → Pat × (Nat → Pat) := fun k => (⟨[], [], []⟩, fun _ => ⟨[], [], []⟩)
noncomputable def de_spec_l2WriteOk (a0 : (List ByteArray) × (List (Int × ByteArray × Unit)) × Unit) (a1 : Int) (a2 : ByteArray) : Option ((((Bool) × Unit) × (Unit))) :=
  bif decide (a1 ≥ 0) then bif decide (a1 < nI (List.length a0.fst)) then some ((nI (ByteArray.size a2) == 64, ()), ()) else some ((false, ()), ()) else some ((false, ()), ())
theorem eq_spec_l2WriteOk (a0 : Dk) (a1 : Int) (a2 : ByteArray) : de_spec_l2WriteOk a0 a1 a2 = some ((m_spec_l2WriteOk a0 a1 a2, ()), ()) := by
  unfold de_spec_l2WriteOk m_spec_l2WriteOk okWr
  have e : (nI (ByteArray.size a2) == 64) = decide (a2.size = 64) := by
    have := ne64 a2.size 64
    simp only [bne] at this
    cases h : (nI (ByteArray.size a2) == ((64 : Nat) : Int)) <;> rw [h] at this <;> cases h2 : decide (a2.size = 64) <;> rw [h2] at this <;> first | (cases this; done) | exact h
  rw [e]
  by_cases h1 : a1 ≥ 0
  · have : decide (0 ≤ a1) = true := by simpa using h1
    rw [decide_eq_true h1]
    simp only [this, cond_true, Bool.true_and, nI]
    cases decide (a1 < (a0.1.length : Int)) <;> rfl
  · have : decide (0 ≤ a1) = false := by simpa using h1
    rw [decide_eq_false h1]
    simp only [this]
    rfl
theorem en_spec_l2WriteOk (a0 : (List ByteArray) × (List (Int × ByteArray × Unit)) × Unit) (a1 : Int) (a2 : ByteArray) : evalF Try.prog ta_spec_l2WriteOk pa_spec_l2WriteOk sg_spec_l2WriteOk Try.f105 noL (a0, a1, a2, ()) = de_spec_l2WriteOk a0 a1 a2 := by kernel_rfl
theorem si_spec_l2WriteOk : SigsOk Try.prog ta_spec_l2WriteOk := SigsOk.of fun f sd h => by
  try dsimp only [Tb.of, ta_spec_l2WriteOk] at h
  cases h
theorem sn_spec_l2WriteOk : Callable Try.prog 105 ∧ Sound Try.prog 105 sd_spec_l2WriteOk.sg sd_spec_l2WriteOk.den :=
  fn_plain (pat := pa_spec_l2WriteOk) (by kernel_rfl) si_spec_l2WriteOk Try.func105 (by kernel_rfl) (by kernel_rfl) (by kernel_rfl) fun x r h => by
    obtain ⟨a0, a1, a2, ⟨⟩⟩ := x; rw [← h]; exact (en_spec_l2WriteOk a0 a1 a2).trans (eq_spec_l2WriteOk a0 a1 a2)
def m_spec_ValidDisk (d : Dk) : Bool := validDisk d
def sg_spec_ValidDisk : Sig := ⟨[.rd (.pair (.sl .str) (.pair (.sl (.pair (.int .i64) (.pair .str .unit))) .unit))], [some 2], [.rd .bool], [none]⟩
noncomputable def sd_spec_ValidDisk : SD := ⟨sg_spec_ValidDisk, fun x => some (((m_spec_ValidDisk x.1), ()), (()))⟩
noncomputable def ta_spec_ValidDisk : Tb := Tb.of fun f => if f = 105 then some sd_spec_l2WriteOk else none
def pa_spec_ValidDisk : Nat → Pat × (Nat → Pat) := fun k => if k = 5 then (⟨[.boxSl 1 0 .str, .boxSl 1 1 (.pair (.int .i64) (.pair .str .unit))], [(1, .lf (.ptr 0 0)), (3, .lf (.d (.int .i64)))], [.box 47 [.d (.sl .str), .d (.sl (.pair (.int .i64) (.pair .str .unit)))]]⟩, fun e => if e = 1 then ⟨[], [(2, .lf (.d .bool))], []⟩ else if e = 2 then ⟨[.boxSl 1 0 .str, .boxSl 1 1 (.pair (.int .i64) (.pair .str .unit))], [(1, .lf (.ptr 0 0))], [.box 47 [.d (.sl .str), .d (.sl (.pair (.int .i64) (.pair .str .unit)))]]⟩ else ⟨[], [], []⟩) else if k = 10 then (⟨[.boxSl 1 0 .str, .boxSl 1 1 (.pair (.int .i64) (.pair .str .unit))], [(1, .lf (.ptr 0 0)), (4, .lf (.d (.int .i64)))], [.box 47 [.d (.sl .str), .d (.sl (.pair (.int .i64) (.pair .str .unit)))]]⟩, fun e => if e = 1 then ⟨[], [(2, .lf (.d .bool))], []⟩ else if e = 4 then ⟨[], [], []⟩ else ⟨[], [], []⟩) else (⟨[], [], []⟩, fun _ => ⟨[], [], []⟩)
noncomputable def co_spec_ValidDisk_5 : Code := (loopsIn (bodyOf Try.f102)).getD 0 .skip
noncomputable def co_spec_ValidDisk_10 : Code := (loopsIn (bodyOf Try.f102)).getD 1 .skip
def fu_spec_ValidDisk_10 (v4 : Int) (b0_0 : List ByteArray) (b0_1 : List (Int × ByteArray × Unit)) : Nat := ((b0_1.length : Int) - v4).toNat + 1
noncomputable def tr_spec_ValidDisk_10 {R : Type}  (NX : ((Int) × (List ByteArray) × (List (Int × ByteArray × Unit)) × Unit) → Option R) (X4 : (Unit) → Option R) (X1 : ((Bool) × Unit) → Option R) (v4 : Int) (b0_0 : List ByteArray) (b0_1 : List (Int × ByteArray × Unit)) : Option R :=
  bif decide (v4 < nI (List.length b0_1)) then
    bif decide (0 ≤ v4) then
      bif decide (v4 < nI (List.length b0_1)) then
        bif decide (0 ≤ v4) then
          bif decide (v4 < nI (List.length b0_1)) then
            bif !m_spec_l2WriteOk (b0_0, b0_1, ()) (List.getD b0_1 (Int.toNat v4) (0, ByteArray.mk #[], ())).fst (List.getD b0_1 (Int.toNat v4) (0, ByteArray.mk #[], ())).snd.fst then X1 (false, ())
            else NX (IntKind.wrap IntKind.i64 (v4 + 1), b0_0, b0_1, ())
          else none
        else none
      else none
    else none
  else X4 PUnit.unit
noncomputable def lo_spec_ValidDisk_10 : Nat → (Int) → (List ByteArray) → (List (Int × ByteArray × Unit)) →  Option ((Unit) ⊕ ((Bool) × Unit))
  | 0, _, _, _ => none
  | m + 1, v4, b0_0, b0_1 => tr_spec_ValidDisk_10  (fun d => lo_spec_ValidDisk_10 m d.1 d.2.1 d.2.2.1) (fun d => some (.inl (d))) (fun d => some (.inr (d))) v4 b0_0 b0_1
theorem na_spec_ValidDisk_10 {R S : Type}  (NX : ((Int) × (List ByteArray) × (List (Int × ByteArray × Unit)) × Unit) → Option R) (X4 : (Unit) → Option R) (X1 : ((Bool) × Unit) → Option R) (v4 : Int) (b0_0 : List ByteArray) (b0_1 : List (Int × ByteArray × Unit)) (f : R → Option S) : tr_spec_ValidDisk_10  (fun d => (NX d).bind f) (fun d => (X4 d).bind f) (fun d => (X1 d).bind f) v4 b0_0 b0_1 = (tr_spec_ValidDisk_10  NX X4 X1 v4 b0_0 b0_1).bind f := by
  unfold tr_spec_ValidDisk_10
  simp only [cond_bind, ite_bind, onSum_bind, Option.bind_assoc, Option.bind_none, Option.bind_some]
def fu_spec_ValidDisk_5 (v3 : Int) (b0_0 : List ByteArray) (b0_1 : List (Int × ByteArray × Unit)) : Nat := ((b0_0.length : Int) - v3).toNat + 1
noncomputable def tr_spec_ValidDisk_5 {R : Type}  (NX : ((Int) × (List ByteArray) × (List (Int × ByteArray × Unit)) × Unit) → Option R) (X2 : ((List ByteArray) × (List (Int × ByteArray × Unit)) × Unit) → Option R) (X1 : ((Bool) × Unit) → Option R) (v3 : Int) (b0_0 : List ByteArray) (b0_1 : List (Int × ByteArray × Unit)) : Option R :=
  bif decide (v3 < nI (List.length b0_0)) then
    bif decide (0 ≤ v3) then
      bif decide (v3 < nI (List.length b0_0)) then
        bif nI (ByteArray.size (List.getD b0_0 (Int.toNat v3) (ByteArray.mk #[]))) != 64 then X1 (false, ()) else NX (IntKind.wrap IntKind.i64 (v3 + 1), b0_0, b0_1, ())
      else none
    else none
  else X2 (b0_0, b0_1, ())
noncomputable def lo_spec_ValidDisk_5 : Nat → (Int) → (List ByteArray) → (List (Int × ByteArray × Unit)) →  Option (((List ByteArray) × (List (Int × ByteArray × Unit)) × Unit) ⊕ ((Bool) × Unit))
  | 0, _, _, _ => none
  | m + 1, v3, b0_0, b0_1 => tr_spec_ValidDisk_5  (fun d => lo_spec_ValidDisk_5 m d.1 d.2.1 d.2.2.1) (fun d => some (.inl (d))) (fun d => some (.inr (d))) v3 b0_0 b0_1
theorem na_spec_ValidDisk_5 {R S : Type}  (NX : ((Int) × (List ByteArray) × (List (Int × ByteArray × Unit)) × Unit) → Option R) (X2 : ((List ByteArray) × (List (Int × ByteArray × Unit)) × Unit) → Option R) (X1 : ((Bool) × Unit) → Option R) (v3 : Int) (b0_0 : List ByteArray) (b0_1 : List (Int × ByteArray × Unit)) (f : R → Option S) : tr_spec_ValidDisk_5  (fun d => (NX d).bind f) (fun d => (X2 d).bind f) (fun d => (X1 d).bind f) v3 b0_0 b0_1 = (tr_spec_ValidDisk_5  NX X2 X1 v3 b0_0 b0_1).bind f := by
  unfold tr_spec_ValidDisk_5
  simp only [cond_bind, ite_bind, onSum_bind, Option.bind_assoc, Option.bind_none, Option.bind_some]
noncomputable def de_spec_ValidDisk (a0 : (List ByteArray) × (List (Int × ByteArray × Unit)) × Unit) : Option ((((Bool) × Unit) × (Unit))) :=
  bif decide (nI (List.length a0.fst) < 8) then some ((false, ()), ())
  else
    bif decide (nI (List.length a0.fst) > 200) then some ((false, ()), ())
    else
      bif decide (nI (List.length a0.snd.fst) > 300) then some ((false, ()), ())
      else
        Option.bind ((fun d => lo_spec_ValidDisk_5 (fu_spec_ValidDisk_5 d.1 d.2.1 d.2.2.1) d.1 d.2.1 d.2.2.1) (0, a0.fst, a0.snd.fst, ())) fun val =>
          onSum (fun val => Option.bind ((fun d => lo_spec_ValidDisk_10 (fu_spec_ValidDisk_10 d.1 d.2.1 d.2.2.1) d.1 d.2.1 d.2.2.1) (0, val.fst, val.snd.fst, ())) fun val => onSum (fun val => some ((true, ()), ())) (fun val => some ((val.fst, ()), ())) val)
            (fun val => some ((val.fst, ()), ())) val
theorem eq_spec_ValidDisk (a0 : Dk) : de_spec_ValidDisk a0 = some ((m_spec_ValidDisk a0, ()), ()) := by
  unfold de_spec_ValidDisk m_spec_ValidDisk validDisk
  have c1 : decide (nI a0.2.1.length > 300) = !decide (a0.2.1.length ≤ 300) := gt100 _ 300
  have c2 : decide (nI a0.1.length > 200) = !decide ((a0.1.length : Int) ≤ 200) := by
    rw [show decide (nI a0.1.length > 200) = !decide (a0.1.length ≤ 200) from gt100 _ 200]
    congr 1
    exact decide_eq_decide.2 (by omega)
  have c3 : decide (nI a0.1.length < 8) = !decide (8 ≤ (a0.1.length : Int)) := by
    by_cases q : 8 ≤ (a0.1.length : Int)
    · rw [decide_eq_true q, decide_eq_false (by simp [nI]; omega)]; rfl
    · rw [decide_eq_false q, decide_eq_true (by simp [nI]; omega)]; rfl
  rw [c1, c2, c3]
  unfold inB
  by_cases h8 : 8 ≤ (a0.1.length : Int)
  · rw [decide_eq_true h8]
    by_cases h2 : (a0.1.length : Int) ≤ 200
    · rw [decide_eq_true h2]
      by_cases hp : a0.2.1.length ≤ 300
      · rw [decide_eq_true hp]
        have hL := all_loop (n := a0.1.length) (fun i => decide ((a0.1.getD i z0).size = 64)) (g := fun m i => lo_spec_ValidDisk_5 m i a0.1 a0.2.1) (ok := .inl (a0.1, a0.2.1, ())) (bad := .inr (false, ())) (fun m i hi => by
          show lo_spec_ValidDisk_5 (m + 1) i a0.1 a0.2.1 = _
          simp only [lo_spec_ValidDisk_5, tr_spec_ValidDisk_5]
          have g1 : (nI (ByteArray.size (List.getD a0.1 i (ByteArray.mk #[]))) != 64) = !decide ((a0.1.getD i z0).size = 64) := ne64 _ 64
          rw [cLt hi, cLe0, wI (show i < 4611686018427387904 by omega), Int.toNat_natCast, g1]
          cases decide ((a0.1.getD i z0).size = 64) <;> rfl) (fun m => by
          show lo_spec_ValidDisk_5 (m + 1) (a0.1.length : Int) a0.1 a0.2.1 = _
          simp only [lo_spec_ValidDisk_5, tr_spec_ValidDisk_5]
          rw [cLtF]
          rfl) (fu_spec_ValidDisk_5 0 a0.1 a0.2.1) 0 (by omega) (by simp [fu_spec_ValidDisk_5])
        have hL' : lo_spec_ValidDisk_5 (fu_spec_ValidDisk_5 0 a0.1 a0.2.1) 0 a0.1 a0.2.1 = _ := hL
        have hM := all_loop (n := a0.2.1.length) (fun i => okWr a0.1.length (a0.2.1.getD i zW)) (g := fun m i => lo_spec_ValidDisk_10 m i a0.1 a0.2.1) (ok := .inl ()) (bad := .inr (false, ())) (fun m i hi => by
          show lo_spec_ValidDisk_10 (m + 1) i a0.1 a0.2.1 = _
          simp only [lo_spec_ValidDisk_10, tr_spec_ValidDisk_10]
          rw [cLt hi, cLe0, wI (show i < 4611686018427387904 by omega), Int.toNat_natCast]
          show (bif !okWr a0.1.length (a0.2.1.getD i zW) then _ else _) = _
          cases okWr a0.1.length (a0.2.1.getD i zW) <;> rfl) (fun m => by
          show lo_spec_ValidDisk_10 (m + 1) (a0.2.1.length : Int) a0.1 a0.2.1 = _
          simp only [lo_spec_ValidDisk_10, tr_spec_ValidDisk_10]
          rw [cLtF]
          rfl) (fu_spec_ValidDisk_10 0 a0.1 a0.2.1) 0 (by omega) (by simp [fu_spec_ValidDisk_10])
        have hM' : lo_spec_ValidDisk_10 (fu_spec_ValidDisk_10 0 a0.1 a0.2.1) 0 a0.1 a0.2.1 = _ := hM
        show (lo_spec_ValidDisk_5 (fu_spec_ValidDisk_5 0 a0.1 a0.2.1) 0 a0.1 a0.2.1).bind _ = _
        rw [hL']
        rw [Nat.sub_zero] at hM' ⊢
        cases (List.range' 0 a0.1.length).all (fun i => decide ((a0.1.getD i z0).size = 64)) with
        | false => rfl
        | true =>
          show (lo_spec_ValidDisk_10 (fu_spec_ValidDisk_10 0 a0.1 a0.2.1) 0 a0.1 a0.2.1).bind _ = _
          rw [hM']
          cases (List.range' 0 a0.2.1.length).all (fun i => okWr a0.1.length (a0.2.1.getD i zW)) <;> rfl
      · rw [decide_eq_false hp]
        rfl
    · rw [decide_eq_false h2]
      rfl
  · rw [decide_eq_false h8]
    rfl
noncomputable def ou_spec_ValidDisk_5 {R : Type} (k : Kt R) : (((List ByteArray) × (List (Int × ByteArray × Unit)) × Unit) ⊕ ((Bool) × Unit)) → Option R := (onSum (fun d => k (.exit 0) (((pa_spec_ValidDisk 5).2 2).st d) (((pa_spec_ValidDisk 5).2 2).nid)) (fun d => k .ret (((pa_spec_ValidDisk 5).2 1).st d) (((pa_spec_ValidDisk 5).2 1).nid)))
noncomputable def ou_spec_ValidDisk_10 {R : Type} (k : Kt R) : ((Unit) ⊕ ((Bool) × Unit)) → Option R := (onSum (fun d => k (.exit 2) (((pa_spec_ValidDisk 10).2 4).st d) (((pa_spec_ValidDisk 10).2 4).nid)) (fun d => k .ret (((pa_spec_ValidDisk 10).2 1).st d) (((pa_spec_ValidDisk 10).2 1).nid)))
noncomputable def L_spec_ValidDisk {R : Type} : Lt R pa_spec_ValidDisk := (addL (pat := pa_spec_ValidDisk) 5 (fun d k => (lo_spec_ValidDisk_5 (fu_spec_ValidDisk_5 d.1 d.2.1 d.2.2.1) d.1 d.2.1 d.2.2.1).bind (ou_spec_ValidDisk_5 k)) (addL (pat := pa_spec_ValidDisk) 10 (fun d k => (lo_spec_ValidDisk_10 (fu_spec_ValidDisk_10 d.1 d.2.1 d.2.2.1) d.1 d.2.1 d.2.2.1).bind (ou_spec_ValidDisk_10 k)) noL))
theorem rd_spec_ValidDisk_10 {R : Type} (nx : (pa_spec_ValidDisk 10).1.D → Kt R → Option R) (k : Kt R) (v4 : Int) (b0_0 : List ByteArray) (b0_1 : List (Int × ByteArray × Unit)) : ev Try.prog ⟨ta_spec_ValidDisk, 0, 57, pa_spec_ValidDisk⟩ L_spec_ValidDisk co_spec_ValidDisk_10 ((pa_spec_ValidDisk 10).1.st (v4, b0_0, b0_1, ())) (pa_spec_ValidDisk 10).1.nid (roundK 0 (pa_spec_ValidDisk 10) nx k) = tr_spec_ValidDisk_10  (fun d => nx d k) (fun d => k (.exit 2) (((pa_spec_ValidDisk 10).2 4).st d) (((pa_spec_ValidDisk 10).2 4).nid)) (fun d => k .ret (((pa_spec_ValidDisk 10).2 1).st d) (((pa_spec_ValidDisk 10).2 1).nid)) v4 b0_0 b0_1 := by kernel_rfl
theorem lp_spec_ValidDisk_10 {R : Type} : ∀ (m : Nat) (d : (pa_spec_ValidDisk 10).1.D) (k : Kt R), loopN 0 (pa_spec_ValidDisk 10) (fun s nid k => ev Try.prog ⟨ta_spec_ValidDisk, 0, 57, pa_spec_ValidDisk⟩ L_spec_ValidDisk co_spec_ValidDisk_10 s nid k) m d k = (lo_spec_ValidDisk_10 m d.1 d.2.1 d.2.2.1).bind (ou_spec_ValidDisk_10 k)
  | 0, _, _ => rfl
  | m + 1, ⟨v4, b0_0, b0_1, ⟨⟩⟩, k => (rd_spec_ValidDisk_10 _ k v4 b0_0 b0_1).trans ((congrArg (fun F => tr_spec_ValidDisk_10  F (fun d => k (.exit 2) (((pa_spec_ValidDisk 10).2 4).st d) (((pa_spec_ValidDisk 10).2 4).nid)) (fun d => k .ret (((pa_spec_ValidDisk 10).2 1).st d) (((pa_spec_ValidDisk 10).2 1).nid)) v4 b0_0 b0_1) (funext fun d => lp_spec_ValidDisk_10 m d k)).trans (na_spec_ValidDisk_10 (f := ou_spec_ValidDisk_10 k)  (fun d => lo_spec_ValidDisk_10 m d.1 d.2.1 d.2.2.1) (fun d => some (.inl (d))) (fun d => some (.inr (d))) v4 b0_0 b0_1))
theorem rd_spec_ValidDisk_5 {R : Type} (nx : (pa_spec_ValidDisk 5).1.D → Kt R → Option R) (k : Kt R) (v3 : Int) (b0_0 : List ByteArray) (b0_1 : List (Int × ByteArray × Unit)) : ev Try.prog ⟨ta_spec_ValidDisk, 0, 57, pa_spec_ValidDisk⟩ L_spec_ValidDisk co_spec_ValidDisk_5 ((pa_spec_ValidDisk 5).1.st (v3, b0_0, b0_1, ())) (pa_spec_ValidDisk 5).1.nid (roundK 0 (pa_spec_ValidDisk 5) nx k) = tr_spec_ValidDisk_5  (fun d => nx d k) (fun d => k (.exit 0) (((pa_spec_ValidDisk 5).2 2).st d) (((pa_spec_ValidDisk 5).2 2).nid)) (fun d => k .ret (((pa_spec_ValidDisk 5).2 1).st d) (((pa_spec_ValidDisk 5).2 1).nid)) v3 b0_0 b0_1 := by kernel_rfl
theorem lp_spec_ValidDisk_5 {R : Type} : ∀ (m : Nat) (d : (pa_spec_ValidDisk 5).1.D) (k : Kt R), loopN 0 (pa_spec_ValidDisk 5) (fun s nid k => ev Try.prog ⟨ta_spec_ValidDisk, 0, 57, pa_spec_ValidDisk⟩ L_spec_ValidDisk co_spec_ValidDisk_5 s nid k) m d k = (lo_spec_ValidDisk_5 m d.1 d.2.1 d.2.2.1).bind (ou_spec_ValidDisk_5 k)
  | 0, _, _ => rfl
  | m + 1, ⟨v3, b0_0, b0_1, ⟨⟩⟩, k => (rd_spec_ValidDisk_5 _ k v3 b0_0 b0_1).trans ((congrArg (fun F => tr_spec_ValidDisk_5  F (fun d => k (.exit 0) (((pa_spec_ValidDisk 5).2 2).st d) (((pa_spec_ValidDisk 5).2 2).nid)) (fun d => k .ret (((pa_spec_ValidDisk 5).2 1).st d) (((pa_spec_ValidDisk 5).2 1).nid)) v3 b0_0 b0_1) (funext fun d => lp_spec_ValidDisk_5 m d k)).trans (na_spec_ValidDisk_5 (f := ou_spec_ValidDisk_5 k)  (fun d => lo_spec_ValidDisk_5 m d.1 d.2.1 d.2.2.1) (fun d => some (.inl (d))) (fun d => some (.inr (d))) v3 b0_0 b0_1))
theorem en_spec_ValidDisk (a0 : (List ByteArray) × (List (Int × ByteArray × Unit)) × Unit) : evalF Try.prog ta_spec_ValidDisk pa_spec_ValidDisk sg_spec_ValidDisk Try.f102 L_spec_ValidDisk (a0, ()) = de_spec_ValidDisk a0 := by kernel_rfl
theorem si_spec_ValidDisk : SigsOk Try.prog ta_spec_ValidDisk := SigsOk.of fun f sd h => by
  try dsimp only [Tb.of, ta_spec_ValidDisk] at h
  split at h
  · rename_i e; subst e; cases h; exact sn_spec_l2WriteOk
  cases h
theorem lk_spec_ValidDisk_10 {R : Type} : LoopOk Try.prog R 57 0 pa_spec_ValidDisk L_spec_ValidDisk co_spec_ValidDisk_10 :=
  loop_key (cfg := ⟨ta_spec_ValidDisk, 0, 57, pa_spec_ValidDisk⟩) (key := 10) (by kernel_rfl) (by kernel_rfl) si_spec_ValidDisk rfl rfl (fun d k r h => ⟨fu_spec_ValidDisk_10 d.1 d.2.1 d.2.2.1, (lp_spec_ValidDisk_10 _ d k).trans h⟩) (fun c hc => by rw [show loopsIn co_spec_ValidDisk_10 = [] from by kernel_rfl] at hc; cases hc)
theorem lk_spec_ValidDisk_5 {R : Type} : LoopOk Try.prog R 57 0 pa_spec_ValidDisk L_spec_ValidDisk co_spec_ValidDisk_5 :=
  loop_key (cfg := ⟨ta_spec_ValidDisk, 0, 57, pa_spec_ValidDisk⟩) (key := 5) (by kernel_rfl) (by kernel_rfl) si_spec_ValidDisk rfl rfl (fun d k r h => ⟨fu_spec_ValidDisk_5 d.1 d.2.1 d.2.2.1, (lp_spec_ValidDisk_5 _ d k).trans h⟩) (fun c hc => by rw [show loopsIn co_spec_ValidDisk_5 = [] from by kernel_rfl] at hc; cases hc)
theorem sn_spec_ValidDisk : Callable Try.prog 102 ∧ Sound Try.prog 102 sd_spec_ValidDisk.sg sd_spec_ValidDisk.den :=
  fn_loops (pat := pa_spec_ValidDisk) L_spec_ValidDisk (by kernel_rfl) si_spec_ValidDisk Try.func102 (by kernel_rfl) (by kernel_rfl) (fun c hc => by rw [show loopsIn (bodyOf Try.f102) = [co_spec_ValidDisk_5, co_spec_ValidDisk_10] from by kernel_rfl] at hc; simp only [List.mem_cons, List.not_mem_nil, or_false] at hc; rcases hc with rfl | rfl <;> first | exact lk_spec_ValidDisk_5 | exact lk_spec_ValidDisk_10) fun x r h => by
    obtain ⟨a0, ⟨⟩⟩ := x; rw [← h]; exact (en_spec_ValidDisk a0).trans (eq_spec_ValidDisk a0)
def m_spec_l2Copy (d : Dk) : Option Dk := if d.1.length ≤ 1099511627776 ∧ d.2.1.length ≤ 1099511627776 then some d else none
def sg_spec_l2Copy : Sig := ⟨[.rd (.pair (.sl .str) (.pair (.sl (.pair (.int .i64) (.pair .str .unit))) .unit))], [some 2], [.own 9 .str, .own 148 (.pair (.int .i64) (.pair .str .unit))], [some 2]⟩
noncomputable def sd_spec_l2Copy : SD := ⟨sg_spec_l2Copy, fun x => (m_spec_l2Copy x.1).bind fun r => some ((r.1, r.2.1, ()), (()))⟩
noncomputable def ta_spec_l2Copy : Tb := Tb.of fun f => none
def pa_spec_l2Copy : Nat → Pat × (Nat → Pat) := fun k => (⟨[], [], []⟩, fun _ => ⟨[], [], []⟩)
noncomputable def de_spec_l2Copy (a0 : (List ByteArray) × (List (Int × ByteArray × Unit)) × Unit) : Option ((((List ByteArray) × (List (Int × ByteArray × Unit)) × Unit) × (Unit))) :=
  bif decide ((0 + List.length a0.fst) * 16 ≤ 140737488355328) then
    bif decide ((0 + List.length a0.snd.fst) * 24 ≤ 140737488355328) then some (([] ++ a0.fst, [] ++ a0.snd.fst, ()), ()) else none
  else none
theorem eq_spec_l2Copy (a0 : Dk) r (h : m_spec_l2Copy a0 = some r) : de_spec_l2Copy a0 = some ((r.1, r.2.1, ()), (())) := by
  unfold m_spec_l2Copy at h
  split at h
  · rename_i hc
    cases h
    unfold de_spec_l2Copy
    have c1 : (0 + List.length a0.1) * 16 ≤ 140737488355328 := by omega
    have c2 : (0 + List.length a0.2.1) * 24 ≤ 140737488355328 := by omega
    rw [decide_eq_true c1, decide_eq_true c2]
    rfl
  · cases h
theorem en_spec_l2Copy (a0 : (List ByteArray) × (List (Int × ByteArray × Unit)) × Unit) : evalF Try.prog ta_spec_l2Copy pa_spec_l2Copy sg_spec_l2Copy Try.f103 noL (a0, ()) = de_spec_l2Copy a0 := by kernel_rfl
theorem si_spec_l2Copy : SigsOk Try.prog ta_spec_l2Copy := SigsOk.of fun f sd h => by
  try dsimp only [Tb.of, ta_spec_l2Copy] at h
  cases h
theorem sn_spec_l2Copy : Callable Try.prog 103 ∧ Sound Try.prog 103 sd_spec_l2Copy.sg sd_spec_l2Copy.den :=
  fn_plain (pat := pa_spec_l2Copy) (by kernel_rfl) si_spec_l2Copy Try.func103 (by kernel_rfl) (by kernel_rfl) (by kernel_rfl) fun x r h => by
    obtain ⟨a0, ⟨⟩⟩ := x; obtain ⟨y, h1, h2⟩ := Option.bind_eq_some_iff.1 (show (m_spec_l2Copy a0).bind (fun r => some ((r.1, r.2.1, ()), (()))) = some r from h); cases h2; exact (en_spec_l2Copy a0).trans (eq_spec_l2Copy a0 _ h1)
def m_spec_l2Sync (d : Dk) : Option Dk := if d.2.1.length ≤ 1099511627776 ∧ ∀ i, i < d.2.1.length → 0 ≤ (d.2.1.getD i zW).1 ∧ (d.2.1.getD i zW).1 < (d.1.length : Int) then some (syncD d) else none
def sg_spec_l2Sync : Sig := ⟨[.own 9 .str, .rd (.sl (.pair (.int .i64) (.pair .str .unit)))], [some 2], [.own 9 .str, .own 148 (.pair (.int .i64) (.pair .str .unit))], [some 2]⟩
noncomputable def sd_spec_l2Sync : SD := ⟨sg_spec_l2Sync, fun x => (m_spec_l2Sync (x.1, x.2.1, ())).bind fun r => some ((r.1, r.2.1, ()), (()))⟩
noncomputable def ta_spec_l2Sync : Tb := Tb.of fun f => none
def pa_spec_l2Sync : Nat → Pat × (Nat → Pat) := fun k => if k = 3 then (⟨[.boxSl 1 1 (.pair (.int .i64) (.pair .str .unit)), .boxRow 2 0 9 .str, .boxRow 2 1 148 (.pair (.int .i64) (.pair .str .unit))], [(1, .lf (.ptr 1 0)), (2, .lf (.ptr 2 0)), (3, .lf (.d (.int .i64)))], [.row 9 .str, .box 47 [.row 0, .d (.sl (.pair (.int .i64) (.pair .str .unit)))], .box 47 [.row 3, .row 4], .row 9 .str, .row 148 (.pair (.int .i64) (.pair .str .unit))]⟩, fun e => if e = 2 then ⟨[.boxSl 1 1 (.pair (.int .i64) (.pair .str .unit)), .boxRow 2 0 9 .str, .boxRow 2 1 148 (.pair (.int .i64) (.pair .str .unit))], [(1, .lf (.ptr 1 0)), (2, .lf (.ptr 2 0))], [.row 9 .str, .box 47 [.row 0, .d (.sl (.pair (.int .i64) (.pair .str .unit)))], .box 47 [.row 3, .row 4], .row 9 .str, .row 148 (.pair (.int .i64) (.pair .str .unit))]⟩ else ⟨[], [], []⟩) else (⟨[], [], []⟩, fun _ => ⟨[], [], []⟩)
noncomputable def co_spec_l2Sync_3 : Code := (loopsIn (bodyOf Try.f104)).getD 0 .skip
def fu_spec_l2Sync_3 (v3 : Int) (r0 : List ByteArray) (b1_1 : List (Int × ByteArray × Unit)) (r3 : List ByteArray) (r4 : List (Int × ByteArray × Unit)) : Nat := ((b1_1.length : Int) - v3).toNat + 1
noncomputable def tr_spec_l2Sync_3 {R : Type}  (NX : ((Int) × (List ByteArray) × (List (Int × ByteArray × Unit)) × (List ByteArray) × (List (Int × ByteArray × Unit)) × Unit) → Option R) (X2 : ((List ByteArray) × (List (Int × ByteArray × Unit)) × (List ByteArray) × (List (Int × ByteArray × Unit)) × Unit) → Option R) (v3 : Int) (r0 : List ByteArray) (b1_1 : List (Int × ByteArray × Unit)) (r3 : List ByteArray) (r4 : List (Int × ByteArray × Unit)) : Option R :=
  bif decide (v3 < nI (List.length b1_1)) then
    bif decide (0 ≤ v3) then
      bif decide (v3 < nI (List.length b1_1)) then
        bif decide (0 ≤ v3) then
          bif decide (v3 < nI (List.length b1_1)) then
            bif decide (0 ≤ (List.getD b1_1 (Int.toNat v3) (0, ByteArray.mk #[], ())).fst) then
              bif decide ((List.getD b1_1 (Int.toNat v3) (0, ByteArray.mk #[], ())).fst < nI (List.length r0)) then
                bif decide (Int.toNat (List.getD b1_1 (Int.toNat v3) (0, ByteArray.mk #[], ())).fst < List.length r0) then
                  NX
                    (IntKind.wrap IntKind.i64 (v3 + 1),
                      List.set r0 (Int.toNat (List.getD b1_1 (Int.toNat v3) (0, ByteArray.mk #[], ())).fst) (List.getD b1_1 (Int.toNat v3) (0, ByteArray.mk #[], ())).snd.fst, b1_1, r3, r4, ())
                else none
              else none
            else none
          else none
        else none
      else none
    else none
  else X2 (r0, b1_1, r3, r4, ())
noncomputable def lo_spec_l2Sync_3 : Nat → (Int) → (List ByteArray) → (List (Int × ByteArray × Unit)) → (List ByteArray) → (List (Int × ByteArray × Unit)) →  Option ((List ByteArray) × (List (Int × ByteArray × Unit)) × (List ByteArray) × (List (Int × ByteArray × Unit)) × Unit)
  | 0, _, _, _, _, _ => none
  | m + 1, v3, r0, b1_1, r3, r4 => tr_spec_l2Sync_3  (fun d => lo_spec_l2Sync_3 m d.1 d.2.1 d.2.2.1 d.2.2.2.1 d.2.2.2.2.1) (fun d => some (d)) v3 r0 b1_1 r3 r4
theorem na_spec_l2Sync_3 {R S : Type}  (NX : ((Int) × (List ByteArray) × (List (Int × ByteArray × Unit)) × (List ByteArray) × (List (Int × ByteArray × Unit)) × Unit) → Option R) (X2 : ((List ByteArray) × (List (Int × ByteArray × Unit)) × (List ByteArray) × (List (Int × ByteArray × Unit)) × Unit) → Option R) (v3 : Int) (r0 : List ByteArray) (b1_1 : List (Int × ByteArray × Unit)) (r3 : List ByteArray) (r4 : List (Int × ByteArray × Unit)) (f : R → Option S) : tr_spec_l2Sync_3  (fun d => (NX d).bind f) (fun d => (X2 d).bind f) v3 r0 b1_1 r3 r4 = (tr_spec_l2Sync_3  NX X2 v3 r0 b1_1 r3 r4).bind f := by
  unfold tr_spec_l2Sync_3
  simp only [cond_bind, ite_bind, onSum_bind, Option.bind_assoc, Option.bind_none, Option.bind_some]
noncomputable def de_spec_l2Sync (a0 : List ByteArray) (a1 : List (Int × ByteArray × Unit)) : Option ((((List ByteArray) × (List (Int × ByteArray × Unit)) × Unit) × (Unit))) :=
  Option.bind ((fun d => lo_spec_l2Sync_3 (fu_spec_l2Sync_3 d.1 d.2.1 d.2.2.1 d.2.2.2.1 d.2.2.2.2.1) d.1 d.2.1 d.2.2.1 d.2.2.2.1 d.2.2.2.2.1) (0, a0, a1, [], [], ())) fun val => some ((val.fst, [], ()), ())
theorem eq_spec_l2Sync (a0 : List ByteArray) (a1 : List Wr) r (h : m_spec_l2Sync (a0, a1, ()) = some r) : de_spec_l2Sync a0 a1 = some ((r.1, r.2.1, ()), (())) := by
  unfold m_spec_l2Sync at h
  split at h
  · rename_i hc
    obtain ⟨hp, hw⟩ := hc
    cases h
    have hL := fold_loop (xs := a1) zW (fun s : List ByteArray => s.length = a0.length) (fun _ w s => s.set w.1.toNat w.2.1) (g := fun m i s => lo_spec_l2Sync_3 m i s a1 [] []) (ok := fun s => (s, a1, [], [], ())) (fun m i s hi hs => by
      show lo_spec_l2Sync_3 (m + 1) i s a1 [] [] = _
      simp only [lo_spec_l2Sync_3, tr_spec_l2Sync_3]
      obtain ⟨h0, h1⟩ := hw i hi
      have c1 : decide (0 ≤ (List.getD a1 i (0, ByteArray.mk #[], ())).1) = true := decide_eq_true h0
      have c2 : decide ((List.getD a1 i (0, ByteArray.mk #[], ())).1 < nI s.length) = true := decide_eq_true (by rw [hs]; exact h1)
      have c3 : decide (Int.toNat (List.getD a1 i (0, ByteArray.mk #[], ())).1 < s.length) = true := decide_eq_true (by
        rw [hs]
        have : (a1.getD i zW).1.toNat < a0.length := by
          have h0 : 0 ≤ (a1.getD i zW).1 := h0
          have h1 : (a1.getD i zW).1 < (a0.length : Int) := h1
          omega
        exact this)
      rw [cLt hi, cLe0, wI (show i < 4611686018427387904 by have hp : a1.length ≤ 1099511627776 := hp; omega), Int.toNat_natCast, c1, c2, c3]
      rfl) (fun i s hi hs => by rw [List.length_set]; exact hs) (fun m s hs => by
      show lo_spec_l2Sync_3 (m + 1) (a1.length : Int) s a1 [] [] = _
      simp only [lo_spec_l2Sync_3, tr_spec_l2Sync_3]
      rw [cLtF]
      rfl) (fu_spec_l2Sync_3 0 a0 a1 [] []) 0 a0 (by omega) (by simp [fu_spec_l2Sync_3]) rfl
    have hL' : lo_spec_l2Sync_3 (fu_spec_l2Sync_3 0 a0 a1 [] []) 0 a0 a1 [] [] = _ := hL
    unfold de_spec_l2Sync
    show (lo_spec_l2Sync_3 (fu_spec_l2Sync_3 0 a0 a1 [] []) 0 a0 a1 [] []).bind _ = _
    rw [hL']
    rfl
  · cases h
noncomputable def ou_spec_l2Sync_3 {R : Type} (k : Kt R) : ((List ByteArray) × (List (Int × ByteArray × Unit)) × (List ByteArray) × (List (Int × ByteArray × Unit)) × Unit) → Option R := (fun d => k (.exit 0) (((pa_spec_l2Sync 3).2 2).st d) (((pa_spec_l2Sync 3).2 2).nid))
noncomputable def L_spec_l2Sync {R : Type} : Lt R pa_spec_l2Sync := (addL (pat := pa_spec_l2Sync) 3 (fun d k => (lo_spec_l2Sync_3 (fu_spec_l2Sync_3 d.1 d.2.1 d.2.2.1 d.2.2.2.1 d.2.2.2.2.1) d.1 d.2.1 d.2.2.1 d.2.2.2.1 d.2.2.2.2.1).bind (ou_spec_l2Sync_3 k)) noL)
theorem rd_spec_l2Sync_3 {R : Type} (nx : (pa_spec_l2Sync 3).1.D → Kt R → Option R) (k : Kt R) (v3 : Int) (r0 : List ByteArray) (b1_1 : List (Int × ByteArray × Unit)) (r3 : List ByteArray) (r4 : List (Int × ByteArray × Unit)) : ev Try.prog ⟨ta_spec_l2Sync, 1, 29, pa_spec_l2Sync⟩ L_spec_l2Sync co_spec_l2Sync_3 ((pa_spec_l2Sync 3).1.st (v3, r0, b1_1, r3, r4, ())) (pa_spec_l2Sync 3).1.nid (roundK 1 (pa_spec_l2Sync 3) nx k) = tr_spec_l2Sync_3  (fun d => nx d k) (fun d => k (.exit 0) (((pa_spec_l2Sync 3).2 2).st d) (((pa_spec_l2Sync 3).2 2).nid)) v3 r0 b1_1 r3 r4 := by kernel_rfl
theorem lp_spec_l2Sync_3 {R : Type} : ∀ (m : Nat) (d : (pa_spec_l2Sync 3).1.D) (k : Kt R), loopN 1 (pa_spec_l2Sync 3) (fun s nid k => ev Try.prog ⟨ta_spec_l2Sync, 1, 29, pa_spec_l2Sync⟩ L_spec_l2Sync co_spec_l2Sync_3 s nid k) m d k = (lo_spec_l2Sync_3 m d.1 d.2.1 d.2.2.1 d.2.2.2.1 d.2.2.2.2.1).bind (ou_spec_l2Sync_3 k)
  | 0, _, _ => rfl
  | m + 1, ⟨v3, r0, b1_1, r3, r4, ⟨⟩⟩, k => (rd_spec_l2Sync_3 _ k v3 r0 b1_1 r3 r4).trans ((congrArg (fun F => tr_spec_l2Sync_3  F (fun d => k (.exit 0) (((pa_spec_l2Sync 3).2 2).st d) (((pa_spec_l2Sync 3).2 2).nid)) v3 r0 b1_1 r3 r4) (funext fun d => lp_spec_l2Sync_3 m d k)).trans (na_spec_l2Sync_3 (f := ou_spec_l2Sync_3 k)  (fun d => lo_spec_l2Sync_3 m d.1 d.2.1 d.2.2.1 d.2.2.2.1 d.2.2.2.2.1) (fun d => some (d)) v3 r0 b1_1 r3 r4))
theorem en_spec_l2Sync (a0 : List ByteArray) (a1 : List (Int × ByteArray × Unit)) : evalF Try.prog ta_spec_l2Sync pa_spec_l2Sync sg_spec_l2Sync Try.f104 L_spec_l2Sync (a0, a1, ()) = de_spec_l2Sync a0 a1 := by kernel_rfl
theorem si_spec_l2Sync : SigsOk Try.prog ta_spec_l2Sync := SigsOk.of fun f sd h => by
  try dsimp only [Tb.of, ta_spec_l2Sync] at h
  cases h
theorem lk_spec_l2Sync_3 {R : Type} : LoopOk Try.prog R 29 1 pa_spec_l2Sync L_spec_l2Sync co_spec_l2Sync_3 :=
  loop_key (cfg := ⟨ta_spec_l2Sync, 1, 29, pa_spec_l2Sync⟩) (key := 3) (by kernel_rfl) (by kernel_rfl) si_spec_l2Sync rfl rfl (fun d k r h => ⟨fu_spec_l2Sync_3 d.1 d.2.1 d.2.2.1 d.2.2.2.1 d.2.2.2.2.1, (lp_spec_l2Sync_3 _ d k).trans h⟩) (fun c hc => by rw [show loopsIn co_spec_l2Sync_3 = [] from by kernel_rfl] at hc; cases hc)
theorem sn_spec_l2Sync : Callable Try.prog 104 ∧ Sound Try.prog 104 sd_spec_l2Sync.sg sd_spec_l2Sync.den :=
  fn_loops (pat := pa_spec_l2Sync) L_spec_l2Sync (by kernel_rfl) si_spec_l2Sync Try.func104 (by kernel_rfl) (by kernel_rfl) (fun c hc => by rw [show loopsIn (bodyOf Try.f104) = [co_spec_l2Sync_3] from by kernel_rfl] at hc; simp only [List.mem_cons, List.not_mem_nil, or_false] at hc; rcases hc with rfl <;> first | exact lk_spec_l2Sync_3) fun x r h => by
    obtain ⟨a0, a1, ⟨⟩⟩ := x; obtain ⟨y, h1, h2⟩ := Option.bind_eq_some_iff.1 (show (m_spec_l2Sync (a0, a1, ())).bind (fun r => some ((r.1, r.2.1, ()), (()))) = some r from h); cases h2; exact (en_spec_l2Sync a0 a1).trans (eq_spec_l2Sync a0 a1 _ h1)
def m_spec_Perform (d : Dk) (ops : List Opn) (n : Int) : Option Dk := if ops.length ≤ 1099511627776 then some (performS d ops n) else none
def sg_spec_Perform : Sig := ⟨[.rd (.pair (.sl .str) (.pair (.sl (.pair (.int .i64) (.pair .str .unit))) .unit)), .rd (.sl (.pair .bool (.pair (.int .i64) (.pair .str .unit)))), .rd (.int .i64)], [some 2, none, none], [.own 9 .str, .own 148 (.pair (.int .i64) (.pair .str .unit))], [some 2]⟩
noncomputable def sd_spec_Perform : SD := ⟨sg_spec_Perform, fun x => (m_spec_Perform x.1 x.2.1 x.2.2.1).bind fun r => some ((r.1, r.2.1, ()), (()))⟩
noncomputable def ta_spec_Perform : Tb := Tb.of fun f => if f = 102 then some sd_spec_ValidDisk else if f = 103 then some sd_spec_l2Copy else if f = 104 then some sd_spec_l2Sync else if f = 105 then some sd_spec_l2WriteOk else none
def pa_spec_Perform : Nat → Pat × (Nat → Pat) := fun k => if k = 6 then (⟨[.sl 1 0 (.pair .bool (.pair (.int .i64) (.pair .str .unit))), .boxRow 6 0 9 .str, .boxRow 6 1 148 (.pair (.int .i64) (.pair .str .unit)), .boxRow 7 0 9 .str, .boxRow 7 1 148 (.pair (.int .i64) (.pair .str .unit))], [(1, .lf (.d (.sl (.pair .bool (.pair (.int .i64) (.pair .str .unit)))))), (2, .lf (.d (.int .i64))), (6, .lf (.ptr 0 0)), (7, .lf (.ptr 1 0)), (8, .lf (.d (.int .i64)))], [.box 47 [.row 2, .row 3], .box 47 [.row 4, .row 5], .row 9 .str, .row 148 (.pair (.int .i64) (.pair .str .unit)), .row 9 .str, .row 148 (.pair (.int .i64) (.pair .str .unit))]⟩, fun e => if e = 2 then ⟨[.boxRow 6 0 9 .str, .boxRow 6 1 148 (.pair (.int .i64) (.pair .str .unit)), .boxRow 7 0 9 .str, .boxRow 7 1 148 (.pair (.int .i64) (.pair .str .unit))], [(6, .lf (.ptr 0 0)), (7, .lf (.ptr 1 0))], [.box 47 [.row 2, .row 3], .box 47 [.row 4, .row 5], .row 9 .str, .row 148 (.pair (.int .i64) (.pair .str .unit)), .row 9 .str, .row 148 (.pair (.int .i64) (.pair .str .unit))]⟩ else ⟨[], [], []⟩) else (⟨[], [], []⟩, fun _ => ⟨[], [], []⟩)
noncomputable def co_spec_Perform_6 : Code := (loopsIn (bodyOf Try.f28)).getD 0 .skip
def fu_spec_Perform_6 (v1 : List (Bool × Int × ByteArray × Unit)) (v2 : Int) (v8 : Int) (r2 : List ByteArray) (r3 : List (Int × ByteArray × Unit)) (r4 : List ByteArray) (r5 : List (Int × ByteArray × Unit)) : Nat := ((v1.length : Int) - v8).toNat + 1
noncomputable def tr_spec_Perform_6 {R : Type}  (NX : ((List (Bool × Int × ByteArray × Unit)) × (Int) × (Int) × (List ByteArray) × (List (Int × ByteArray × Unit)) × (List ByteArray) × (List (Int × ByteArray × Unit)) × Unit) → Option R) (X2 : ((List ByteArray) × (List (Int × ByteArray × Unit)) × (List ByteArray) × (List (Int × ByteArray × Unit)) × Unit) → Option R) (v1 : List (Bool × Int × ByteArray × Unit)) (v2 : Int) (v8 : Int) (r2 : List ByteArray) (r3 : List (Int × ByteArray × Unit)) (r4 : List ByteArray) (r5 : List (Int × ByteArray × Unit)) : Option R :=
  bif decide (v8 < nI (List.length v1)) then
    bif decide (v8 < v2) then
      bif decide (0 ≤ v8) then
        bif decide (v8 < nI (List.length v1)) then
          bif (List.getD v1 (Int.toNat v8) (false, 0, ByteArray.mk #[], ())).fst then
            Option.bind (Option.bind (m_spec_l2Sync (r4, r5, ())) fun val => some ((val.fst, val.snd.fst, ()), ())) fun val =>
              NX (v1, v2, IntKind.wrap IntKind.i64 (v8 + 1), r2, r3, val.fst.fst, val.fst.snd.fst, ())
          else
            bif decide (0 ≤ v8) then
              bif decide (v8 < nI (List.length v1)) then
                bif decide (0 ≤ v8) then
                  bif decide (v8 < nI (List.length v1)) then
                    bif
                        m_spec_l2WriteOk (r4, r5, ()) (List.getD v1 (Int.toNat v8) (false, 0, ByteArray.mk #[], ())).snd.fst
                          (List.getD v1 (Int.toNat v8) (false, 0, ByteArray.mk #[], ())).snd.snd.fst then
                      bif decide (nI (List.length r5) < 300) then
                        bif decide (0 ≤ v8) then
                          bif decide (v8 < nI (List.length v1)) then
                            bif decide (0 ≤ v8) then
                              bif decide (v8 < nI (List.length v1)) then
                                bif
                                    decide
                                      ((List.length r5 +
                                            List.length
                                              [((List.getD v1 (Int.toNat v8) (false, 0, ByteArray.mk #[], ())).snd.fst, (List.getD v1 (Int.toNat v8) (false, 0, ByteArray.mk #[], ())).snd.snd.fst,
                                                  ())]) *
                                          24 ≤
                                        140737488355328) then
                                  NX
                                    (v1, v2, IntKind.wrap IntKind.i64 (v8 + 1), r2, r3, r4,
                                      r5 ++ [((List.getD v1 (Int.toNat v8) (false, 0, ByteArray.mk #[], ())).snd.fst, (List.getD v1 (Int.toNat v8) (false, 0, ByteArray.mk #[], ())).snd.snd.fst, ())],
                                      ())
                                else none
                              else none
                            else none
                          else none
                        else none
                      else NX (v1, v2, IntKind.wrap IntKind.i64 (v8 + 1), r2, r3, r4, r5, ())
                    else NX (v1, v2, IntKind.wrap IntKind.i64 (v8 + 1), r2, r3, r4, r5, ())
                  else none
                else none
              else none
            else none
        else none
      else none
    else X2 (r2, r3, r4, r5, ())
  else X2 (r2, r3, r4, r5, ())
noncomputable def lo_spec_Perform_6 : Nat → (List (Bool × Int × ByteArray × Unit)) → (Int) → (Int) → (List ByteArray) → (List (Int × ByteArray × Unit)) → (List ByteArray) → (List (Int × ByteArray × Unit)) →  Option ((List ByteArray) × (List (Int × ByteArray × Unit)) × (List ByteArray) × (List (Int × ByteArray × Unit)) × Unit)
  | 0, _, _, _, _, _, _, _ => none
  | m + 1, v1, v2, v8, r2, r3, r4, r5 => tr_spec_Perform_6  (fun d => lo_spec_Perform_6 m d.1 d.2.1 d.2.2.1 d.2.2.2.1 d.2.2.2.2.1 d.2.2.2.2.2.1 d.2.2.2.2.2.2.1) (fun d => some (d)) v1 v2 v8 r2 r3 r4 r5
theorem na_spec_Perform_6 {R S : Type}  (NX : ((List (Bool × Int × ByteArray × Unit)) × (Int) × (Int) × (List ByteArray) × (List (Int × ByteArray × Unit)) × (List ByteArray) × (List (Int × ByteArray × Unit)) × Unit) → Option R) (X2 : ((List ByteArray) × (List (Int × ByteArray × Unit)) × (List ByteArray) × (List (Int × ByteArray × Unit)) × Unit) → Option R) (v1 : List (Bool × Int × ByteArray × Unit)) (v2 : Int) (v8 : Int) (r2 : List ByteArray) (r3 : List (Int × ByteArray × Unit)) (r4 : List ByteArray) (r5 : List (Int × ByteArray × Unit)) (f : R → Option S) : tr_spec_Perform_6  (fun d => (NX d).bind f) (fun d => (X2 d).bind f) v1 v2 v8 r2 r3 r4 r5 = (tr_spec_Perform_6  NX X2 v1 v2 v8 r2 r3 r4 r5).bind f := by
  unfold tr_spec_Perform_6
  simp only [cond_bind, ite_bind, onSum_bind, Option.bind_assoc, Option.bind_none, Option.bind_some]
noncomputable def de_spec_Perform (a0 : (List ByteArray) × (List (Int × ByteArray × Unit)) × Unit) (a1 : List (Bool × Int × ByteArray × Unit)) (a2 : Int) : Option ((((List ByteArray) × (List (Int × ByteArray × Unit)) × Unit) × (Unit))) :=
  bif !m_spec_ValidDisk (a0.fst, a0.snd.fst, ()) then some (([], [], ()), ())
  else
    Option.bind (Option.bind (m_spec_l2Copy (a0.fst, a0.snd.fst, ())) fun val => some ((val.fst, val.snd.fst, ()), ())) fun val =>
      Option.bind ((fun d => lo_spec_Perform_6 (fu_spec_Perform_6 d.1 d.2.1 d.2.2.1 d.2.2.2.1 d.2.2.2.2.1 d.2.2.2.2.2.1 d.2.2.2.2.2.2.1) d.1 d.2.1 d.2.2.1 d.2.2.2.1 d.2.2.2.2.1 d.2.2.2.2.2.1 d.2.2.2.2.2.2.1) (a1, a2, 0, [], [], val.fst.fst, val.fst.snd.fst, ())) fun val => some ((val.snd.snd.fst, val.snd.snd.snd.fst, ()), ())
theorem eq_spec_Perform (a0 : (List ByteArray) × (List (Int × ByteArray × Unit)) × Unit) (a1 : List (Bool × Int × ByteArray × Unit)) (a2 : Int) r (h : m_spec_Perform a0 a1 a2 = some r) : de_spec_Perform a0 a1 a2 = some ((r.1, r.2.1, ()), (())) := by
  unfold m_spec_Perform at h
  split at h
  rotate_left
  · cases h
  rename_i hlen
  cases h
  unfold de_spec_Perform performS
  show (bif !validDisk a0 then _ else _) = _
  cases hv : validDisk a0 with
  | false => rfl
  | true =>
    have hok := disk_ok hv
    have e1 : m_spec_l2Copy (a0.1, a0.2.1, ()) = some (a0.1, a0.2.1, ()) := if_pos ⟨Nat.le_trans hok.n200 (by decide), Nat.le_trans hok.p300 (by decide)⟩
    have hxl : (a1.take a2.toNat).length = min a2.toNat a1.length := List.length_take
    have hL := foldi_loop (xs := a1.take a2.toNat) zOp (fun _ d => DiskOk d) (fun _ o d => opS d o) (g := fun m i d => lo_spec_Perform_6 m a1 a2 i [] [] d.1 d.2.1) (ok := fun d : Dk => ([], [], d.1, d.2.1, ())) (fun m i d hi hI => by
      show lo_spec_Perform_6 (m + 1) a1 a2 i [] [] d.1 d.2.1 = _
      simp only [lo_spec_Perform_6, tr_spec_Perform_6]
      rw [hxl] at hi
      have hi1 : i < a1.length := by omega
      have hi2 : decide ((i : Int) < a2) = true := decide_eq_true (by omega)
      have hg : (a1.take a2.toNat).getD i zOp = List.getD a1 i (false, 0, ByteArray.mk #[], ()) := by
        rw [List.getD_eq_getElem?_getD, List.getElem?_take, if_pos (by omega), ← List.getD_eq_getElem?_getD]
        rfl
      rw [hg, hi2, cLt hi1, cLe0, wI (show i < 4611686018427387904 by omega), Int.toNat_natCast]
      simp only [cond_true]
      generalize List.getD a1 i (false, 0, ByteArray.mk #[], ()) = o
      unfold opS
      cases ho : o.1 with
      | true =>
        simp only [cond_true]
        have e2 : m_spec_l2Sync (d.1, d.2.1, ()) = some (syncD d) := if_pos ⟨Nat.le_trans hI.p300 (by decide), fun k hk => ⟨(hI.pen k hk).1, (hI.pen k hk).2.1⟩⟩
        rw [e2]
        rfl
      | false =>
        simp only [cond_false]
        have hn := hI.n8
        have hn2 := hI.n200
        have hp := hI.p300
        have e4 : decide (nI d.2.1.length < 300) = decide (d.2.1.length < 300) := decide_eq_decide.2 (by simp only [nI]; omega)
        have e5 : decide ((d.2.1.length + 1) * 24 ≤ 140737488355328) = true := decide_eq_true (by omega)
        simp only [List.length_singleton, e4, e5, m_spec_l2WriteOk, okWr, cond_true]
        show _ = lo_spec_Perform_6 m a1 a2 _ [] [] (bif (decide (0 ≤ o.2.1) && (decide (o.2.1 < (d.1.length : Int)) && decide (o.2.2.1.size = 64))) && decide (d.2.1.length < 300) then (d.1, d.2.1 ++ [(o.2.1, o.2.2.1, ())], ()) else d).1 (bif (decide (0 ≤ o.2.1) && (decide (o.2.1 < (d.1.length : Int)) && decide (o.2.2.1.size = 64))) && decide (d.2.1.length < 300) then (d.1, d.2.1 ++ [(o.2.1, o.2.2.1, ())], ()) else d).2.1
        cases decide (0 ≤ o.2.1) <;> cases decide (o.2.1 < (d.1.length : Int)) <;> cases decide (o.2.2.1.size = 64) <;> cases decide (d.2.1.length < 300) <;> rfl) (fun i d hi hI => hI.op _) (fun m d hI => by
      show lo_spec_Perform_6 (m + 1) a1 a2 (((a1.take a2.toNat).length : Nat) : Int) [] [] d.1 d.2.1 = _
      simp only [lo_spec_Perform_6, tr_spec_Perform_6]
      rw [hxl]
      by_cases q : ((min a2.toNat a1.length : Nat) : Int) < a2
      · rw [decide_eq_false (show ¬ ((min a2.toNat a1.length : Nat) : Int) < nI a1.length by simp only [nI]; omega)]
        rfl
      · rw [decide_eq_false q]
        cases decide (((min a2.toNat a1.length : Nat) : Int) < nI a1.length) <;> rfl) (fu_spec_Perform_6 a1 a2 0 [] [] a0.1 a0.2.1) 0 a0 (by omega) (by rw [hxl]; simp only [fu_spec_Perform_6, nI]; omega) hok
    have hL' : lo_spec_Perform_6 (fu_spec_Perform_6 a1 a2 0 [] [] a0.1 a0.2.1) a1 a2 0 [] [] a0.1 a0.2.1 = _ := hL
    simp only [Bool.not_true, cond_false]
    rw [e1]
    show (lo_spec_Perform_6 (fu_spec_Perform_6 a1 a2 0 [] [] a0.1 a0.2.1) a1 a2 0 [] [] a0.1 a0.2.1).bind _ = _
    rw [hL', List.drop_zero]
    have hf : ∀ (l : List Opn) (i : Nat) (d : Dk), foldI (fun _ o d => opS d o) i l d = l.foldl opS d := fun l => by
      induction l with
      | nil => intro i d; rfl
      | cons o r ih => intro i d; exact ih _ _
    rw [hf]
    rfl
noncomputable def ou_spec_Perform_6 {R : Type} (k : Kt R) : ((List ByteArray) × (List (Int × ByteArray × Unit)) × (List ByteArray) × (List (Int × ByteArray × Unit)) × Unit) → Option R := (fun d => k (.exit 0) (((pa_spec_Perform 6).2 2).st d) (((pa_spec_Perform 6).2 2).nid))
noncomputable def L_spec_Perform {R : Type} : Lt R pa_spec_Perform := (addL (pat := pa_spec_Perform) 6 (fun d k => (lo_spec_Perform_6 (fu_spec_Perform_6 d.1 d.2.1 d.2.2.1 d.2.2.2.1 d.2.2.2.2.1 d.2.2.2.2.2.1 d.2.2.2.2.2.2.1) d.1 d.2.1 d.2.2.1 d.2.2.2.1 d.2.2.2.2.1 d.2.2.2.2.2.1 d.2.2.2.2.2.2.1).bind (ou_spec_Perform_6 k)) noL)
theorem rd_spec_Perform_6 {R : Type} (nx : (pa_spec_Perform 6).1.D → Kt R → Option R) (k : Kt R) (v1 : List (Bool × Int × ByteArray × Unit)) (v2 : Int) (v8 : Int) (r2 : List ByteArray) (r3 : List (Int × ByteArray × Unit)) (r4 : List ByteArray) (r5 : List (Int × ByteArray × Unit)) : ev Try.prog ⟨ta_spec_Perform, 0, 68, pa_spec_Perform⟩ L_spec_Perform co_spec_Perform_6 ((pa_spec_Perform 6).1.st (v1, v2, v8, r2, r3, r4, r5, ())) (pa_spec_Perform 6).1.nid (roundK 0 (pa_spec_Perform 6) nx k) = tr_spec_Perform_6  (fun d => nx d k) (fun d => k (.exit 0) (((pa_spec_Perform 6).2 2).st d) (((pa_spec_Perform 6).2 2).nid)) v1 v2 v8 r2 r3 r4 r5 := by kernel_rfl
theorem lp_spec_Perform_6 {R : Type} : ∀ (m : Nat) (d : (pa_spec_Perform 6).1.D) (k : Kt R), loopN 0 (pa_spec_Perform 6) (fun s nid k => ev Try.prog ⟨ta_spec_Perform, 0, 68, pa_spec_Perform⟩ L_spec_Perform co_spec_Perform_6 s nid k) m d k = (lo_spec_Perform_6 m d.1 d.2.1 d.2.2.1 d.2.2.2.1 d.2.2.2.2.1 d.2.2.2.2.2.1 d.2.2.2.2.2.2.1).bind (ou_spec_Perform_6 k)
  | 0, _, _ => rfl
  | m + 1, ⟨v1, v2, v8, r2, r3, r4, r5, ⟨⟩⟩, k => (rd_spec_Perform_6 _ k v1 v2 v8 r2 r3 r4 r5).trans ((congrArg (fun F => tr_spec_Perform_6  F (fun d => k (.exit 0) (((pa_spec_Perform 6).2 2).st d) (((pa_spec_Perform 6).2 2).nid)) v1 v2 v8 r2 r3 r4 r5) (funext fun d => lp_spec_Perform_6 m d k)).trans (na_spec_Perform_6 (f := ou_spec_Perform_6 k)  (fun d => lo_spec_Perform_6 m d.1 d.2.1 d.2.2.1 d.2.2.2.1 d.2.2.2.2.1 d.2.2.2.2.2.1 d.2.2.2.2.2.2.1) (fun d => some (d)) v1 v2 v8 r2 r3 r4 r5))
theorem en_spec_Perform (a0 : (List ByteArray) × (List (Int × ByteArray × Unit)) × Unit) (a1 : List (Bool × Int × ByteArray × Unit)) (a2 : Int) : evalF Try.prog ta_spec_Perform pa_spec_Perform sg_spec_Perform Try.f28 L_spec_Perform (a0, a1, a2, ()) = de_spec_Perform a0 a1 a2 := by kernel_rfl
theorem si_spec_Perform : SigsOk Try.prog ta_spec_Perform := SigsOk.of fun f sd h => by
  try dsimp only [Tb.of, ta_spec_Perform] at h
  split at h
  · rename_i e; subst e; cases h; exact sn_spec_ValidDisk
  split at h
  · rename_i e; subst e; cases h; exact sn_spec_l2Copy
  split at h
  · rename_i e; subst e; cases h; exact sn_spec_l2Sync
  split at h
  · rename_i e; subst e; cases h; exact sn_spec_l2WriteOk
  cases h
theorem lk_spec_Perform_6 {R : Type} : LoopOk Try.prog R 68 0 pa_spec_Perform L_spec_Perform co_spec_Perform_6 :=
  loop_key (cfg := ⟨ta_spec_Perform, 0, 68, pa_spec_Perform⟩) (key := 6) (by kernel_rfl) (by kernel_rfl) si_spec_Perform rfl rfl (fun d k r h => ⟨fu_spec_Perform_6 d.1 d.2.1 d.2.2.1 d.2.2.2.1 d.2.2.2.2.1 d.2.2.2.2.2.1 d.2.2.2.2.2.2.1, (lp_spec_Perform_6 _ d k).trans h⟩) (fun c hc => by rw [show loopsIn co_spec_Perform_6 = [] from by kernel_rfl] at hc; cases hc)
theorem sn_spec_Perform : Callable Try.prog 28 ∧ Sound Try.prog 28 sd_spec_Perform.sg sd_spec_Perform.den :=
  fn_loops (pat := pa_spec_Perform) L_spec_Perform (by kernel_rfl) si_spec_Perform Try.func28 (by kernel_rfl) (by kernel_rfl) (fun c hc => by rw [show loopsIn (bodyOf Try.f28) = [co_spec_Perform_6] from by kernel_rfl] at hc; simp only [List.mem_cons, List.not_mem_nil, or_false] at hc; rcases hc with rfl <;> first | exact lk_spec_Perform_6) fun x r h => by
    obtain ⟨a0, a1, a2, ⟨⟩⟩ := x; obtain ⟨y, h1, h2⟩ := Option.bind_eq_some_iff.1 (show (m_spec_Perform a0 a1 a2).bind (fun r => some ((r.1, r.2.1, ()), (()))) = some r from h); cases h2; exact (en_spec_Perform a0 a1 a2).trans (eq_spec_Perform a0 a1 a2 _ h1)
def m_laws_toStringS (a : List ByteArray) : Option (List ByteArray) := toM (.sl .str) a
def sg_laws_toStringS : Sig := ⟨[.rd (.sl .str)], [none], [.own 9 .str], [none]⟩
noncomputable def sd_laws_toStringS : SD := ⟨sg_laws_toStringS, fun x => (m_laws_toStringS x.1).bind fun r => some ((r, ()), (()))⟩
noncomputable def ta_laws_toStringS : Tb := Tb.of fun f => none
def pa_laws_toStringS : Nat → Pat × (Nat → Pat) := fun k => if k = 4 then (⟨[.sl 0 0 .str, .row 3 0 9 .str], [(0, .lf (.d (.sl .str))), (3, .lf (.row 0)), (4, .lf (.d (.int .i64)))], [.row 9 .str]⟩, fun e => if e = 2 then ⟨[.row 3 0 9 .str], [(3, .lf (.row 0))], [.row 9 .str]⟩ else ⟨[], [], []⟩) else (⟨[], [], []⟩, fun _ => ⟨[], [], []⟩)
noncomputable def co_laws_toStringS_4 : Code := (loopsIn (bodyOf Try.f106)).getD 0 .skip
def fu_laws_toStringS_4 (v0 : List ByteArray) (v4 : Int) (r0 : List ByteArray) : Nat := ((v0.length : Int) - v4).toNat + 1
noncomputable def tr_laws_toStringS_4 {R : Type}  (NX : ((List ByteArray) × (Int) × (List ByteArray) × Unit) → Option R) (X2 : ((List ByteArray) × Unit) → Option R) (v0 : List ByteArray) (v4 : Int) (r0 : List ByteArray) : Option R :=
  bif decide (v4 < nI (List.length v0)) then
    bif decide (0 ≤ v4) then
      bif decide (v4 < nI (List.length v0)) then
        bif decide (0 ≤ v4) then
          bif decide (v4 < nI (List.length r0)) then
            bif decide (Int.toNat v4 < List.length r0) then NX (v0, IntKind.wrap IntKind.i64 (v4 + 1), List.set r0 (Int.toNat v4) (List.getD v0 (Int.toNat v4) (ByteArray.mk #[])), ()) else none
          else none
        else none
      else none
    else none
  else X2 (r0, ())
noncomputable def lo_laws_toStringS_4 : Nat → (List ByteArray) → (Int) → (List ByteArray) →  Option ((List ByteArray) × Unit)
  | 0, _, _, _ => none
  | m + 1, v0, v4, r0 => tr_laws_toStringS_4  (fun d => lo_laws_toStringS_4 m d.1 d.2.1 d.2.2.1) (fun d => some (d)) v0 v4 r0
theorem na_laws_toStringS_4 {R S : Type}  (NX : ((List ByteArray) × (Int) × (List ByteArray) × Unit) → Option R) (X2 : ((List ByteArray) × Unit) → Option R) (v0 : List ByteArray) (v4 : Int) (r0 : List ByteArray) (f : R → Option S) : tr_laws_toStringS_4  (fun d => (NX d).bind f) (fun d => (X2 d).bind f) v0 v4 r0 = (tr_laws_toStringS_4  NX X2 v0 v4 r0).bind f := by
  unfold tr_laws_toStringS_4
  simp only [cond_bind, ite_bind, onSum_bind, Option.bind_assoc, Option.bind_none, Option.bind_some]
noncomputable def de_laws_toStringS (a0 : List ByteArray) : Option ((((List ByteArray) × Unit) × (Unit))) :=
  bif decide (nI (List.length a0) = nI (List.length a0)) then
    bif decide (Int.toNat (nI (List.length a0)) * 16 ≤ 140737488355328) then
      Option.bind ((fun d => lo_laws_toStringS_4 (fu_laws_toStringS_4 d.1 d.2.1 d.2.2.1) d.1 d.2.1 d.2.2.1) (a0, 0, List.replicate (Int.toNat (nI (List.length a0))) (ByteArray.mk #[]), ())) fun val => some ((val.fst, ()), ())
    else none
  else none
theorem eq_laws_toStringS (a0 : List ByteArray) r (h : m_laws_toStringS a0 = some r) : de_laws_toStringS a0 = some ((r, ()), (())) := by
  obtain ⟨hc, rfl⟩ := toM_some (t := .sl .str) h
  obtain ⟨hl0, hall⟩ := smallB_sl hc
  have hl : a0.length ≤ 1048576 := hl0
  clear hl0 hc h
  · unfold de_laws_toStringS
    have e : Int.toNat (nI a0.length) = a0.length := by simp [nI]
    have hL := to_loop (xs := a0) (ByteArray.mk #[]) (g := fun m i r => lo_laws_toStringS_4 m a0 i r) (ok := fun r => (r, ())) (fun m i r hi hr => by
      show lo_laws_toStringS_4 (m + 1) a0 i r = _
      simp only [lo_laws_toStringS_4, tr_laws_toStringS_4]
      have hir : i < r.length := by omega
      rw [cLt hi, cLe0, cLt hir, wI (by omega)]
      simp only [cond_true, Int.toNat_natCast]
      rw [cLtN hir]
      rfl) (fun m r => by
      show lo_laws_toStringS_4 (m + 1) a0 a0.length r = _
      simp only [lo_laws_toStringS_4, tr_laws_toStringS_4]
      rw [cLtF]
      rfl) (fu_laws_toStringS_4 a0 0 (List.replicate a0.length (ByteArray.mk #[]))) 0 (List.replicate a0.length (ByteArray.mk #[])) (by omega) (by simp [fu_laws_toStringS_4]) (by simp)
    have c1 : decide (Int.toNat (nI a0.length) * 16 ≤ 140737488355328) = true := by rw [e]; simp; omega
    rw [c1, decide_eq_true rfl, e]
    have hL' : lo_laws_toStringS_4 (fu_laws_toStringS_4 a0 0 (List.replicate a0.length (ByteArray.mk #[]))) a0 0 (List.replicate a0.length (ByteArray.mk #[])) = _ := hL
    show (lo_laws_toStringS_4 (fu_laws_toStringS_4 a0 0 (List.replicate a0.length (ByteArray.mk #[]))) a0 0 (List.replicate a0.length (ByteArray.mk #[]))).bind _ = _
    rw [hL']
    rfl
noncomputable def ou_laws_toStringS_4 {R : Type} (k : Kt R) : ((List ByteArray) × Unit) → Option R := (fun d => k (.exit 0) (((pa_laws_toStringS 4).2 2).st d) (((pa_laws_toStringS 4).2 2).nid))
noncomputable def L_laws_toStringS {R : Type} : Lt R pa_laws_toStringS := (addL (pat := pa_laws_toStringS) 4 (fun d k => (lo_laws_toStringS_4 (fu_laws_toStringS_4 d.1 d.2.1 d.2.2.1) d.1 d.2.1 d.2.2.1).bind (ou_laws_toStringS_4 k)) noL)
theorem rd_laws_toStringS_4 {R : Type} (nx : (pa_laws_toStringS 4).1.D → Kt R → Option R) (k : Kt R) (v0 : List ByteArray) (v4 : Int) (r0 : List ByteArray) : ev Try.prog ⟨ta_laws_toStringS, 0, 22, pa_laws_toStringS⟩ L_laws_toStringS co_laws_toStringS_4 ((pa_laws_toStringS 4).1.st (v0, v4, r0, ())) (pa_laws_toStringS 4).1.nid (roundK 0 (pa_laws_toStringS 4) nx k) = tr_laws_toStringS_4  (fun d => nx d k) (fun d => k (.exit 0) (((pa_laws_toStringS 4).2 2).st d) (((pa_laws_toStringS 4).2 2).nid)) v0 v4 r0 := by kernel_rfl
theorem lp_laws_toStringS_4 {R : Type} : ∀ (m : Nat) (d : (pa_laws_toStringS 4).1.D) (k : Kt R), loopN 0 (pa_laws_toStringS 4) (fun s nid k => ev Try.prog ⟨ta_laws_toStringS, 0, 22, pa_laws_toStringS⟩ L_laws_toStringS co_laws_toStringS_4 s nid k) m d k = (lo_laws_toStringS_4 m d.1 d.2.1 d.2.2.1).bind (ou_laws_toStringS_4 k)
  | 0, _, _ => rfl
  | m + 1, ⟨v0, v4, r0, ⟨⟩⟩, k => (rd_laws_toStringS_4 _ k v0 v4 r0).trans ((congrArg (fun F => tr_laws_toStringS_4  F (fun d => k (.exit 0) (((pa_laws_toStringS 4).2 2).st d) (((pa_laws_toStringS 4).2 2).nid)) v0 v4 r0) (funext fun d => lp_laws_toStringS_4 m d k)).trans (na_laws_toStringS_4 (f := ou_laws_toStringS_4 k)  (fun d => lo_laws_toStringS_4 m d.1 d.2.1 d.2.2.1) (fun d => some (d)) v0 v4 r0))
theorem en_laws_toStringS (a0 : List ByteArray) : evalF Try.prog ta_laws_toStringS pa_laws_toStringS sg_laws_toStringS Try.f106 L_laws_toStringS (a0, ()) = de_laws_toStringS a0 := by kernel_rfl
theorem si_laws_toStringS : SigsOk Try.prog ta_laws_toStringS := SigsOk.of fun f sd h => by
  try dsimp only [Tb.of, ta_laws_toStringS] at h
  cases h
theorem lk_laws_toStringS_4 {R : Type} : LoopOk Try.prog R 22 0 pa_laws_toStringS L_laws_toStringS co_laws_toStringS_4 :=
  loop_key (cfg := ⟨ta_laws_toStringS, 0, 22, pa_laws_toStringS⟩) (key := 4) (by kernel_rfl) (by kernel_rfl) si_laws_toStringS rfl rfl (fun d k r h => ⟨fu_laws_toStringS_4 d.1 d.2.1 d.2.2.1, (lp_laws_toStringS_4 _ d k).trans h⟩) (fun c hc => by rw [show loopsIn co_laws_toStringS_4 = [] from by kernel_rfl] at hc; cases hc)
theorem sn_laws_toStringS : Callable Try.prog 106 ∧ Sound Try.prog 106 sd_laws_toStringS.sg sd_laws_toStringS.den :=
  fn_loops (pat := pa_laws_toStringS) L_laws_toStringS (by kernel_rfl) si_laws_toStringS Try.func106 (by kernel_rfl) (by kernel_rfl) (fun c hc => by rw [show loopsIn (bodyOf Try.f106) = [co_laws_toStringS_4] from by kernel_rfl] at hc; simp only [List.mem_cons, List.not_mem_nil, or_false] at hc; rcases hc with rfl <;> first | exact lk_laws_toStringS_4) fun x r h => by
    obtain ⟨a0, ⟨⟩⟩ := x; obtain ⟨y, h1, h2⟩ := Option.bind_eq_some_iff.1 (show (m_laws_toStringS a0).bind (fun r => some ((r, ()), (()))) = some r from h); cases h2; exact (en_laws_toStringS a0).trans (eq_laws_toStringS a0 _ h1)
def m_laws_toWrite (a : Int × ByteArray × Unit) : Option (Int × ByteArray × Unit) := toM (.pair (.int .i64) (.pair .str .unit)) a
def sg_laws_toWrite : Sig := ⟨[.rd (.pair (.int .i64) (.pair .str .unit))], [some 2], [.rd (.pair (.int .i64) (.pair .str .unit))], [some 2]⟩
noncomputable def sd_laws_toWrite : SD := ⟨sg_laws_toWrite, fun x => (m_laws_toWrite x.1).bind fun r => some ((r, ()), (()))⟩
noncomputable def ta_laws_toWrite : Tb := Tb.of fun f => none
def pa_laws_toWrite : Nat → Pat × (Nat → Pat) := fun k => (⟨[], [], []⟩, fun _ => ⟨[], [], []⟩)
noncomputable def de_laws_toWrite (a0 : Int × ByteArray × Unit) : Option ((((Int × ByteArray × Unit) × Unit) × (Unit))) :=
  some (((a0.fst, a0.snd.fst, ()), ()), ())
theorem eq_laws_toWrite (a0 : Int × ByteArray × Unit) r (h : m_laws_toWrite a0 = some r) : de_laws_toWrite a0 = some ((r, ()), (())) := by
  obtain ⟨hc, rfl⟩ := toM_some (t := (.pair (.int .i64) (.pair .str .unit))) h
  · rfl
theorem en_laws_toWrite (a0 : Int × ByteArray × Unit) : evalF Try.prog ta_laws_toWrite pa_laws_toWrite sg_laws_toWrite Try.f178 noL (a0, ()) = de_laws_toWrite a0 := by kernel_rfl
theorem si_laws_toWrite : SigsOk Try.prog ta_laws_toWrite := SigsOk.of fun f sd h => by
  try dsimp only [Tb.of, ta_laws_toWrite] at h
  cases h
theorem sn_laws_toWrite : Callable Try.prog 178 ∧ Sound Try.prog 178 sd_laws_toWrite.sg sd_laws_toWrite.den :=
  fn_plain (pat := pa_laws_toWrite) (by kernel_rfl) si_laws_toWrite Try.func178 (by kernel_rfl) (by kernel_rfl) (by kernel_rfl) fun x r h => by
    obtain ⟨a0, ⟨⟩⟩ := x; obtain ⟨y, h1, h2⟩ := Option.bind_eq_some_iff.1 (show (m_laws_toWrite a0).bind (fun r => some ((r, ()), (()))) = some r from h); cases h2; exact (en_laws_toWrite a0).trans (eq_laws_toWrite a0 _ h1)
def m_laws_toWriteS (a : List (Int × ByteArray × Unit)) : Option (List (Int × ByteArray × Unit)) := toM (.sl (.pair (.int .i64) (.pair .str .unit))) a
def sg_laws_toWriteS : Sig := ⟨[.rd (.sl (.pair (.int .i64) (.pair .str .unit)))], [none], [.own 148 (.pair (.int .i64) (.pair .str .unit))], [none]⟩
noncomputable def sd_laws_toWriteS : SD := ⟨sg_laws_toWriteS, fun x => (m_laws_toWriteS x.1).bind fun r => some ((r, ()), (()))⟩
noncomputable def ta_laws_toWriteS : Tb := Tb.of fun f => if f = 178 then some sd_laws_toWrite else none
def pa_laws_toWriteS : Nat → Pat × (Nat → Pat) := fun k => if k = 4 then (⟨[.sl 0 0 (.pair (.int .i64) (.pair .str .unit)), .row 3 0 148 (.pair (.int .i64) (.pair .str .unit))], [(0, .lf (.d (.sl (.pair (.int .i64) (.pair .str .unit))))), (3, .lf (.row 0)), (4, .lf (.d (.int .i64)))], [.row 148 (.pair (.int .i64) (.pair .str .unit))]⟩, fun e => if e = 2 then ⟨[.row 3 0 148 (.pair (.int .i64) (.pair .str .unit))], [(3, .lf (.row 0))], [.row 148 (.pair (.int .i64) (.pair .str .unit))]⟩ else ⟨[], [], []⟩) else (⟨[], [], []⟩, fun _ => ⟨[], [], []⟩)
noncomputable def co_laws_toWriteS_4 : Code := (loopsIn (bodyOf Try.f107)).getD 0 .skip
def fu_laws_toWriteS_4 (v0 : List (Int × ByteArray × Unit)) (v4 : Int) (r0 : List (Int × ByteArray × Unit)) : Nat := ((v0.length : Int) - v4).toNat + 1
noncomputable def tr_laws_toWriteS_4 {R : Type}  (NX : ((List (Int × ByteArray × Unit)) × (Int) × (List (Int × ByteArray × Unit)) × Unit) → Option R) (X2 : ((List (Int × ByteArray × Unit)) × Unit) → Option R) (v0 : List (Int × ByteArray × Unit)) (v4 : Int) (r0 : List (Int × ByteArray × Unit)) : Option R :=
  bif decide (v4 < nI (List.length v0)) then
    bif decide (0 ≤ v4) then
      bif decide (v4 < nI (List.length v0)) then
        bif decide (0 ≤ v4) then
          bif decide (v4 < nI (List.length r0)) then
            bif decide (Int.toNat v4 < List.length r0) then
              NX
                (v0, IntKind.wrap IntKind.i64 (v4 + 1),
                  List.set r0 (Int.toNat v4) ((List.getD v0 (Int.toNat v4) (0, ByteArray.mk #[], ())).fst, (List.getD v0 (Int.toNat v4) (0, ByteArray.mk #[], ())).snd.fst, ()), ())
            else none
          else none
        else none
      else none
    else none
  else X2 (r0, ())
noncomputable def lo_laws_toWriteS_4 : Nat → (List (Int × ByteArray × Unit)) → (Int) → (List (Int × ByteArray × Unit)) →  Option ((List (Int × ByteArray × Unit)) × Unit)
  | 0, _, _, _ => none
  | m + 1, v0, v4, r0 => tr_laws_toWriteS_4  (fun d => lo_laws_toWriteS_4 m d.1 d.2.1 d.2.2.1) (fun d => some (d)) v0 v4 r0
theorem na_laws_toWriteS_4 {R S : Type}  (NX : ((List (Int × ByteArray × Unit)) × (Int) × (List (Int × ByteArray × Unit)) × Unit) → Option R) (X2 : ((List (Int × ByteArray × Unit)) × Unit) → Option R) (v0 : List (Int × ByteArray × Unit)) (v4 : Int) (r0 : List (Int × ByteArray × Unit)) (f : R → Option S) : tr_laws_toWriteS_4  (fun d => (NX d).bind f) (fun d => (X2 d).bind f) v0 v4 r0 = (tr_laws_toWriteS_4  NX X2 v0 v4 r0).bind f := by
  unfold tr_laws_toWriteS_4
  simp only [cond_bind, ite_bind, onSum_bind, Option.bind_assoc, Option.bind_none, Option.bind_some]
noncomputable def de_laws_toWriteS (a0 : List (Int × ByteArray × Unit)) : Option ((((List (Int × ByteArray × Unit)) × Unit) × (Unit))) :=
  bif decide (nI (List.length a0) = nI (List.length a0)) then
    bif decide (Int.toNat (nI (List.length a0)) * 24 ≤ 140737488355328) then
      Option.bind ((fun d => lo_laws_toWriteS_4 (fu_laws_toWriteS_4 d.1 d.2.1 d.2.2.1) d.1 d.2.1 d.2.2.1) (a0, 0, List.replicate (Int.toNat (nI (List.length a0))) (0, ByteArray.mk #[], ()), ())) fun val => some ((val.fst, ()), ())
    else none
  else none
theorem eq_laws_toWriteS (a0 : List (Int × ByteArray × Unit)) r (h : m_laws_toWriteS a0 = some r) : de_laws_toWriteS a0 = some ((r, ()), (())) := by
  obtain ⟨hc, rfl⟩ := toM_some (t := .sl (.pair (.int .i64) (.pair .str .unit))) h
  obtain ⟨hl0, hall⟩ := smallB_sl hc
  have hl : a0.length ≤ 1048576 := hl0
  clear hl0 hc h
  · unfold de_laws_toWriteS
    have e : Int.toNat (nI a0.length) = a0.length := by simp [nI]
    have hL := to_loop (xs := a0) (0, (ByteArray.mk #[]), ()) (g := fun m i r => lo_laws_toWriteS_4 m a0 i r) (ok := fun r => (r, ())) (fun m i r hi hr => by
      show lo_laws_toWriteS_4 (m + 1) a0 i r = _
      simp only [lo_laws_toWriteS_4, tr_laws_toWriteS_4]
      have hir : i < r.length := by omega
      rw [cLt hi, cLe0, cLt hir, wI (by omega)]
      simp only [cond_true, Int.toNat_natCast]
      rw [cLtN hir]
      rfl) (fun m r => by
      show lo_laws_toWriteS_4 (m + 1) a0 a0.length r = _
      simp only [lo_laws_toWriteS_4, tr_laws_toWriteS_4]
      rw [cLtF]
      rfl) (fu_laws_toWriteS_4 a0 0 (List.replicate a0.length (0, (ByteArray.mk #[]), ()))) 0 (List.replicate a0.length (0, (ByteArray.mk #[]), ())) (by omega) (by simp [fu_laws_toWriteS_4]) (by simp)
    have c1 : decide (Int.toNat (nI a0.length) * 24 ≤ 140737488355328) = true := by rw [e]; simp; omega
    rw [c1, decide_eq_true rfl, e]
    have hL' : lo_laws_toWriteS_4 (fu_laws_toWriteS_4 a0 0 (List.replicate a0.length (0, (ByteArray.mk #[]), ()))) a0 0 (List.replicate a0.length (0, (ByteArray.mk #[]), ())) = _ := hL
    show (lo_laws_toWriteS_4 (fu_laws_toWriteS_4 a0 0 (List.replicate a0.length (0, (ByteArray.mk #[]), ()))) a0 0 (List.replicate a0.length (0, (ByteArray.mk #[]), ()))).bind _ = _
    rw [hL']
    rfl
noncomputable def ou_laws_toWriteS_4 {R : Type} (k : Kt R) : ((List (Int × ByteArray × Unit)) × Unit) → Option R := (fun d => k (.exit 0) (((pa_laws_toWriteS 4).2 2).st d) (((pa_laws_toWriteS 4).2 2).nid))
noncomputable def L_laws_toWriteS {R : Type} : Lt R pa_laws_toWriteS := (addL (pat := pa_laws_toWriteS) 4 (fun d k => (lo_laws_toWriteS_4 (fu_laws_toWriteS_4 d.1 d.2.1 d.2.2.1) d.1 d.2.1 d.2.2.1).bind (ou_laws_toWriteS_4 k)) noL)
theorem rd_laws_toWriteS_4 {R : Type} (nx : (pa_laws_toWriteS 4).1.D → Kt R → Option R) (k : Kt R) (v0 : List (Int × ByteArray × Unit)) (v4 : Int) (r0 : List (Int × ByteArray × Unit)) : ev Try.prog ⟨ta_laws_toWriteS, 0, 23, pa_laws_toWriteS⟩ L_laws_toWriteS co_laws_toWriteS_4 ((pa_laws_toWriteS 4).1.st (v0, v4, r0, ())) (pa_laws_toWriteS 4).1.nid (roundK 0 (pa_laws_toWriteS 4) nx k) = tr_laws_toWriteS_4  (fun d => nx d k) (fun d => k (.exit 0) (((pa_laws_toWriteS 4).2 2).st d) (((pa_laws_toWriteS 4).2 2).nid)) v0 v4 r0 := by kernel_rfl
theorem lp_laws_toWriteS_4 {R : Type} : ∀ (m : Nat) (d : (pa_laws_toWriteS 4).1.D) (k : Kt R), loopN 0 (pa_laws_toWriteS 4) (fun s nid k => ev Try.prog ⟨ta_laws_toWriteS, 0, 23, pa_laws_toWriteS⟩ L_laws_toWriteS co_laws_toWriteS_4 s nid k) m d k = (lo_laws_toWriteS_4 m d.1 d.2.1 d.2.2.1).bind (ou_laws_toWriteS_4 k)
  | 0, _, _ => rfl
  | m + 1, ⟨v0, v4, r0, ⟨⟩⟩, k => (rd_laws_toWriteS_4 _ k v0 v4 r0).trans ((congrArg (fun F => tr_laws_toWriteS_4  F (fun d => k (.exit 0) (((pa_laws_toWriteS 4).2 2).st d) (((pa_laws_toWriteS 4).2 2).nid)) v0 v4 r0) (funext fun d => lp_laws_toWriteS_4 m d k)).trans (na_laws_toWriteS_4 (f := ou_laws_toWriteS_4 k)  (fun d => lo_laws_toWriteS_4 m d.1 d.2.1 d.2.2.1) (fun d => some (d)) v0 v4 r0))
theorem en_laws_toWriteS (a0 : List (Int × ByteArray × Unit)) : evalF Try.prog ta_laws_toWriteS pa_laws_toWriteS sg_laws_toWriteS Try.f107 L_laws_toWriteS (a0, ()) = de_laws_toWriteS a0 := by kernel_rfl
theorem si_laws_toWriteS : SigsOk Try.prog ta_laws_toWriteS := SigsOk.of fun f sd h => by
  try dsimp only [Tb.of, ta_laws_toWriteS] at h
  split at h
  · rename_i e; subst e; cases h; exact sn_laws_toWrite
  cases h
theorem lk_laws_toWriteS_4 {R : Type} : LoopOk Try.prog R 23 0 pa_laws_toWriteS L_laws_toWriteS co_laws_toWriteS_4 :=
  loop_key (cfg := ⟨ta_laws_toWriteS, 0, 23, pa_laws_toWriteS⟩) (key := 4) (by kernel_rfl) (by kernel_rfl) si_laws_toWriteS rfl rfl (fun d k r h => ⟨fu_laws_toWriteS_4 d.1 d.2.1 d.2.2.1, (lp_laws_toWriteS_4 _ d k).trans h⟩) (fun c hc => by rw [show loopsIn co_laws_toWriteS_4 = [] from by kernel_rfl] at hc; cases hc)
theorem sn_laws_toWriteS : Callable Try.prog 107 ∧ Sound Try.prog 107 sd_laws_toWriteS.sg sd_laws_toWriteS.den :=
  fn_loops (pat := pa_laws_toWriteS) L_laws_toWriteS (by kernel_rfl) si_laws_toWriteS Try.func107 (by kernel_rfl) (by kernel_rfl) (fun c hc => by rw [show loopsIn (bodyOf Try.f107) = [co_laws_toWriteS_4] from by kernel_rfl] at hc; simp only [List.mem_cons, List.not_mem_nil, or_false] at hc; rcases hc with rfl <;> first | exact lk_laws_toWriteS_4) fun x r h => by
    obtain ⟨a0, ⟨⟩⟩ := x; obtain ⟨y, h1, h2⟩ := Option.bind_eq_some_iff.1 (show (m_laws_toWriteS a0).bind (fun r => some ((r, ()), (()))) = some r from h); cases h2; exact (en_laws_toWriteS a0).trans (eq_laws_toWriteS a0 _ h1)
def m_laws_toDisk (a : (List ByteArray) × (List (Int × ByteArray × Unit)) × Unit) : Option ((List ByteArray) × (List (Int × ByteArray × Unit)) × Unit) := toM (.pair (.sl .str) (.pair (.sl (.pair (.int .i64) (.pair .str .unit))) .unit)) a
def sg_laws_toDisk : Sig := ⟨[.rd (.pair (.sl .str) (.pair (.sl (.pair (.int .i64) (.pair .str .unit))) .unit))], [some 2], [.own 9 .str, .own 148 (.pair (.int .i64) (.pair .str .unit))], [some 2]⟩
noncomputable def sd_laws_toDisk : SD := ⟨sg_laws_toDisk, fun x => (m_laws_toDisk x.1).bind fun r => some ((r.1, r.2.1, ()), (()))⟩
noncomputable def ta_laws_toDisk : Tb := Tb.of fun f => if f = 106 then some sd_laws_toStringS else if f = 107 then some sd_laws_toWriteS else none
def pa_laws_toDisk : Nat → Pat × (Nat → Pat) := fun k => (⟨[], [], []⟩, fun _ => ⟨[], [], []⟩)
noncomputable def de_laws_toDisk (a0 : (List ByteArray) × (List (Int × ByteArray × Unit)) × Unit) : Option ((((List ByteArray) × (List (Int × ByteArray × Unit)) × Unit) × (Unit))) :=
  Option.bind (Option.bind (m_laws_toStringS a0.fst) fun val => some ((val, ()), ())) fun val =>
    Option.bind (Option.bind (m_laws_toWriteS a0.snd.fst) fun val => some ((val, ()), ())) fun val_1 => some ((val.fst.fst, val_1.fst.fst, ()), ())
theorem eq_laws_toDisk (a0 : (List ByteArray) × (List (Int × ByteArray × Unit)) × Unit) r (h : m_laws_toDisk a0 = some r) : de_laws_toDisk a0 = some ((r.1, r.2.1, ()), (())) := by
  obtain ⟨hc, rfl⟩ := toM_some (t := (.pair (.sl .str) (.pair (.sl (.pair (.int .i64) (.pair .str .unit))) .unit))) h
  · obtain ⟨s0, s1, _⟩ : smallB (.sl .str) a0.1 = true ∧ smallB (.sl (.pair (.int .i64) (.pair .str .unit))) a0.2.1 = true ∧ True := by
      have s := hc
      obtain ⟨h0, s⟩ := smallB_pair s
      obtain ⟨h1, s⟩ := smallB_pair s
      exact ⟨h0, h1, trivial⟩
    unfold de_laws_toDisk
    have e0 : m_laws_toStringS a0.1 = some a0.1 := toM_is (t := (.sl .str)) s0
    have e1 : m_laws_toWriteS a0.2.1 = some a0.2.1 := toM_is (t := (.sl (.pair (.int .i64) (.pair .str .unit)))) s1
    simp only [e0, e1]
    rfl
theorem en_laws_toDisk (a0 : (List ByteArray) × (List (Int × ByteArray × Unit)) × Unit) : evalF Try.prog ta_laws_toDisk pa_laws_toDisk sg_laws_toDisk Try.f29 noL (a0, ()) = de_laws_toDisk a0 := by kernel_rfl
theorem si_laws_toDisk : SigsOk Try.prog ta_laws_toDisk := SigsOk.of fun f sd h => by
  try dsimp only [Tb.of, ta_laws_toDisk] at h
  split at h
  · rename_i e; subst e; cases h; exact sn_laws_toStringS
  split at h
  · rename_i e; subst e; cases h; exact sn_laws_toWriteS
  cases h
theorem sn_laws_toDisk : Callable Try.prog 29 ∧ Sound Try.prog 29 sd_laws_toDisk.sg sd_laws_toDisk.den :=
  fn_plain (pat := pa_laws_toDisk) (by kernel_rfl) si_laws_toDisk Try.func29 (by kernel_rfl) (by kernel_rfl) (by kernel_rfl) fun x r h => by
    obtain ⟨a0, ⟨⟩⟩ := x; obtain ⟨y, h1, h2⟩ := Option.bind_eq_some_iff.1 (show (m_laws_toDisk a0).bind (fun r => some ((r.1, r.2.1, ()), (()))) = some r from h); cases h2; exact (en_laws_toDisk a0).trans (eq_laws_toDisk a0 _ h1)
def m_laws_toOp (a : Bool × Int × ByteArray × Unit) : Option (Bool × Int × ByteArray × Unit) := toM (.pair .bool (.pair (.int .i64) (.pair .str .unit))) a
def sg_laws_toOp : Sig := ⟨[.rd (.pair .bool (.pair (.int .i64) (.pair .str .unit)))], [some 3], [.rd (.pair .bool (.pair (.int .i64) (.pair .str .unit)))], [some 3]⟩
noncomputable def sd_laws_toOp : SD := ⟨sg_laws_toOp, fun x => (m_laws_toOp x.1).bind fun r => some ((r, ()), (()))⟩
noncomputable def ta_laws_toOp : Tb := Tb.of fun f => none
def pa_laws_toOp : Nat → Pat × (Nat → Pat) := fun k => (⟨[], [], []⟩, fun _ => ⟨[], [], []⟩)
noncomputable def de_laws_toOp (a0 : Bool × Int × ByteArray × Unit) : Option ((((Bool × Int × ByteArray × Unit) × Unit) × (Unit))) :=
  some (((a0.fst, a0.snd.fst, a0.snd.snd.fst, ()), ()), ())
theorem eq_laws_toOp (a0 : Bool × Int × ByteArray × Unit) r (h : m_laws_toOp a0 = some r) : de_laws_toOp a0 = some ((r, ()), (())) := by
  obtain ⟨hc, rfl⟩ := toM_some (t := (.pair .bool (.pair (.int .i64) (.pair .str .unit)))) h
  · rfl
theorem en_laws_toOp (a0 : Bool × Int × ByteArray × Unit) : evalF Try.prog ta_laws_toOp pa_laws_toOp sg_laws_toOp Try.f108 noL (a0, ()) = de_laws_toOp a0 := by kernel_rfl
theorem si_laws_toOp : SigsOk Try.prog ta_laws_toOp := SigsOk.of fun f sd h => by
  try dsimp only [Tb.of, ta_laws_toOp] at h
  cases h
theorem sn_laws_toOp : Callable Try.prog 108 ∧ Sound Try.prog 108 sd_laws_toOp.sg sd_laws_toOp.den :=
  fn_plain (pat := pa_laws_toOp) (by kernel_rfl) si_laws_toOp Try.func108 (by kernel_rfl) (by kernel_rfl) (by kernel_rfl) fun x r h => by
    obtain ⟨a0, ⟨⟩⟩ := x; obtain ⟨y, h1, h2⟩ := Option.bind_eq_some_iff.1 (show (m_laws_toOp a0).bind (fun r => some ((r, ()), (()))) = some r from h); cases h2; exact (en_laws_toOp a0).trans (eq_laws_toOp a0 _ h1)
def m_laws_toOpS (a : List (Bool × Int × ByteArray × Unit)) : Option (List (Bool × Int × ByteArray × Unit)) := toM (.sl (.pair .bool (.pair (.int .i64) (.pair .str .unit)))) a
def sg_laws_toOpS : Sig := ⟨[.rd (.sl (.pair .bool (.pair (.int .i64) (.pair .str .unit))))], [none], [.own 129 (.pair .bool (.pair (.int .i64) (.pair .str .unit)))], [none]⟩
noncomputable def sd_laws_toOpS : SD := ⟨sg_laws_toOpS, fun x => (m_laws_toOpS x.1).bind fun r => some ((r, ()), (()))⟩
noncomputable def ta_laws_toOpS : Tb := Tb.of fun f => if f = 108 then some sd_laws_toOp else none
def pa_laws_toOpS : Nat → Pat × (Nat → Pat) := fun k => if k = 4 then (⟨[.sl 0 0 (.pair .bool (.pair (.int .i64) (.pair .str .unit))), .row 3 0 129 (.pair .bool (.pair (.int .i64) (.pair .str .unit)))], [(0, .lf (.d (.sl (.pair .bool (.pair (.int .i64) (.pair .str .unit)))))), (3, .lf (.row 0)), (4, .lf (.d (.int .i64)))], [.row 129 (.pair .bool (.pair (.int .i64) (.pair .str .unit)))]⟩, fun e => if e = 2 then ⟨[.row 3 0 129 (.pair .bool (.pair (.int .i64) (.pair .str .unit)))], [(3, .lf (.row 0))], [.row 129 (.pair .bool (.pair (.int .i64) (.pair .str .unit)))]⟩ else ⟨[], [], []⟩) else (⟨[], [], []⟩, fun _ => ⟨[], [], []⟩)
noncomputable def co_laws_toOpS_4 : Code := (loopsIn (bodyOf Try.f30)).getD 0 .skip
def fu_laws_toOpS_4 (v0 : List (Bool × Int × ByteArray × Unit)) (v4 : Int) (r0 : List (Bool × Int × ByteArray × Unit)) : Nat := ((v0.length : Int) - v4).toNat + 1
noncomputable def tr_laws_toOpS_4 {R : Type}  (NX : ((List (Bool × Int × ByteArray × Unit)) × (Int) × (List (Bool × Int × ByteArray × Unit)) × Unit) → Option R) (X2 : ((List (Bool × Int × ByteArray × Unit)) × Unit) → Option R) (v0 : List (Bool × Int × ByteArray × Unit)) (v4 : Int) (r0 : List (Bool × Int × ByteArray × Unit)) : Option R :=
  bif decide (v4 < nI (List.length v0)) then
    bif decide (0 ≤ v4) then
      bif decide (v4 < nI (List.length v0)) then
        bif decide (0 ≤ v4) then
          bif decide (v4 < nI (List.length r0)) then
            bif decide (Int.toNat v4 < List.length r0) then
              NX
                (v0, IntKind.wrap IntKind.i64 (v4 + 1),
                  List.set r0 (Int.toNat v4)
                    ((List.getD v0 (Int.toNat v4) (false, 0, ByteArray.mk #[], ())).fst, (List.getD v0 (Int.toNat v4) (false, 0, ByteArray.mk #[], ())).snd.fst,
                      (List.getD v0 (Int.toNat v4) (false, 0, ByteArray.mk #[], ())).snd.snd.fst, ()),
                  ())
            else none
          else none
        else none
      else none
    else none
  else X2 (r0, ())
noncomputable def lo_laws_toOpS_4 : Nat → (List (Bool × Int × ByteArray × Unit)) → (Int) → (List (Bool × Int × ByteArray × Unit)) →  Option ((List (Bool × Int × ByteArray × Unit)) × Unit)
  | 0, _, _, _ => none
  | m + 1, v0, v4, r0 => tr_laws_toOpS_4  (fun d => lo_laws_toOpS_4 m d.1 d.2.1 d.2.2.1) (fun d => some (d)) v0 v4 r0
theorem na_laws_toOpS_4 {R S : Type}  (NX : ((List (Bool × Int × ByteArray × Unit)) × (Int) × (List (Bool × Int × ByteArray × Unit)) × Unit) → Option R) (X2 : ((List (Bool × Int × ByteArray × Unit)) × Unit) → Option R) (v0 : List (Bool × Int × ByteArray × Unit)) (v4 : Int) (r0 : List (Bool × Int × ByteArray × Unit)) (f : R → Option S) : tr_laws_toOpS_4  (fun d => (NX d).bind f) (fun d => (X2 d).bind f) v0 v4 r0 = (tr_laws_toOpS_4  NX X2 v0 v4 r0).bind f := by
  unfold tr_laws_toOpS_4
  simp only [cond_bind, ite_bind, onSum_bind, Option.bind_assoc, Option.bind_none, Option.bind_some]
noncomputable def de_laws_toOpS (a0 : List (Bool × Int × ByteArray × Unit)) : Option ((((List (Bool × Int × ByteArray × Unit)) × Unit) × (Unit))) :=
  bif decide (nI (List.length a0) = nI (List.length a0)) then
    bif decide (Int.toNat (nI (List.length a0)) * 32 ≤ 140737488355328) then
      Option.bind ((fun d => lo_laws_toOpS_4 (fu_laws_toOpS_4 d.1 d.2.1 d.2.2.1) d.1 d.2.1 d.2.2.1) (a0, 0, List.replicate (Int.toNat (nI (List.length a0))) (false, 0, ByteArray.mk #[], ()), ())) fun val => some ((val.fst, ()), ())
    else none
  else none
theorem eq_laws_toOpS (a0 : List (Bool × Int × ByteArray × Unit)) r (h : m_laws_toOpS a0 = some r) : de_laws_toOpS a0 = some ((r, ()), (())) := by
  obtain ⟨hc, rfl⟩ := toM_some (t := .sl (.pair .bool (.pair (.int .i64) (.pair .str .unit)))) h
  obtain ⟨hl0, hall⟩ := smallB_sl hc
  have hl : a0.length ≤ 1048576 := hl0
  clear hl0 hc h
  · unfold de_laws_toOpS
    have e : Int.toNat (nI a0.length) = a0.length := by simp [nI]
    have hL := to_loop (xs := a0) (false, 0, (ByteArray.mk #[]), ()) (g := fun m i r => lo_laws_toOpS_4 m a0 i r) (ok := fun r => (r, ())) (fun m i r hi hr => by
      show lo_laws_toOpS_4 (m + 1) a0 i r = _
      simp only [lo_laws_toOpS_4, tr_laws_toOpS_4]
      have hir : i < r.length := by omega
      rw [cLt hi, cLe0, cLt hir, wI (by omega)]
      simp only [cond_true, Int.toNat_natCast]
      rw [cLtN hir]
      rfl) (fun m r => by
      show lo_laws_toOpS_4 (m + 1) a0 a0.length r = _
      simp only [lo_laws_toOpS_4, tr_laws_toOpS_4]
      rw [cLtF]
      rfl) (fu_laws_toOpS_4 a0 0 (List.replicate a0.length (false, 0, (ByteArray.mk #[]), ()))) 0 (List.replicate a0.length (false, 0, (ByteArray.mk #[]), ())) (by omega) (by simp [fu_laws_toOpS_4]) (by simp)
    have c1 : decide (Int.toNat (nI a0.length) * 32 ≤ 140737488355328) = true := by rw [e]; simp; omega
    rw [c1, decide_eq_true rfl, e]
    have hL' : lo_laws_toOpS_4 (fu_laws_toOpS_4 a0 0 (List.replicate a0.length (false, 0, (ByteArray.mk #[]), ()))) a0 0 (List.replicate a0.length (false, 0, (ByteArray.mk #[]), ())) = _ := hL
    show (lo_laws_toOpS_4 (fu_laws_toOpS_4 a0 0 (List.replicate a0.length (false, 0, (ByteArray.mk #[]), ()))) a0 0 (List.replicate a0.length (false, 0, (ByteArray.mk #[]), ()))).bind _ = _
    rw [hL']
    rfl
noncomputable def ou_laws_toOpS_4 {R : Type} (k : Kt R) : ((List (Bool × Int × ByteArray × Unit)) × Unit) → Option R := (fun d => k (.exit 0) (((pa_laws_toOpS 4).2 2).st d) (((pa_laws_toOpS 4).2 2).nid))
noncomputable def L_laws_toOpS {R : Type} : Lt R pa_laws_toOpS := (addL (pat := pa_laws_toOpS) 4 (fun d k => (lo_laws_toOpS_4 (fu_laws_toOpS_4 d.1 d.2.1 d.2.2.1) d.1 d.2.1 d.2.2.1).bind (ou_laws_toOpS_4 k)) noL)
theorem rd_laws_toOpS_4 {R : Type} (nx : (pa_laws_toOpS 4).1.D → Kt R → Option R) (k : Kt R) (v0 : List (Bool × Int × ByteArray × Unit)) (v4 : Int) (r0 : List (Bool × Int × ByteArray × Unit)) : ev Try.prog ⟨ta_laws_toOpS, 0, 23, pa_laws_toOpS⟩ L_laws_toOpS co_laws_toOpS_4 ((pa_laws_toOpS 4).1.st (v0, v4, r0, ())) (pa_laws_toOpS 4).1.nid (roundK 0 (pa_laws_toOpS 4) nx k) = tr_laws_toOpS_4  (fun d => nx d k) (fun d => k (.exit 0) (((pa_laws_toOpS 4).2 2).st d) (((pa_laws_toOpS 4).2 2).nid)) v0 v4 r0 := by kernel_rfl
theorem lp_laws_toOpS_4 {R : Type} : ∀ (m : Nat) (d : (pa_laws_toOpS 4).1.D) (k : Kt R), loopN 0 (pa_laws_toOpS 4) (fun s nid k => ev Try.prog ⟨ta_laws_toOpS, 0, 23, pa_laws_toOpS⟩ L_laws_toOpS co_laws_toOpS_4 s nid k) m d k = (lo_laws_toOpS_4 m d.1 d.2.1 d.2.2.1).bind (ou_laws_toOpS_4 k)
  | 0, _, _ => rfl
  | m + 1, ⟨v0, v4, r0, ⟨⟩⟩, k => (rd_laws_toOpS_4 _ k v0 v4 r0).trans ((congrArg (fun F => tr_laws_toOpS_4  F (fun d => k (.exit 0) (((pa_laws_toOpS 4).2 2).st d) (((pa_laws_toOpS 4).2 2).nid)) v0 v4 r0) (funext fun d => lp_laws_toOpS_4 m d k)).trans (na_laws_toOpS_4 (f := ou_laws_toOpS_4 k)  (fun d => lo_laws_toOpS_4 m d.1 d.2.1 d.2.2.1) (fun d => some (d)) v0 v4 r0))
theorem en_laws_toOpS (a0 : List (Bool × Int × ByteArray × Unit)) : evalF Try.prog ta_laws_toOpS pa_laws_toOpS sg_laws_toOpS Try.f30 L_laws_toOpS (a0, ()) = de_laws_toOpS a0 := by kernel_rfl
theorem si_laws_toOpS : SigsOk Try.prog ta_laws_toOpS := SigsOk.of fun f sd h => by
  try dsimp only [Tb.of, ta_laws_toOpS] at h
  split at h
  · rename_i e; subst e; cases h; exact sn_laws_toOp
  cases h
theorem lk_laws_toOpS_4 {R : Type} : LoopOk Try.prog R 23 0 pa_laws_toOpS L_laws_toOpS co_laws_toOpS_4 :=
  loop_key (cfg := ⟨ta_laws_toOpS, 0, 23, pa_laws_toOpS⟩) (key := 4) (by kernel_rfl) (by kernel_rfl) si_laws_toOpS rfl rfl (fun d k r h => ⟨fu_laws_toOpS_4 d.1 d.2.1 d.2.2.1, (lp_laws_toOpS_4 _ d k).trans h⟩) (fun c hc => by rw [show loopsIn co_laws_toOpS_4 = [] from by kernel_rfl] at hc; cases hc)
theorem sn_laws_toOpS : Callable Try.prog 30 ∧ Sound Try.prog 30 sd_laws_toOpS.sg sd_laws_toOpS.den :=
  fn_loops (pat := pa_laws_toOpS) L_laws_toOpS (by kernel_rfl) si_laws_toOpS Try.func30 (by kernel_rfl) (by kernel_rfl) (fun c hc => by rw [show loopsIn (bodyOf Try.f30) = [co_laws_toOpS_4] from by kernel_rfl] at hc; simp only [List.mem_cons, List.not_mem_nil, or_false] at hc; rcases hc with rfl <;> first | exact lk_laws_toOpS_4) fun x r h => by
    obtain ⟨a0, ⟨⟩⟩ := x; obtain ⟨y, h1, h2⟩ := Option.bind_eq_some_iff.1 (show (m_laws_toOpS a0).bind (fun r => some ((r, ()), (()))) = some r from h); cases h2; exact (en_laws_toOpS a0).trans (eq_laws_toOpS a0 _ h1)
def m_impl_in (v lo hi : Int) : Bool := inB v lo hi
def sg_impl_in : Sig := ⟨[.rd (.int .i64), .rd (.int .i64), .rd (.int .i64)], [none, none, none], [.rd .bool], [none]⟩
noncomputable def sd_impl_in : SD := ⟨sg_impl_in, fun x => some (((m_impl_in x.1 x.2.1 x.2.2.1), ()), (()))⟩
noncomputable def ta_impl_in : Tb := Tb.of fun f => none
def pa_impl_in : Nat → Pat × (Nat → Pat) := fun k => (⟨[], [], []⟩, fun _ => ⟨[], [], []⟩)
noncomputable def de_impl_in (a0 : Int) (a1 : Int) (a2 : Int) : Option ((((Bool) × Unit) × (Unit))) :=
  bif decide (a0 ≥ a1) then some ((decide (a0 ≤ a2), ()), ()) else some ((false, ()), ())
theorem eq_impl_in (a0 a1 a2 : Int) : de_impl_in a0 a1 a2 = some ((m_impl_in a0 a1 a2, ()), ()) := by
  unfold de_impl_in m_impl_in inB
  by_cases h : a0 ≥ a1
  · have : decide (a1 ≤ a0) = true := by simpa using h
    simp [h, this]
  · have : decide (a1 ≤ a0) = false := by simpa using h
    simp [h, this]
theorem en_impl_in (a0 : Int) (a1 : Int) (a2 : Int) : evalF Try.prog ta_impl_in pa_impl_in sg_impl_in Try.f98 noL (a0, a1, a2, ()) = de_impl_in a0 a1 a2 := by kernel_rfl
theorem si_impl_in : SigsOk Try.prog ta_impl_in := SigsOk.of fun f sd h => by
  try dsimp only [Tb.of, ta_impl_in] at h
  cases h
theorem sn_impl_in : Callable Try.prog 98 ∧ Sound Try.prog 98 sd_impl_in.sg sd_impl_in.den :=
  fn_plain (pat := pa_impl_in) (by kernel_rfl) si_impl_in Try.func98 (by kernel_rfl) (by kernel_rfl) (by kernel_rfl) fun x r h => by
    obtain ⟨a0, a1, a2, ⟨⟩⟩ := x; rw [← h]; exact (en_impl_in a0 a1 a2).trans (eq_impl_in a0 a1 a2)
def m_impl_ValidDisk (d : Dk) : Bool := validDisk d
def sg_impl_ValidDisk : Sig := ⟨[.rd (.pair (.sl .str) (.pair (.sl (.pair (.int .i64) (.pair .str .unit))) .unit))], [some 2], [.rd .bool], [none]⟩
noncomputable def sd_impl_ValidDisk : SD := ⟨sg_impl_ValidDisk, fun x => some (((m_impl_ValidDisk x.1), ()), (()))⟩
noncomputable def ta_impl_ValidDisk : Tb := Tb.of fun f => if f = 98 then some sd_impl_in else none
def pa_impl_ValidDisk : Nat → Pat × (Nat → Pat) := fun k => if k = 5 then (⟨[.sl 19 0 .str, .boxSl 1 0 .str, .boxSl 1 1 (.pair (.int .i64) (.pair .str .unit))], [(1, .lf (.ptr 0 0)), (19, .lf (.d (.sl .str))), (20, .lf (.d (.int .i64))), (21, .lf (.d (.int .i64)))], [.box 47 [.d (.sl .str), .d (.sl (.pair (.int .i64) (.pair .str .unit)))]]⟩, fun e => if e = 1 then ⟨[], [(2, .lf (.d .bool))], []⟩ else if e = 2 then ⟨[.boxSl 1 0 .str, .boxSl 1 1 (.pair (.int .i64) (.pair .str .unit))], [(1, .lf (.ptr 0 0))], [.box 47 [.d (.sl .str), .d (.sl (.pair (.int .i64) (.pair .str .unit)))]]⟩ else ⟨[], [], []⟩) else if k = 11 then (⟨[.sl 30 0 (.pair (.int .i64) (.pair .str .unit)), .boxSl 1 0 .str, .boxSl 1 1 (.pair (.int .i64) (.pair .str .unit))], [(1, .lf (.ptr 0 0)), (30, .lf (.d (.sl (.pair (.int .i64) (.pair .str .unit))))), (31, .lf (.d (.int .i64))), (32, .lf (.d (.int .i64)))], [.box 47 [.d (.sl .str), .d (.sl (.pair (.int .i64) (.pair .str .unit)))]]⟩, fun e => if e = 1 then ⟨[], [(2, .lf (.d .bool))], []⟩ else if e = 4 then ⟨[], [], []⟩ else ⟨[], [], []⟩) else (⟨[], [], []⟩, fun _ => ⟨[], [], []⟩)
noncomputable def co_impl_ValidDisk_5 : Code := (loopsIn (bodyOf Try.f109)).getD 0 .skip
noncomputable def co_impl_ValidDisk_11 : Code := (loopsIn (bodyOf Try.f109)).getD 1 .skip
def fu_impl_ValidDisk_11 (v30 : List (Int × ByteArray × Unit)) (v31 : Int) (v32 : Int) (b0_0 : List ByteArray) (b0_1 : List (Int × ByteArray × Unit)) : Nat := (v31 - v32).toNat + 1
noncomputable def tr_impl_ValidDisk_11 {R : Type}  (NX : ((List (Int × ByteArray × Unit)) × (Int) × (Int) × (List ByteArray) × (List (Int × ByteArray × Unit)) × Unit) → Option R) (X4 : (Unit) → Option R) (X1 : ((Bool) × Unit) → Option R) (v30 : List (Int × ByteArray × Unit)) (v31 : Int) (v32 : Int) (b0_0 : List ByteArray) (b0_1 : List (Int × ByteArray × Unit)) : Option R :=
  bif decide (v32 < v31) then
    bif decide (0 ≤ v32) then
      bif decide (v32 < nI (List.length v30)) then
        bif !m_impl_in (List.getD v30 (Int.toNat v32) (0, ByteArray.mk #[], ())).fst 0 (IntKind.wrap IntKind.i64 (nI (List.length b0_0) - 1)) then X1 (false, ())
        else bif nI (ByteArray.size (List.getD v30 (Int.toNat v32) (0, ByteArray.mk #[], ())).snd.fst) != 64 then X1 (false, ()) else NX (v30, v31, IntKind.wrap IntKind.i64 (v32 + 1), b0_0, b0_1, ())
      else none
    else none
  else X4 PUnit.unit
noncomputable def lo_impl_ValidDisk_11 : Nat → (List (Int × ByteArray × Unit)) → (Int) → (Int) → (List ByteArray) → (List (Int × ByteArray × Unit)) →  Option ((Unit) ⊕ ((Bool) × Unit))
  | 0, _, _, _, _, _ => none
  | m + 1, v30, v31, v32, b0_0, b0_1 => tr_impl_ValidDisk_11  (fun d => lo_impl_ValidDisk_11 m d.1 d.2.1 d.2.2.1 d.2.2.2.1 d.2.2.2.2.1) (fun d => some (.inl (d))) (fun d => some (.inr (d))) v30 v31 v32 b0_0 b0_1
theorem na_impl_ValidDisk_11 {R S : Type}  (NX : ((List (Int × ByteArray × Unit)) × (Int) × (Int) × (List ByteArray) × (List (Int × ByteArray × Unit)) × Unit) → Option R) (X4 : (Unit) → Option R) (X1 : ((Bool) × Unit) → Option R) (v30 : List (Int × ByteArray × Unit)) (v31 : Int) (v32 : Int) (b0_0 : List ByteArray) (b0_1 : List (Int × ByteArray × Unit)) (f : R → Option S) : tr_impl_ValidDisk_11  (fun d => (NX d).bind f) (fun d => (X4 d).bind f) (fun d => (X1 d).bind f) v30 v31 v32 b0_0 b0_1 = (tr_impl_ValidDisk_11  NX X4 X1 v30 v31 v32 b0_0 b0_1).bind f := by
  unfold tr_impl_ValidDisk_11
  simp only [cond_bind, ite_bind, onSum_bind, Option.bind_assoc, Option.bind_none, Option.bind_some]
def fu_impl_ValidDisk_5 (v19 : List ByteArray) (v20 : Int) (v21 : Int) (b0_0 : List ByteArray) (b0_1 : List (Int × ByteArray × Unit)) : Nat := (v20 - v21).toNat + 1
noncomputable def tr_impl_ValidDisk_5 {R : Type}  (NX : ((List ByteArray) × (Int) × (Int) × (List ByteArray) × (List (Int × ByteArray × Unit)) × Unit) → Option R) (X2 : ((List ByteArray) × (List (Int × ByteArray × Unit)) × Unit) → Option R) (X1 : ((Bool) × Unit) → Option R) (v19 : List ByteArray) (v20 : Int) (v21 : Int) (b0_0 : List ByteArray) (b0_1 : List (Int × ByteArray × Unit)) : Option R :=
  bif decide (v21 < v20) then
    bif decide (0 ≤ v21) then
      bif decide (v21 < nI (List.length v19)) then
        bif nI (ByteArray.size (List.getD v19 (Int.toNat v21) (ByteArray.mk #[]))) != 64 then X1 (false, ()) else NX (v19, v20, IntKind.wrap IntKind.i64 (v21 + 1), b0_0, b0_1, ())
      else none
    else none
  else X2 (b0_0, b0_1, ())
noncomputable def lo_impl_ValidDisk_5 : Nat → (List ByteArray) → (Int) → (Int) → (List ByteArray) → (List (Int × ByteArray × Unit)) →  Option (((List ByteArray) × (List (Int × ByteArray × Unit)) × Unit) ⊕ ((Bool) × Unit))
  | 0, _, _, _, _, _ => none
  | m + 1, v19, v20, v21, b0_0, b0_1 => tr_impl_ValidDisk_5  (fun d => lo_impl_ValidDisk_5 m d.1 d.2.1 d.2.2.1 d.2.2.2.1 d.2.2.2.2.1) (fun d => some (.inl (d))) (fun d => some (.inr (d))) v19 v20 v21 b0_0 b0_1
theorem na_impl_ValidDisk_5 {R S : Type}  (NX : ((List ByteArray) × (Int) × (Int) × (List ByteArray) × (List (Int × ByteArray × Unit)) × Unit) → Option R) (X2 : ((List ByteArray) × (List (Int × ByteArray × Unit)) × Unit) → Option R) (X1 : ((Bool) × Unit) → Option R) (v19 : List ByteArray) (v20 : Int) (v21 : Int) (b0_0 : List ByteArray) (b0_1 : List (Int × ByteArray × Unit)) (f : R → Option S) : tr_impl_ValidDisk_5  (fun d => (NX d).bind f) (fun d => (X2 d).bind f) (fun d => (X1 d).bind f) v19 v20 v21 b0_0 b0_1 = (tr_impl_ValidDisk_5  NX X2 X1 v19 v20 v21 b0_0 b0_1).bind f := by
  unfold tr_impl_ValidDisk_5
  simp only [cond_bind, ite_bind, onSum_bind, Option.bind_assoc, Option.bind_none, Option.bind_some]
noncomputable def de_impl_ValidDisk (a0 : (List ByteArray) × (List (Int × ByteArray × Unit)) × Unit) : Option ((((Bool) × Unit) × (Unit))) :=
  bif !m_impl_in (nI (List.length a0.fst)) 8 200 then some ((false, ()), ())
  else
    bif decide (nI (List.length a0.snd.fst) > 300) then some ((false, ()), ())
    else
      Option.bind ((fun d => lo_impl_ValidDisk_5 (fu_impl_ValidDisk_5 d.1 d.2.1 d.2.2.1 d.2.2.2.1 d.2.2.2.2.1) d.1 d.2.1 d.2.2.1 d.2.2.2.1 d.2.2.2.2.1) (a0.fst, nI (List.length a0.fst), 0, a0.fst, a0.snd.fst, ())) fun val =>
        onSum
          (fun val =>
            Option.bind ((fun d => lo_impl_ValidDisk_11 (fu_impl_ValidDisk_11 d.1 d.2.1 d.2.2.1 d.2.2.2.1 d.2.2.2.2.1) d.1 d.2.1 d.2.2.1 d.2.2.2.1 d.2.2.2.2.1) (val.snd.fst, nI (List.length val.snd.fst), 0, val.fst, val.snd.fst, ())) fun val => onSum (fun val => some ((true, ()), ())) (fun val => some ((val.fst, ()), ())) val)
          (fun val => some ((val.fst, ()), ())) val
theorem eq_impl_ValidDisk (a0 : Dk) : de_impl_ValidDisk a0 = some ((m_impl_ValidDisk a0, ()), ()) := by
  unfold de_impl_ValidDisk m_impl_ValidDisk validDisk
  have c1 : decide (nI a0.2.1.length > 300) = !decide (a0.2.1.length ≤ 300) := gt100 _ 300
  rw [c1]
  show (bif !inB (a0.1.length : Int) 8 200 then _ else _) = _
  cases hin : inB (a0.1.length : Int) 8 200 with
  | false => rfl
  | true =>
    have hlen : a0.1.length ≤ 200 := by have := of_decide_eq_true (and2 hin).2; omega
    by_cases hp : a0.2.1.length ≤ 300
    · rw [decide_eq_true hp]
      have hL := all_loop (n := a0.1.length) (fun i => decide ((a0.1.getD i z0).size = 64)) (g := fun m i => lo_impl_ValidDisk_5 m a0.1 (nI a0.1.length) i a0.1 a0.2.1) (ok := .inl (a0.1, a0.2.1, ())) (bad := .inr (false, ())) (fun m i hi => by
        show lo_impl_ValidDisk_5 (m + 1) a0.1 (nI a0.1.length) i a0.1 a0.2.1 = _
        simp only [lo_impl_ValidDisk_5, tr_impl_ValidDisk_5]
        have g1 : (nI (ByteArray.size (List.getD a0.1 i (ByteArray.mk #[]))) != 64) = !decide ((a0.1.getD i z0).size = 64) := ne64 _ 64
        rw [cLt hi, cLe0, wI (show i < 4611686018427387904 by omega), Int.toNat_natCast, g1]
        cases decide ((a0.1.getD i z0).size = 64) <;> rfl) (fun m => by
        show lo_impl_ValidDisk_5 (m + 1) a0.1 (nI a0.1.length) (a0.1.length : Int) a0.1 a0.2.1 = _
        simp only [lo_impl_ValidDisk_5, tr_impl_ValidDisk_5]
        rw [cLtF]
        rfl) (fu_impl_ValidDisk_5 a0.1 (nI a0.1.length) 0 a0.1 a0.2.1) 0 (by omega) (by simp [fu_impl_ValidDisk_5, nI])
      have hL' : lo_impl_ValidDisk_5 (fu_impl_ValidDisk_5 a0.1 (nI a0.1.length) 0 a0.1 a0.2.1) a0.1 (nI a0.1.length) 0 a0.1 a0.2.1 = _ := hL
      have hM := all_loop (n := a0.2.1.length) (fun i => okWr a0.1.length (a0.2.1.getD i zW)) (g := fun m i => lo_impl_ValidDisk_11 m a0.2.1 (nI a0.2.1.length) i a0.1 a0.2.1) (ok := .inl ()) (bad := .inr (false, ())) (fun m i hi => by
        show lo_impl_ValidDisk_11 (m + 1) a0.2.1 (nI a0.2.1.length) i a0.1 a0.2.1 = _
        simp only [lo_impl_ValidDisk_11, tr_impl_ValidDisk_11]
        have g1 : (nI (ByteArray.size (List.getD a0.2.1 i (0, ByteArray.mk #[], ())).2.1) != 64) = !decide ((a0.2.1.getD i zW).2.1.size = 64) := ne64 _ 64
        have hw : IntKind.wrap IntKind.i64 (nI a0.1.length - 1) = (a0.1.length : Int) - 1 := wrap_ok (by simp only [nI]; omega) (by simp only [nI]; omega)
        rw [cLt hi, cLe0, wI (show i < 4611686018427387904 by omega), Int.toNat_natCast, g1, hw]
        have g2 : m_impl_in (List.getD a0.2.1 i (0, ByteArray.mk #[], ())).1 0 ((a0.1.length : Int) - 1) = (decide (0 ≤ (a0.2.1.getD i zW).1) && decide ((a0.2.1.getD i zW).1 < (a0.1.length : Int))) := by
          show (decide (0 ≤ (a0.2.1.getD i zW).1) && decide ((a0.2.1.getD i zW).1 ≤ (a0.1.length : Int) - 1)) = _
          congr 1
          exact decide_eq_decide.2 (by omega)
        rw [g2]
        unfold okWr
        cases decide (0 ≤ (a0.2.1.getD i zW).1) <;> cases decide ((a0.2.1.getD i zW).1 < (a0.1.length : Int)) <;> cases decide ((a0.2.1.getD i zW).2.1.size = 64) <;> rfl) (fun m => by
        show lo_impl_ValidDisk_11 (m + 1) a0.2.1 (nI a0.2.1.length) (a0.2.1.length : Int) a0.1 a0.2.1 = _
        simp only [lo_impl_ValidDisk_11, tr_impl_ValidDisk_11]
        rw [cLtF]
        rfl) (fu_impl_ValidDisk_11 a0.2.1 (nI a0.2.1.length) 0 a0.1 a0.2.1) 0 (by omega) (by simp [fu_impl_ValidDisk_11, nI])
      have hM' : lo_impl_ValidDisk_11 (fu_impl_ValidDisk_11 a0.2.1 (nI a0.2.1.length) 0 a0.1 a0.2.1) a0.2.1 (nI a0.2.1.length) 0 a0.1 a0.2.1 = _ := hM
      show (lo_impl_ValidDisk_5 (fu_impl_ValidDisk_5 a0.1 (nI a0.1.length) 0 a0.1 a0.2.1) a0.1 (nI a0.1.length) 0 a0.1 a0.2.1).bind _ = _
      rw [hL']
      rw [Nat.sub_zero] at hM' ⊢
      cases (List.range' 0 a0.1.length).all (fun i => decide ((a0.1.getD i z0).size = 64)) with
      | false => rfl
      | true =>
        show (lo_impl_ValidDisk_11 (fu_impl_ValidDisk_11 a0.2.1 (nI a0.2.1.length) 0 a0.1 a0.2.1) a0.2.1 (nI a0.2.1.length) 0 a0.1 a0.2.1).bind _ = _
        rw [hM']
        cases (List.range' 0 a0.2.1.length).all (fun i => okWr a0.1.length (a0.2.1.getD i zW)) <;> rfl
    · rw [decide_eq_false hp]
      rfl
noncomputable def ou_impl_ValidDisk_5 {R : Type} (k : Kt R) : (((List ByteArray) × (List (Int × ByteArray × Unit)) × Unit) ⊕ ((Bool) × Unit)) → Option R := (onSum (fun d => k (.exit 0) (((pa_impl_ValidDisk 5).2 2).st d) (((pa_impl_ValidDisk 5).2 2).nid)) (fun d => k .ret (((pa_impl_ValidDisk 5).2 1).st d) (((pa_impl_ValidDisk 5).2 1).nid)))
noncomputable def ou_impl_ValidDisk_11 {R : Type} (k : Kt R) : ((Unit) ⊕ ((Bool) × Unit)) → Option R := (onSum (fun d => k (.exit 2) (((pa_impl_ValidDisk 11).2 4).st d) (((pa_impl_ValidDisk 11).2 4).nid)) (fun d => k .ret (((pa_impl_ValidDisk 11).2 1).st d) (((pa_impl_ValidDisk 11).2 1).nid)))
noncomputable def L_impl_ValidDisk {R : Type} : Lt R pa_impl_ValidDisk := (addL (pat := pa_impl_ValidDisk) 5 (fun d k => (lo_impl_ValidDisk_5 (fu_impl_ValidDisk_5 d.1 d.2.1 d.2.2.1 d.2.2.2.1 d.2.2.2.2.1) d.1 d.2.1 d.2.2.1 d.2.2.2.1 d.2.2.2.2.1).bind (ou_impl_ValidDisk_5 k)) (addL (pat := pa_impl_ValidDisk) 11 (fun d k => (lo_impl_ValidDisk_11 (fu_impl_ValidDisk_11 d.1 d.2.1 d.2.2.1 d.2.2.2.1 d.2.2.2.2.1) d.1 d.2.1 d.2.2.1 d.2.2.2.1 d.2.2.2.2.1).bind (ou_impl_ValidDisk_11 k)) noL))
theorem rd_impl_ValidDisk_11 {R : Type} (nx : (pa_impl_ValidDisk 11).1.D → Kt R → Option R) (k : Kt R) (v30 : List (Int × ByteArray × Unit)) (v31 : Int) (v32 : Int) (b0_0 : List ByteArray) (b0_1 : List (Int × ByteArray × Unit)) : ev Try.prog ⟨ta_impl_ValidDisk, 0, 51, pa_impl_ValidDisk⟩ L_impl_ValidDisk co_impl_ValidDisk_11 ((pa_impl_ValidDisk 11).1.st (v30, v31, v32, b0_0, b0_1, ())) (pa_impl_ValidDisk 11).1.nid (roundK 0 (pa_impl_ValidDisk 11) nx k) = tr_impl_ValidDisk_11  (fun d => nx d k) (fun d => k (.exit 2) (((pa_impl_ValidDisk 11).2 4).st d) (((pa_impl_ValidDisk 11).2 4).nid)) (fun d => k .ret (((pa_impl_ValidDisk 11).2 1).st d) (((pa_impl_ValidDisk 11).2 1).nid)) v30 v31 v32 b0_0 b0_1 := by kernel_rfl
theorem lp_impl_ValidDisk_11 {R : Type} : ∀ (m : Nat) (d : (pa_impl_ValidDisk 11).1.D) (k : Kt R), loopN 0 (pa_impl_ValidDisk 11) (fun s nid k => ev Try.prog ⟨ta_impl_ValidDisk, 0, 51, pa_impl_ValidDisk⟩ L_impl_ValidDisk co_impl_ValidDisk_11 s nid k) m d k = (lo_impl_ValidDisk_11 m d.1 d.2.1 d.2.2.1 d.2.2.2.1 d.2.2.2.2.1).bind (ou_impl_ValidDisk_11 k)
  | 0, _, _ => rfl
  | m + 1, ⟨v30, v31, v32, b0_0, b0_1, ⟨⟩⟩, k => (rd_impl_ValidDisk_11 _ k v30 v31 v32 b0_0 b0_1).trans ((congrArg (fun F => tr_impl_ValidDisk_11  F (fun d => k (.exit 2) (((pa_impl_ValidDisk 11).2 4).st d) (((pa_impl_ValidDisk 11).2 4).nid)) (fun d => k .ret (((pa_impl_ValidDisk 11).2 1).st d) (((pa_impl_ValidDisk 11).2 1).nid)) v30 v31 v32 b0_0 b0_1) (funext fun d => lp_impl_ValidDisk_11 m d k)).trans (na_impl_ValidDisk_11 (f := ou_impl_ValidDisk_11 k)  (fun d => lo_impl_ValidDisk_11 m d.1 d.2.1 d.2.2.1 d.2.2.2.1 d.2.2.2.2.1) (fun d => some (.inl (d))) (fun d => some (.inr (d))) v30 v31 v32 b0_0 b0_1))
theorem rd_impl_ValidDisk_5 {R : Type} (nx : (pa_impl_ValidDisk 5).1.D → Kt R → Option R) (k : Kt R) (v19 : List ByteArray) (v20 : Int) (v21 : Int) (b0_0 : List ByteArray) (b0_1 : List (Int × ByteArray × Unit)) : ev Try.prog ⟨ta_impl_ValidDisk, 0, 51, pa_impl_ValidDisk⟩ L_impl_ValidDisk co_impl_ValidDisk_5 ((pa_impl_ValidDisk 5).1.st (v19, v20, v21, b0_0, b0_1, ())) (pa_impl_ValidDisk 5).1.nid (roundK 0 (pa_impl_ValidDisk 5) nx k) = tr_impl_ValidDisk_5  (fun d => nx d k) (fun d => k (.exit 0) (((pa_impl_ValidDisk 5).2 2).st d) (((pa_impl_ValidDisk 5).2 2).nid)) (fun d => k .ret (((pa_impl_ValidDisk 5).2 1).st d) (((pa_impl_ValidDisk 5).2 1).nid)) v19 v20 v21 b0_0 b0_1 := by kernel_rfl
theorem lp_impl_ValidDisk_5 {R : Type} : ∀ (m : Nat) (d : (pa_impl_ValidDisk 5).1.D) (k : Kt R), loopN 0 (pa_impl_ValidDisk 5) (fun s nid k => ev Try.prog ⟨ta_impl_ValidDisk, 0, 51, pa_impl_ValidDisk⟩ L_impl_ValidDisk co_impl_ValidDisk_5 s nid k) m d k = (lo_impl_ValidDisk_5 m d.1 d.2.1 d.2.2.1 d.2.2.2.1 d.2.2.2.2.1).bind (ou_impl_ValidDisk_5 k)
  | 0, _, _ => rfl
  | m + 1, ⟨v19, v20, v21, b0_0, b0_1, ⟨⟩⟩, k => (rd_impl_ValidDisk_5 _ k v19 v20 v21 b0_0 b0_1).trans ((congrArg (fun F => tr_impl_ValidDisk_5  F (fun d => k (.exit 0) (((pa_impl_ValidDisk 5).2 2).st d) (((pa_impl_ValidDisk 5).2 2).nid)) (fun d => k .ret (((pa_impl_ValidDisk 5).2 1).st d) (((pa_impl_ValidDisk 5).2 1).nid)) v19 v20 v21 b0_0 b0_1) (funext fun d => lp_impl_ValidDisk_5 m d k)).trans (na_impl_ValidDisk_5 (f := ou_impl_ValidDisk_5 k)  (fun d => lo_impl_ValidDisk_5 m d.1 d.2.1 d.2.2.1 d.2.2.2.1 d.2.2.2.2.1) (fun d => some (.inl (d))) (fun d => some (.inr (d))) v19 v20 v21 b0_0 b0_1))
theorem en_impl_ValidDisk (a0 : (List ByteArray) × (List (Int × ByteArray × Unit)) × Unit) : evalF Try.prog ta_impl_ValidDisk pa_impl_ValidDisk sg_impl_ValidDisk Try.f109 L_impl_ValidDisk (a0, ()) = de_impl_ValidDisk a0 := by kernel_rfl
theorem si_impl_ValidDisk : SigsOk Try.prog ta_impl_ValidDisk := SigsOk.of fun f sd h => by
  try dsimp only [Tb.of, ta_impl_ValidDisk] at h
  split at h
  · rename_i e; subst e; cases h; exact sn_impl_in
  cases h
theorem lk_impl_ValidDisk_11 {R : Type} : LoopOk Try.prog R 51 0 pa_impl_ValidDisk L_impl_ValidDisk co_impl_ValidDisk_11 :=
  loop_key (cfg := ⟨ta_impl_ValidDisk, 0, 51, pa_impl_ValidDisk⟩) (key := 11) (by kernel_rfl) (by kernel_rfl) si_impl_ValidDisk rfl rfl (fun d k r h => ⟨fu_impl_ValidDisk_11 d.1 d.2.1 d.2.2.1 d.2.2.2.1 d.2.2.2.2.1, (lp_impl_ValidDisk_11 _ d k).trans h⟩) (fun c hc => by rw [show loopsIn co_impl_ValidDisk_11 = [] from by kernel_rfl] at hc; cases hc)
theorem lk_impl_ValidDisk_5 {R : Type} : LoopOk Try.prog R 51 0 pa_impl_ValidDisk L_impl_ValidDisk co_impl_ValidDisk_5 :=
  loop_key (cfg := ⟨ta_impl_ValidDisk, 0, 51, pa_impl_ValidDisk⟩) (key := 5) (by kernel_rfl) (by kernel_rfl) si_impl_ValidDisk rfl rfl (fun d k r h => ⟨fu_impl_ValidDisk_5 d.1 d.2.1 d.2.2.1 d.2.2.2.1 d.2.2.2.2.1, (lp_impl_ValidDisk_5 _ d k).trans h⟩) (fun c hc => by rw [show loopsIn co_impl_ValidDisk_5 = [] from by kernel_rfl] at hc; cases hc)
theorem sn_impl_ValidDisk : Callable Try.prog 109 ∧ Sound Try.prog 109 sd_impl_ValidDisk.sg sd_impl_ValidDisk.den :=
  fn_loops (pat := pa_impl_ValidDisk) L_impl_ValidDisk (by kernel_rfl) si_impl_ValidDisk Try.func109 (by kernel_rfl) (by kernel_rfl) (fun c hc => by rw [show loopsIn (bodyOf Try.f109) = [co_impl_ValidDisk_5, co_impl_ValidDisk_11] from by kernel_rfl] at hc; simp only [List.mem_cons, List.not_mem_nil, or_false] at hc; rcases hc with rfl | rfl <;> first | exact lk_impl_ValidDisk_5 | exact lk_impl_ValidDisk_11) fun x r h => by
    obtain ⟨a0, ⟨⟩⟩ := x; rw [← h]; exact (en_impl_ValidDisk a0).trans (eq_impl_ValidDisk a0)
def m_impl_copyDisk (d : Dk) : Option Dk := if d.1.length ≤ 1000 ∧ d.2.1.length ≤ 1000 then some (d.1, d.2.1, ()) else none
def sg_impl_copyDisk : Sig := ⟨[.rd (.pair (.sl .str) (.pair (.sl (.pair (.int .i64) (.pair .str .unit))) .unit))], [some 2], [.own 9 .str, .own 148 (.pair (.int .i64) (.pair .str .unit))], [some 2]⟩
noncomputable def sd_impl_copyDisk : SD := ⟨sg_impl_copyDisk, fun x => (m_impl_copyDisk x.1).bind fun r => some ((r.1, r.2.1, ()), (()))⟩
noncomputable def ta_impl_copyDisk : Tb := Tb.of fun f => none
def pa_impl_copyDisk : Nat → Pat × (Nat → Pat) := fun k => (⟨[], [], []⟩, fun _ => ⟨[], [], []⟩)
noncomputable def de_impl_copyDisk (a0 : (List ByteArray) × (List (Int × ByteArray × Unit)) × Unit) : Option ((((List ByteArray) × (List (Int × ByteArray × Unit)) × Unit) × (Unit))) :=
  bif decide ((0 + List.length a0.fst) * 16 ≤ 140737488355328) then
    bif decide ((0 + List.length a0.snd.fst) * 24 ≤ 140737488355328) then some (([] ++ a0.fst, [] ++ a0.snd.fst, ()), ()) else none
  else none
theorem eq_impl_copyDisk (a0 : (List ByteArray) × (List (Int × ByteArray × Unit)) × Unit) r (h : m_impl_copyDisk a0 = some r) : de_impl_copyDisk a0 = some ((r.1, r.2.1, ()), (())) := by
  unfold m_impl_copyDisk at h
  split at h
  · rename_i hc
    cases h
    unfold de_impl_copyDisk
    rw [decide_eq_true (show (0 + a0.1.length) * 16 ≤ 140737488355328 by omega), decide_eq_true (show (0 + a0.2.1.length) * 24 ≤ 140737488355328 by omega)]
    rfl
  · cases h
theorem en_impl_copyDisk (a0 : (List ByteArray) × (List (Int × ByteArray × Unit)) × Unit) : evalF Try.prog ta_impl_copyDisk pa_impl_copyDisk sg_impl_copyDisk Try.f110 noL (a0, ()) = de_impl_copyDisk a0 := by kernel_rfl
theorem si_impl_copyDisk : SigsOk Try.prog ta_impl_copyDisk := SigsOk.of fun f sd h => by
  try dsimp only [Tb.of, ta_impl_copyDisk] at h
  cases h
theorem sn_impl_copyDisk : Callable Try.prog 110 ∧ Sound Try.prog 110 sd_impl_copyDisk.sg sd_impl_copyDisk.den :=
  fn_plain (pat := pa_impl_copyDisk) (by kernel_rfl) si_impl_copyDisk Try.func110 (by kernel_rfl) (by kernel_rfl) (by kernel_rfl) fun x r h => by
    obtain ⟨a0, ⟨⟩⟩ := x; obtain ⟨y, h1, h2⟩ := Option.bind_eq_some_iff.1 (show (m_impl_copyDisk a0).bind (fun r => some ((r.1, r.2.1, ()), (()))) = some r from h); cases h2; exact (en_impl_copyDisk a0).trans (eq_impl_copyDisk a0 _ h1)
def m_impl_Perform (d : Dk) (ops : List Opn) (n : Int) : Option Dk := if ops.length ≤ 1099511627776 then some (performS d ops n) else none
def sg_impl_Perform : Sig := ⟨[.rd (.pair (.sl .str) (.pair (.sl (.pair (.int .i64) (.pair .str .unit))) .unit)), .rd (.sl (.pair .bool (.pair (.int .i64) (.pair .str .unit)))), .rd (.int .i64)], [some 2, none, none], [.own 9 .str, .own 148 (.pair (.int .i64) (.pair .str .unit))], [some 2]⟩
noncomputable def sd_impl_Perform : SD := ⟨sg_impl_Perform, fun x => (m_impl_Perform x.1 x.2.1 x.2.2.1).bind fun r => some ((r.1, r.2.1, ()), (()))⟩
noncomputable def ta_impl_Perform : Tb := Tb.of fun f => if f = 98 then some sd_impl_in else if f = 109 then some sd_impl_ValidDisk else if f = 110 then some sd_impl_copyDisk else none
def pa_impl_Perform : Nat → Pat × (Nat → Pat) := fun k => if k = 6 then (⟨[.sl 1 0 (.pair .bool (.pair (.int .i64) (.pair .str .unit))), .boxRow 6 0 9 .str, .boxRow 6 1 148 (.pair (.int .i64) (.pair .str .unit)), .boxRow 7 0 9 .str, .boxRow 7 1 148 (.pair (.int .i64) (.pair .str .unit))], [(1, .lf (.d (.sl (.pair .bool (.pair (.int .i64) (.pair .str .unit)))))), (2, .lf (.d (.int .i64))), (6, .lf (.ptr 0 0)), (7, .lf (.ptr 1 0)), (8, .lf (.d (.int .i64)))], [.box 47 [.row 2, .row 3], .box 47 [.row 4, .row 5], .row 9 .str, .row 148 (.pair (.int .i64) (.pair .str .unit)), .row 9 .str, .row 148 (.pair (.int .i64) (.pair .str .unit))]⟩, fun e => if e = 2 then ⟨[.boxRow 6 0 9 .str, .boxRow 6 1 148 (.pair (.int .i64) (.pair .str .unit)), .boxRow 7 0 9 .str, .boxRow 7 1 148 (.pair (.int .i64) (.pair .str .unit))], [(6, .lf (.ptr 0 0)), (7, .lf (.ptr 1 0))], [.box 47 [.row 2, .row 3], .box 47 [.row 4, .row 5], .row 9 .str, .row 148 (.pair (.int .i64) (.pair .str .unit)), .row 9 .str, .row 148 (.pair (.int .i64) (.pair .str .unit))]⟩ else ⟨[], [], []⟩) else if k = 11 then (⟨[.sl 1 0 (.pair .bool (.pair (.int .i64) (.pair .str .unit))), .sl 36 0 (.pair (.int .i64) (.pair .str .unit)), .boxRow 6 0 9 .str, .boxRow 6 1 148 (.pair (.int .i64) (.pair .str .unit)), .boxRow 7 0 9 .str, .boxSl 7 1 (.pair (.int .i64) (.pair .str .unit))], [(1, .lf (.d (.sl (.pair .bool (.pair (.int .i64) (.pair .str .unit)))))), (2, .lf (.d (.int .i64))), (6, .lf (.ptr 0 0)), (7, .lf (.ptr 1 0)), (8, .lf (.d (.int .i64))), (36, .lf (.d (.sl (.pair (.int .i64) (.pair .str .unit))))), (37, .lf (.d (.int .i64))), (38, .lf (.d (.int .i64)))], [.box 47 [.row 2, .row 3], .box 47 [.row 4, .d (.sl (.pair (.int .i64) (.pair .str .unit)))], .row 9 .str, .row 148 (.pair (.int .i64) (.pair .str .unit)), .row 9 .str]⟩, fun e => if e = 4 then ⟨[.sl 1 0 (.pair .bool (.pair (.int .i64) (.pair .str .unit))), .boxRow 6 0 9 .str, .boxRow 6 1 148 (.pair (.int .i64) (.pair .str .unit)), .boxRow 7 0 9 .str, .boxSl 7 1 (.pair (.int .i64) (.pair .str .unit))], [(1, .lf (.d (.sl (.pair .bool (.pair (.int .i64) (.pair .str .unit)))))), (2, .lf (.d (.int .i64))), (6, .lf (.ptr 0 0)), (7, .lf (.ptr 1 0)), (8, .lf (.d (.int .i64)))], [.box 47 [.row 2, .row 3], .box 47 [.row 4, .d (.sl (.pair (.int .i64) (.pair .str .unit)))], .row 9 .str, .row 148 (.pair (.int .i64) (.pair .str .unit)), .row 9 .str]⟩ else ⟨[], [], []⟩) else (⟨[], [], []⟩, fun _ => ⟨[], [], []⟩)
noncomputable def co_impl_Perform_6 : Code := (loopsIn (bodyOf Try.f31)).getD 0 .skip
noncomputable def co_impl_Perform_11 : Code := (loopsIn co_impl_Perform_6).getD 0 .skip
def fu_impl_Perform_11 (v1 : List (Bool × Int × ByteArray × Unit)) (v2 : Int) (v8 : Int) (v36 : List (Int × ByteArray × Unit)) (v37 : Int) (v38 : Int) (b1_1 : List (Int × ByteArray × Unit)) (r2 : List ByteArray) (r3 : List (Int × ByteArray × Unit)) (r4 : List ByteArray) : Nat := (v37 - v38).toNat + 1
noncomputable def tr_impl_Perform_11 {R : Type}  (NX : ((List (Bool × Int × ByteArray × Unit)) × (Int) × (Int) × (List (Int × ByteArray × Unit)) × (Int) × (Int) × (List (Int × ByteArray × Unit)) × (List ByteArray) × (List (Int × ByteArray × Unit)) × (List ByteArray) × Unit) → Option R) (X4 : ((List (Bool × Int × ByteArray × Unit)) × (Int) × (Int) × (List (Int × ByteArray × Unit)) × (List ByteArray) × (List (Int × ByteArray × Unit)) × (List ByteArray) × Unit) → Option R) (v1 : List (Bool × Int × ByteArray × Unit)) (v2 : Int) (v8 : Int) (v36 : List (Int × ByteArray × Unit)) (v37 : Int) (v38 : Int) (b1_1 : List (Int × ByteArray × Unit)) (r2 : List ByteArray) (r3 : List (Int × ByteArray × Unit)) (r4 : List ByteArray) : Option R :=
  bif decide (v38 < v37) then
    bif decide (0 ≤ v38) then
      bif decide (v38 < nI (List.length v36)) then
        bif decide (0 ≤ (List.getD v36 (Int.toNat v38) (0, ByteArray.mk #[], ())).fst) then
          bif decide ((List.getD v36 (Int.toNat v38) (0, ByteArray.mk #[], ())).fst < nI (List.length r4)) then
            bif decide (Int.toNat (List.getD v36 (Int.toNat v38) (0, ByteArray.mk #[], ())).fst < List.length r4) then
              NX
                (v1, v2, v8, v36, v37, IntKind.wrap IntKind.i64 (v38 + 1), b1_1, r2, r3,
                  List.set r4 (Int.toNat (List.getD v36 (Int.toNat v38) (0, ByteArray.mk #[], ())).fst) (List.getD v36 (Int.toNat v38) (0, ByteArray.mk #[], ())).snd.fst, ())
            else none
          else none
        else none
      else none
    else none
  else X4 (v1, v2, v8, b1_1, r2, r3, r4, ())
noncomputable def lo_impl_Perform_11 : Nat → (List (Bool × Int × ByteArray × Unit)) → (Int) → (Int) → (List (Int × ByteArray × Unit)) → (Int) → (Int) → (List (Int × ByteArray × Unit)) → (List ByteArray) → (List (Int × ByteArray × Unit)) → (List ByteArray) →  Option ((List (Bool × Int × ByteArray × Unit)) × (Int) × (Int) × (List (Int × ByteArray × Unit)) × (List ByteArray) × (List (Int × ByteArray × Unit)) × (List ByteArray) × Unit)
  | 0, _, _, _, _, _, _, _, _, _, _ => none
  | m + 1, v1, v2, v8, v36, v37, v38, b1_1, r2, r3, r4 => tr_impl_Perform_11  (fun d => lo_impl_Perform_11 m d.1 d.2.1 d.2.2.1 d.2.2.2.1 d.2.2.2.2.1 d.2.2.2.2.2.1 d.2.2.2.2.2.2.1 d.2.2.2.2.2.2.2.1 d.2.2.2.2.2.2.2.2.1 d.2.2.2.2.2.2.2.2.2.1) (fun d => some (d)) v1 v2 v8 v36 v37 v38 b1_1 r2 r3 r4
theorem na_impl_Perform_11 {R S : Type}  (NX : ((List (Bool × Int × ByteArray × Unit)) × (Int) × (Int) × (List (Int × ByteArray × Unit)) × (Int) × (Int) × (List (Int × ByteArray × Unit)) × (List ByteArray) × (List (Int × ByteArray × Unit)) × (List ByteArray) × Unit) → Option R) (X4 : ((List (Bool × Int × ByteArray × Unit)) × (Int) × (Int) × (List (Int × ByteArray × Unit)) × (List ByteArray) × (List (Int × ByteArray × Unit)) × (List ByteArray) × Unit) → Option R) (v1 : List (Bool × Int × ByteArray × Unit)) (v2 : Int) (v8 : Int) (v36 : List (Int × ByteArray × Unit)) (v37 : Int) (v38 : Int) (b1_1 : List (Int × ByteArray × Unit)) (r2 : List ByteArray) (r3 : List (Int × ByteArray × Unit)) (r4 : List ByteArray) (f : R → Option S) : tr_impl_Perform_11  (fun d => (NX d).bind f) (fun d => (X4 d).bind f) v1 v2 v8 v36 v37 v38 b1_1 r2 r3 r4 = (tr_impl_Perform_11  NX X4 v1 v2 v8 v36 v37 v38 b1_1 r2 r3 r4).bind f := by
  unfold tr_impl_Perform_11
  simp only [cond_bind, ite_bind, onSum_bind, Option.bind_assoc, Option.bind_none, Option.bind_some]
def fu_impl_Perform_6 (v1 : List (Bool × Int × ByteArray × Unit)) (v2 : Int) (v8 : Int) (r2 : List ByteArray) (r3 : List (Int × ByteArray × Unit)) (r4 : List ByteArray) (r5 : List (Int × ByteArray × Unit)) : Nat := (v2 - v8).toNat + 1
noncomputable def tr_impl_Perform_6 {R : Type} (LO11 : ((List (Bool × Int × ByteArray × Unit)) × (Int) × (Int) × (List (Int × ByteArray × Unit)) × (Int) × (Int) × (List (Int × ByteArray × Unit)) × (List ByteArray) × (List (Int × ByteArray × Unit)) × (List ByteArray) × Unit) → Option ((List (Bool × Int × ByteArray × Unit)) × (Int) × (Int) × (List (Int × ByteArray × Unit)) × (List ByteArray) × (List (Int × ByteArray × Unit)) × (List ByteArray) × Unit)) (NX : ((List (Bool × Int × ByteArray × Unit)) × (Int) × (Int) × (List ByteArray) × (List (Int × ByteArray × Unit)) × (List ByteArray) × (List (Int × ByteArray × Unit)) × Unit) → Option R) (X2 : ((List ByteArray) × (List (Int × ByteArray × Unit)) × (List ByteArray) × (List (Int × ByteArray × Unit)) × Unit) → Option R) (v1 : List (Bool × Int × ByteArray × Unit)) (v2 : Int) (v8 : Int) (r2 : List ByteArray) (r3 : List (Int × ByteArray × Unit)) (r4 : List ByteArray) (r5 : List (Int × ByteArray × Unit)) : Option R :=
  bif decide (v8 < v2) then
    bif decide (v8 < nI (List.length v1)) then
      bif decide (0 ≤ v8) then
        bif decide (v8 < nI (List.length v1)) then
          bif (List.getD v1 (Int.toNat v8) (false, 0, ByteArray.mk #[], ())).fst then
            Option.bind (LO11 (v1, v2, v8, r5, nI (List.length r5), 0, r5, r2, r3, r4, ())) fun val =>
              NX (val.fst, val.snd.fst, IntKind.wrap IntKind.i64 (val.snd.snd.fst + 1), val.snd.snd.snd.snd.fst, val.snd.snd.snd.snd.snd.fst, val.snd.snd.snd.snd.snd.snd.fst, [], ())
          else
            bif m_impl_in (List.getD v1 (Int.toNat v8) (false, 0, ByteArray.mk #[], ())).snd.fst 0 (IntKind.wrap IntKind.i64 (nI (List.length r4) - 1)) then
              bif nI (ByteArray.size (List.getD v1 (Int.toNat v8) (false, 0, ByteArray.mk #[], ())).snd.snd.fst) == 64 then
                bif decide (nI (List.length r5) < 300) then
                  bif
                      decide
                        ((List.length r5 +
                              List.length [((List.getD v1 (Int.toNat v8) (false, 0, ByteArray.mk #[], ())).snd.fst, (List.getD v1 (Int.toNat v8) (false, 0, ByteArray.mk #[], ())).snd.snd.fst, ())]) *
                            24 ≤
                          140737488355328) then
                    NX
                      (v1, v2, IntKind.wrap IntKind.i64 (v8 + 1), r2, r3, r4,
                        r5 ++ [((List.getD v1 (Int.toNat v8) (false, 0, ByteArray.mk #[], ())).snd.fst, (List.getD v1 (Int.toNat v8) (false, 0, ByteArray.mk #[], ())).snd.snd.fst, ())], ())
                  else none
                else NX (v1, v2, IntKind.wrap IntKind.i64 (v8 + 1), r2, r3, r4, r5, ())
              else NX (v1, v2, IntKind.wrap IntKind.i64 (v8 + 1), r2, r3, r4, r5, ())
            else NX (v1, v2, IntKind.wrap IntKind.i64 (v8 + 1), r2, r3, r4, r5, ())
        else none
      else none
    else X2 (r2, r3, r4, r5, ())
  else X2 (r2, r3, r4, r5, ())
noncomputable def lo_impl_Perform_6 : Nat → (List (Bool × Int × ByteArray × Unit)) → (Int) → (Int) → (List ByteArray) → (List (Int × ByteArray × Unit)) → (List ByteArray) → (List (Int × ByteArray × Unit)) →  Option ((List ByteArray) × (List (Int × ByteArray × Unit)) × (List ByteArray) × (List (Int × ByteArray × Unit)) × Unit)
  | 0, _, _, _, _, _, _, _ => none
  | m + 1, v1, v2, v8, r2, r3, r4, r5 => tr_impl_Perform_6 (fun d => lo_impl_Perform_11 (fu_impl_Perform_11 d.1 d.2.1 d.2.2.1 d.2.2.2.1 d.2.2.2.2.1 d.2.2.2.2.2.1 d.2.2.2.2.2.2.1 d.2.2.2.2.2.2.2.1 d.2.2.2.2.2.2.2.2.1 d.2.2.2.2.2.2.2.2.2.1) d.1 d.2.1 d.2.2.1 d.2.2.2.1 d.2.2.2.2.1 d.2.2.2.2.2.1 d.2.2.2.2.2.2.1 d.2.2.2.2.2.2.2.1 d.2.2.2.2.2.2.2.2.1 d.2.2.2.2.2.2.2.2.2.1) (fun d => lo_impl_Perform_6 m d.1 d.2.1 d.2.2.1 d.2.2.2.1 d.2.2.2.2.1 d.2.2.2.2.2.1 d.2.2.2.2.2.2.1) (fun d => some (d)) v1 v2 v8 r2 r3 r4 r5
theorem na_impl_Perform_6 {R S : Type} (LO11 : ((List (Bool × Int × ByteArray × Unit)) × (Int) × (Int) × (List (Int × ByteArray × Unit)) × (Int) × (Int) × (List (Int × ByteArray × Unit)) × (List ByteArray) × (List (Int × ByteArray × Unit)) × (List ByteArray) × Unit) → Option ((List (Bool × Int × ByteArray × Unit)) × (Int) × (Int) × (List (Int × ByteArray × Unit)) × (List ByteArray) × (List (Int × ByteArray × Unit)) × (List ByteArray) × Unit)) (NX : ((List (Bool × Int × ByteArray × Unit)) × (Int) × (Int) × (List ByteArray) × (List (Int × ByteArray × Unit)) × (List ByteArray) × (List (Int × ByteArray × Unit)) × Unit) → Option R) (X2 : ((List ByteArray) × (List (Int × ByteArray × Unit)) × (List ByteArray) × (List (Int × ByteArray × Unit)) × Unit) → Option R) (v1 : List (Bool × Int × ByteArray × Unit)) (v2 : Int) (v8 : Int) (r2 : List ByteArray) (r3 : List (Int × ByteArray × Unit)) (r4 : List ByteArray) (r5 : List (Int × ByteArray × Unit)) (f : R → Option S) : tr_impl_Perform_6 LO11 (fun d => (NX d).bind f) (fun d => (X2 d).bind f) v1 v2 v8 r2 r3 r4 r5 = (tr_impl_Perform_6 LO11 NX X2 v1 v2 v8 r2 r3 r4 r5).bind f := by
  unfold tr_impl_Perform_6
  simp only [cond_bind, ite_bind, onSum_bind, Option.bind_assoc, Option.bind_none, Option.bind_some]
noncomputable def de_impl_Perform (a0 : (List ByteArray) × (List (Int × ByteArray × Unit)) × Unit) (a1 : List (Bool × Int × ByteArray × Unit)) (a2 : Int) : Option ((((List ByteArray) × (List (Int × ByteArray × Unit)) × Unit) × (Unit))) :=
  bif !m_impl_ValidDisk (a0.fst, a0.snd.fst, ()) then some (([], [], ()), ())
  else
    Option.bind (Option.bind (m_impl_copyDisk (a0.fst, a0.snd.fst, ())) fun val => some ((val.fst, val.snd.fst, ()), ())) fun val =>
      Option.bind ((fun d => lo_impl_Perform_6 (fu_impl_Perform_6 d.1 d.2.1 d.2.2.1 d.2.2.2.1 d.2.2.2.2.1 d.2.2.2.2.2.1 d.2.2.2.2.2.2.1) d.1 d.2.1 d.2.2.1 d.2.2.2.1 d.2.2.2.2.1 d.2.2.2.2.2.1 d.2.2.2.2.2.2.1) (a1, a2, 0, [], [], val.fst.fst, val.fst.snd.fst, ())) fun val => some ((val.snd.snd.fst, val.snd.snd.snd.fst, ()), ())
theorem syncP_loop (a1 : List Opn) (a2 : Int) (i : Int) (b : List Wr) {sec : List ByteArray} {ws : List Wr} (hp : ws.length ≤ 300) (hw : ∀ i, i < ws.length → 0 ≤ (ws.getD i zW).1 ∧ (ws.getD i zW).1 < (sec.length : Int)) :
    lo_impl_Perform_11 (fu_impl_Perform_11 a1 a2 i ws (nI ws.length) 0 b [] [] sec) a1 a2 i ws (nI ws.length) 0 b [] [] sec = some (a1, a2, i, b, [], [], syncS sec ws, ()) := by
  have hL := fold_loop (xs := ws) zW (fun s : List ByteArray => s.length = sec.length) (fun _ w s => s.set w.1.toNat w.2.1) (g := fun m i' s => lo_impl_Perform_11 m a1 a2 i ws (nI ws.length) i' b [] [] s) (ok := fun s => (a1, a2, i, b, [], [], s, ())) (fun m i' s hi hs => by
      show lo_impl_Perform_11 (m + 1) a1 a2 i ws (nI ws.length) i' b [] [] s = _
      simp only [lo_impl_Perform_11, tr_impl_Perform_11]
      obtain ⟨h0, h1⟩ := hw i' hi
      have c1 : decide (0 ≤ (List.getD ws i' (0, ByteArray.mk #[], ())).1) = true := decide_eq_true h0
      have c2 : decide ((List.getD ws i' (0, ByteArray.mk #[], ())).1 < nI s.length) = true := decide_eq_true (by rw [hs]; exact h1)
      have c3 : decide (Int.toNat (List.getD ws i' (0, ByteArray.mk #[], ())).1 < s.length) = true := decide_eq_true (by
        rw [hs]
        have : (ws.getD i' zW).1.toNat < sec.length := by
          have h0 : 0 ≤ (ws.getD i' zW).1 := h0
          have h1 : (ws.getD i' zW).1 < (sec.length : Int) := h1
          omega
        exact this)
      rw [cLt hi, cLe0, wI (show i' < 4611686018427387904 by omega), Int.toNat_natCast, c1, c2, c3]
      rfl) (fun i s hi hs => by rw [List.length_set]; exact hs) (fun m s hs => by
      show lo_impl_Perform_11 (m + 1) a1 a2 i ws (nI ws.length) (ws.length : Int) b [] [] s = _
      simp only [lo_impl_Perform_11, tr_impl_Perform_11]
      rw [cLtF]
      rfl) (fu_impl_Perform_11 a1 a2 i ws (nI ws.length) 0 b [] [] sec) 0 sec (by omega) (by simp [fu_impl_Perform_11, nI]) rfl
  exact hL
theorem eq_impl_Perform (a0 : (List ByteArray) × (List (Int × ByteArray × Unit)) × Unit) (a1 : List (Bool × Int × ByteArray × Unit)) (a2 : Int) r (h : m_impl_Perform a0 a1 a2 = some r) : de_impl_Perform a0 a1 a2 = some ((r.1, r.2.1, ()), (())) := by
  unfold m_impl_Perform at h
  split at h
  rotate_left
  · cases h
  rename_i hlen
  cases h
  unfold de_impl_Perform performS
  show (bif !validDisk a0 then _ else _) = _
  cases hv : validDisk a0 with
  | false => rfl
  | true =>
    have hok := disk_ok hv
    have e1 : m_impl_copyDisk (a0.1, a0.2.1, ()) = some (a0.1, a0.2.1, ()) := if_pos ⟨Nat.le_trans hok.n200 (by decide), Nat.le_trans hok.p300 (by decide)⟩
    have hxl : (a1.take a2.toNat).length = min a2.toNat a1.length := List.length_take
    have hL := foldi_loop (xs := a1.take a2.toNat) zOp (fun _ d => DiskOk d) (fun _ o d => opS d o) (g := fun m i d => lo_impl_Perform_6 m a1 a2 i [] [] d.1 d.2.1) (ok := fun d : Dk => ([], [], d.1, d.2.1, ())) (fun m i d hi hI => by
      show lo_impl_Perform_6 (m + 1) a1 a2 i [] [] d.1 d.2.1 = _
      simp only [lo_impl_Perform_6, tr_impl_Perform_6]
      rw [hxl] at hi
      have hi1 : i < a1.length := by omega
      have hi2 : decide ((i : Int) < a2) = true := decide_eq_true (by omega)
      have hg : (a1.take a2.toNat).getD i zOp = List.getD a1 i (false, 0, ByteArray.mk #[], ()) := by
        rw [List.getD_eq_getElem?_getD, List.getElem?_take, if_pos (by omega), ← List.getD_eq_getElem?_getD]
        rfl
      rw [hg, hi2, cLt hi1, cLe0, wI (show i < 4611686018427387904 by omega), Int.toNat_natCast]
      simp only [cond_true]
      generalize List.getD a1 i (false, 0, ByteArray.mk #[], ()) = o
      unfold opS
      cases ho : o.1 with
      | true =>
        simp only [cond_true]
        rw [syncP_loop a1 a2 i d.2.1 hI.p300 (fun k hk => ⟨(hI.pen k hk).1, (hI.pen k hk).2.1⟩)]
        simp only [Option.bind_some]
        rw [wI (show i < 4611686018427387904 by omega)]
        rfl
      | false =>
        simp only [cond_false]
        have hn := hI.n8
        have hn2 := hI.n200
        have hp := hI.p300
        have e2 : m_impl_in o.2.1 0 (IntKind.wrap IntKind.i64 (nI d.1.length - 1)) = (decide (0 ≤ o.2.1) && decide (o.2.1 < (d.1.length : Int))) := by
          rw [wrap_ok (by simp only [nI]; omega) (by simp only [nI]; omega)]
          show (decide (0 ≤ o.2.1) && decide (o.2.1 ≤ nI d.1.length - 1)) = _
          congr 1
          exact decide_eq_decide.2 (by simp only [nI]; omega)
        have e3 : (nI (ByteArray.size o.2.2.1) == 64) = decide (o.2.2.1.size = 64) := by
          by_cases q : o.2.2.1.size = 64
          · rw [q]; rfl
          · rw [decide_eq_false q]
            exact beq_eq_false_iff_ne.2 (by simp only [nI]; omega)
        have e4 : decide (nI d.2.1.length < 300) = decide (d.2.1.length < 300) := decide_eq_decide.2 (by simp only [nI]; omega)
        have e5 : decide ((d.2.1.length + 1) * 24 ≤ 140737488355328) = true := decide_eq_true (by omega)
        simp only [List.length_singleton, e2, e3, e4, e5]
        show _ = lo_impl_Perform_6 m a1 a2 _ [] [] (bif (decide (0 ≤ o.2.1) && (decide (o.2.1 < (d.1.length : Int)) && decide (o.2.2.1.size = 64))) && decide (d.2.1.length < 300) then (d.1, d.2.1 ++ [(o.2.1, o.2.2.1, ())], ()) else d).1 (bif (decide (0 ≤ o.2.1) && (decide (o.2.1 < (d.1.length : Int)) && decide (o.2.2.1.size = 64))) && decide (d.2.1.length < 300) then (d.1, d.2.1 ++ [(o.2.1, o.2.2.1, ())], ()) else d).2.1
        cases decide (0 ≤ o.2.1) <;> cases decide (o.2.1 < (d.1.length : Int)) <;> cases decide (o.2.2.1.size = 64) <;> cases decide (d.2.1.length < 300) <;> rfl) (fun i d hi hI => hI.op _) (fun m d hI => by
      show lo_impl_Perform_6 (m + 1) a1 a2 (((a1.take a2.toNat).length : Nat) : Int) [] [] d.1 d.2.1 = _
      simp only [lo_impl_Perform_6, tr_impl_Perform_6]
      rw [hxl]
      by_cases q : ((min a2.toNat a1.length : Nat) : Int) < a2
      · rw [decide_eq_true q, decide_eq_false (show ¬ ((min a2.toNat a1.length : Nat) : Int) < nI a1.length by simp only [nI]; omega)]
        rfl
      · rw [decide_eq_false q]
        rfl) (fu_impl_Perform_6 a1 a2 0 [] [] a0.1 a0.2.1) 0 a0 (by omega) (by rw [hxl]; simp only [fu_impl_Perform_6, nI]; omega) hok
    have hL' : lo_impl_Perform_6 (fu_impl_Perform_6 a1 a2 0 [] [] a0.1 a0.2.1) a1 a2 0 [] [] a0.1 a0.2.1 = _ := hL
    simp only [Bool.not_true, cond_false]
    rw [e1]
    show (lo_impl_Perform_6 (fu_impl_Perform_6 a1 a2 0 [] [] a0.1 a0.2.1) a1 a2 0 [] [] a0.1 a0.2.1).bind _ = _
    rw [hL', List.drop_zero]
    have hf : ∀ (l : List Opn) (i : Nat) (d : Dk), foldI (fun _ o d => opS d o) i l d = l.foldl opS d := fun l => by
      induction l with
      | nil => intro i d; rfl
      | cons o r ih => intro i d; exact ih _ _
    rw [hf]
    rfl
noncomputable def ou_impl_Perform_6 {R : Type} (k : Kt R) : ((List ByteArray) × (List (Int × ByteArray × Unit)) × (List ByteArray) × (List (Int × ByteArray × Unit)) × Unit) → Option R := (fun d => k (.exit 0) (((pa_impl_Perform 6).2 2).st d) (((pa_impl_Perform 6).2 2).nid))
noncomputable def ou_impl_Perform_11 {R : Type} (k : Kt R) : ((List (Bool × Int × ByteArray × Unit)) × (Int) × (Int) × (List (Int × ByteArray × Unit)) × (List ByteArray) × (List (Int × ByteArray × Unit)) × (List ByteArray) × Unit) → Option R := (fun d => k (.exit 2) (((pa_impl_Perform 11).2 4).st d) (((pa_impl_Perform 11).2 4).nid))
noncomputable def L_impl_Perform {R : Type} : Lt R pa_impl_Perform := (addL (pat := pa_impl_Perform) 6 (fun d k => (lo_impl_Perform_6 (fu_impl_Perform_6 d.1 d.2.1 d.2.2.1 d.2.2.2.1 d.2.2.2.2.1 d.2.2.2.2.2.1 d.2.2.2.2.2.2.1) d.1 d.2.1 d.2.2.1 d.2.2.2.1 d.2.2.2.2.1 d.2.2.2.2.2.1 d.2.2.2.2.2.2.1).bind (ou_impl_Perform_6 k)) (addL (pat := pa_impl_Perform) 11 (fun d k => (lo_impl_Perform_11 (fu_impl_Perform_11 d.1 d.2.1 d.2.2.1 d.2.2.2.1 d.2.2.2.2.1 d.2.2.2.2.2.1 d.2.2.2.2.2.2.1 d.2.2.2.2.2.2.2.1 d.2.2.2.2.2.2.2.2.1 d.2.2.2.2.2.2.2.2.2.1) d.1 d.2.1 d.2.2.1 d.2.2.2.1 d.2.2.2.2.1 d.2.2.2.2.2.1 d.2.2.2.2.2.2.1 d.2.2.2.2.2.2.2.1 d.2.2.2.2.2.2.2.2.1 d.2.2.2.2.2.2.2.2.2.1).bind (ou_impl_Perform_11 k)) noL))
theorem rd_impl_Perform_11 {R : Type} (nx : (pa_impl_Perform 11).1.D → Kt R → Option R) (k : Kt R) (v1 : List (Bool × Int × ByteArray × Unit)) (v2 : Int) (v8 : Int) (v36 : List (Int × ByteArray × Unit)) (v37 : Int) (v38 : Int) (b1_1 : List (Int × ByteArray × Unit)) (r2 : List ByteArray) (r3 : List (Int × ByteArray × Unit)) (r4 : List ByteArray) : ev Try.prog ⟨ta_impl_Perform, 0, 81, pa_impl_Perform⟩ L_impl_Perform co_impl_Perform_11 ((pa_impl_Perform 11).1.st (v1, v2, v8, v36, v37, v38, b1_1, r2, r3, r4, ())) (pa_impl_Perform 11).1.nid (roundK 0 (pa_impl_Perform 11) nx k) = tr_impl_Perform_11  (fun d => nx d k) (fun d => k (.exit 2) (((pa_impl_Perform 11).2 4).st d) (((pa_impl_Perform 11).2 4).nid)) v1 v2 v8 v36 v37 v38 b1_1 r2 r3 r4 := by kernel_rfl
theorem lp_impl_Perform_11 {R : Type} : ∀ (m : Nat) (d : (pa_impl_Perform 11).1.D) (k : Kt R), loopN 0 (pa_impl_Perform 11) (fun s nid k => ev Try.prog ⟨ta_impl_Perform, 0, 81, pa_impl_Perform⟩ L_impl_Perform co_impl_Perform_11 s nid k) m d k = (lo_impl_Perform_11 m d.1 d.2.1 d.2.2.1 d.2.2.2.1 d.2.2.2.2.1 d.2.2.2.2.2.1 d.2.2.2.2.2.2.1 d.2.2.2.2.2.2.2.1 d.2.2.2.2.2.2.2.2.1 d.2.2.2.2.2.2.2.2.2.1).bind (ou_impl_Perform_11 k)
  | 0, _, _ => rfl
  | m + 1, ⟨v1, v2, v8, v36, v37, v38, b1_1, r2, r3, r4, ⟨⟩⟩, k => (rd_impl_Perform_11 _ k v1 v2 v8 v36 v37 v38 b1_1 r2 r3 r4).trans ((congrArg (fun F => tr_impl_Perform_11  F (fun d => k (.exit 2) (((pa_impl_Perform 11).2 4).st d) (((pa_impl_Perform 11).2 4).nid)) v1 v2 v8 v36 v37 v38 b1_1 r2 r3 r4) (funext fun d => lp_impl_Perform_11 m d k)).trans (na_impl_Perform_11 (f := ou_impl_Perform_11 k)  (fun d => lo_impl_Perform_11 m d.1 d.2.1 d.2.2.1 d.2.2.2.1 d.2.2.2.2.1 d.2.2.2.2.2.1 d.2.2.2.2.2.2.1 d.2.2.2.2.2.2.2.1 d.2.2.2.2.2.2.2.2.1 d.2.2.2.2.2.2.2.2.2.1) (fun d => some (d)) v1 v2 v8 v36 v37 v38 b1_1 r2 r3 r4))
theorem rd_impl_Perform_6 {R : Type} (nx : (pa_impl_Perform 6).1.D → Kt R → Option R) (k : Kt R) (v1 : List (Bool × Int × ByteArray × Unit)) (v2 : Int) (v8 : Int) (r2 : List ByteArray) (r3 : List (Int × ByteArray × Unit)) (r4 : List ByteArray) (r5 : List (Int × ByteArray × Unit)) : ev Try.prog ⟨ta_impl_Perform, 0, 81, pa_impl_Perform⟩ L_impl_Perform co_impl_Perform_6 ((pa_impl_Perform 6).1.st (v1, v2, v8, r2, r3, r4, r5, ())) (pa_impl_Perform 6).1.nid (roundK 0 (pa_impl_Perform 6) nx k) = tr_impl_Perform_6 (fun d => lo_impl_Perform_11 (fu_impl_Perform_11 d.1 d.2.1 d.2.2.1 d.2.2.2.1 d.2.2.2.2.1 d.2.2.2.2.2.1 d.2.2.2.2.2.2.1 d.2.2.2.2.2.2.2.1 d.2.2.2.2.2.2.2.2.1 d.2.2.2.2.2.2.2.2.2.1) d.1 d.2.1 d.2.2.1 d.2.2.2.1 d.2.2.2.2.1 d.2.2.2.2.2.1 d.2.2.2.2.2.2.1 d.2.2.2.2.2.2.2.1 d.2.2.2.2.2.2.2.2.1 d.2.2.2.2.2.2.2.2.2.1) (fun d => nx d k) (fun d => k (.exit 0) (((pa_impl_Perform 6).2 2).st d) (((pa_impl_Perform 6).2 2).nid)) v1 v2 v8 r2 r3 r4 r5 := by kernel_rfl
theorem lp_impl_Perform_6 {R : Type} : ∀ (m : Nat) (d : (pa_impl_Perform 6).1.D) (k : Kt R), loopN 0 (pa_impl_Perform 6) (fun s nid k => ev Try.prog ⟨ta_impl_Perform, 0, 81, pa_impl_Perform⟩ L_impl_Perform co_impl_Perform_6 s nid k) m d k = (lo_impl_Perform_6 m d.1 d.2.1 d.2.2.1 d.2.2.2.1 d.2.2.2.2.1 d.2.2.2.2.2.1 d.2.2.2.2.2.2.1).bind (ou_impl_Perform_6 k)
  | 0, _, _ => rfl
  | m + 1, ⟨v1, v2, v8, r2, r3, r4, r5, ⟨⟩⟩, k => (rd_impl_Perform_6 _ k v1 v2 v8 r2 r3 r4 r5).trans ((congrArg (fun F => tr_impl_Perform_6 (fun d => lo_impl_Perform_11 (fu_impl_Perform_11 d.1 d.2.1 d.2.2.1 d.2.2.2.1 d.2.2.2.2.1 d.2.2.2.2.2.1 d.2.2.2.2.2.2.1 d.2.2.2.2.2.2.2.1 d.2.2.2.2.2.2.2.2.1 d.2.2.2.2.2.2.2.2.2.1) d.1 d.2.1 d.2.2.1 d.2.2.2.1 d.2.2.2.2.1 d.2.2.2.2.2.1 d.2.2.2.2.2.2.1 d.2.2.2.2.2.2.2.1 d.2.2.2.2.2.2.2.2.1 d.2.2.2.2.2.2.2.2.2.1) F (fun d => k (.exit 0) (((pa_impl_Perform 6).2 2).st d) (((pa_impl_Perform 6).2 2).nid)) v1 v2 v8 r2 r3 r4 r5) (funext fun d => lp_impl_Perform_6 m d k)).trans (na_impl_Perform_6 (f := ou_impl_Perform_6 k) (fun d => lo_impl_Perform_11 (fu_impl_Perform_11 d.1 d.2.1 d.2.2.1 d.2.2.2.1 d.2.2.2.2.1 d.2.2.2.2.2.1 d.2.2.2.2.2.2.1 d.2.2.2.2.2.2.2.1 d.2.2.2.2.2.2.2.2.1 d.2.2.2.2.2.2.2.2.2.1) d.1 d.2.1 d.2.2.1 d.2.2.2.1 d.2.2.2.2.1 d.2.2.2.2.2.1 d.2.2.2.2.2.2.1 d.2.2.2.2.2.2.2.1 d.2.2.2.2.2.2.2.2.1 d.2.2.2.2.2.2.2.2.2.1) (fun d => lo_impl_Perform_6 m d.1 d.2.1 d.2.2.1 d.2.2.2.1 d.2.2.2.2.1 d.2.2.2.2.2.1 d.2.2.2.2.2.2.1) (fun d => some (d)) v1 v2 v8 r2 r3 r4 r5))
theorem en_impl_Perform (a0 : (List ByteArray) × (List (Int × ByteArray × Unit)) × Unit) (a1 : List (Bool × Int × ByteArray × Unit)) (a2 : Int) : evalF Try.prog ta_impl_Perform pa_impl_Perform sg_impl_Perform Try.f31 L_impl_Perform (a0, a1, a2, ()) = de_impl_Perform a0 a1 a2 := by kernel_rfl
theorem si_impl_Perform : SigsOk Try.prog ta_impl_Perform := SigsOk.of fun f sd h => by
  try dsimp only [Tb.of, ta_impl_Perform] at h
  split at h
  · rename_i e; subst e; cases h; exact sn_impl_in
  split at h
  · rename_i e; subst e; cases h; exact sn_impl_ValidDisk
  split at h
  · rename_i e; subst e; cases h; exact sn_impl_copyDisk
  cases h
theorem lk_impl_Perform_11 {R : Type} : LoopOk Try.prog R 81 0 pa_impl_Perform L_impl_Perform co_impl_Perform_11 :=
  loop_key (cfg := ⟨ta_impl_Perform, 0, 81, pa_impl_Perform⟩) (key := 11) (by kernel_rfl) (by kernel_rfl) si_impl_Perform rfl rfl (fun d k r h => ⟨fu_impl_Perform_11 d.1 d.2.1 d.2.2.1 d.2.2.2.1 d.2.2.2.2.1 d.2.2.2.2.2.1 d.2.2.2.2.2.2.1 d.2.2.2.2.2.2.2.1 d.2.2.2.2.2.2.2.2.1 d.2.2.2.2.2.2.2.2.2.1, (lp_impl_Perform_11 _ d k).trans h⟩) (fun c hc => by rw [show loopsIn co_impl_Perform_11 = [] from by kernel_rfl] at hc; cases hc)
theorem lk_impl_Perform_6 {R : Type} : LoopOk Try.prog R 81 0 pa_impl_Perform L_impl_Perform co_impl_Perform_6 :=
  loop_key (cfg := ⟨ta_impl_Perform, 0, 81, pa_impl_Perform⟩) (key := 6) (by kernel_rfl) (by kernel_rfl) si_impl_Perform rfl rfl (fun d k r h => ⟨fu_impl_Perform_6 d.1 d.2.1 d.2.2.1 d.2.2.2.1 d.2.2.2.2.1 d.2.2.2.2.2.1 d.2.2.2.2.2.2.1, (lp_impl_Perform_6 _ d k).trans h⟩) (fun c hc => by rw [show loopsIn co_impl_Perform_6 = [co_impl_Perform_11] from by kernel_rfl] at hc; simp only [List.mem_cons, List.not_mem_nil, or_false] at hc; rcases hc with rfl <;> first | exact lk_impl_Perform_11)
theorem sn_impl_Perform : Callable Try.prog 31 ∧ Sound Try.prog 31 sd_impl_Perform.sg sd_impl_Perform.den :=
  fn_loops (pat := pa_impl_Perform) L_impl_Perform (by kernel_rfl) si_impl_Perform Try.func31 (by kernel_rfl) (by kernel_rfl) (fun c hc => by rw [show loopsIn (bodyOf Try.f31) = [co_impl_Perform_6] from by kernel_rfl] at hc; simp only [List.mem_cons, List.not_mem_nil, or_false] at hc; rcases hc with rfl <;> first | exact lk_impl_Perform_6) fun x r h => by
    obtain ⟨a0, a1, a2, ⟨⟩⟩ := x; obtain ⟨y, h1, h2⟩ := Option.bind_eq_some_iff.1 (show (m_impl_Perform a0 a1 a2).bind (fun r => some ((r.1, r.2.1, ()), (()))) = some r from h); cases h2; exact (en_impl_Perform a0 a1 a2).trans (eq_impl_Perform a0 a1 a2 _ h1)
def m_laws_eqStringS (a b : List ByteArray) : Option Bool := eqM (.sl .str) a b
def sg_laws_eqStringS : Sig := ⟨[.rd (.sl .str), .rd (.sl .str)], [none, none], [.rd .bool], [none]⟩
noncomputable def sd_laws_eqStringS : SD := ⟨sg_laws_eqStringS, fun x => (m_laws_eqStringS x.1 x.2.1).bind fun r => some ((r, ()), (()))⟩
noncomputable def ta_laws_eqStringS : Tb := Tb.of fun f => none
def pa_laws_eqStringS : Nat → Pat × (Nat → Pat) := fun k => if k = 5 then (⟨[.sl 0 0 .str, .sl 1 0 .str], [(0, .lf (.d (.sl .str))), (1, .lf (.d (.sl .str))), (5, .lf (.d (.int .i64)))], []⟩, fun e => if e = 1 then ⟨[], [(4, .lf (.d .bool))], []⟩ else if e = 2 then ⟨[], [], []⟩ else ⟨[], [], []⟩) else (⟨[], [], []⟩, fun _ => ⟨[], [], []⟩)
noncomputable def co_laws_eqStringS_5 : Code := (loopsIn (bodyOf Try.f111)).getD 0 .skip
def fu_laws_eqStringS_5 (v0 : List ByteArray) (v1 : List ByteArray) (v5 : Int) : Nat := ((v0.length : Int) - v5).toNat + 1
noncomputable def tr_laws_eqStringS_5 {R : Type}  (NX : ((List ByteArray) × (List ByteArray) × (Int) × Unit) → Option R) (X2 : (Unit) → Option R) (X1 : ((Bool) × Unit) → Option R) (v0 : List ByteArray) (v1 : List ByteArray) (v5 : Int) : Option R :=
  bif decide (v5 < nI (List.length v0)) then
    bif decide (0 ≤ v5) then
      bif decide (v5 < nI (List.length v0)) then
        bif decide (0 ≤ v5) then
          bif decide (v5 < nI (List.length v1)) then
            bif !ByteArray.toList (List.getD v0 (Int.toNat v5) (ByteArray.mk #[])) == ByteArray.toList (List.getD v1 (Int.toNat v5) (ByteArray.mk #[])) then X1 (false, ())
            else NX (v0, v1, IntKind.wrap IntKind.i64 (v5 + 1), ())
          else none
        else none
      else none
    else none
  else X2 PUnit.unit
noncomputable def lo_laws_eqStringS_5 : Nat → (List ByteArray) → (List ByteArray) → (Int) →  Option ((Unit) ⊕ ((Bool) × Unit))
  | 0, _, _, _ => none
  | m + 1, v0, v1, v5 => tr_laws_eqStringS_5  (fun d => lo_laws_eqStringS_5 m d.1 d.2.1 d.2.2.1) (fun d => some (.inl (d))) (fun d => some (.inr (d))) v0 v1 v5
theorem na_laws_eqStringS_5 {R S : Type}  (NX : ((List ByteArray) × (List ByteArray) × (Int) × Unit) → Option R) (X2 : (Unit) → Option R) (X1 : ((Bool) × Unit) → Option R) (v0 : List ByteArray) (v1 : List ByteArray) (v5 : Int) (f : R → Option S) : tr_laws_eqStringS_5  (fun d => (NX d).bind f) (fun d => (X2 d).bind f) (fun d => (X1 d).bind f) v0 v1 v5 = (tr_laws_eqStringS_5  NX X2 X1 v0 v1 v5).bind f := by
  unfold tr_laws_eqStringS_5
  simp only [cond_bind, ite_bind, onSum_bind, Option.bind_assoc, Option.bind_none, Option.bind_some]
noncomputable def de_laws_eqStringS (a0 : List ByteArray) (a1 : List ByteArray) : Option ((((Bool) × Unit) × (Unit))) :=
  bif nI (List.length a0) != nI (List.length a1) then some ((false, ()), ())
  else Option.bind ((fun d => lo_laws_eqStringS_5 (fu_laws_eqStringS_5 d.1 d.2.1 d.2.2.1) d.1 d.2.1 d.2.2.1) (a0, a1, 0, ())) fun val => onSum (fun val => some ((true, ()), ())) (fun val => some ((val.fst, ()), ())) val
theorem eq_laws_eqStringS (a0 : List ByteArray) (a1 : List ByteArray) r (h : m_laws_eqStringS a0 a1 = some r) : de_laws_eqStringS a0 a1 = some ((r, ()), (())) := by
  obtain ⟨hc, hd, rfl⟩ := eqM_some (t := .sl .str) h
  obtain ⟨hlx0, hx⟩ := fineB_sl hc
  obtain ⟨hly0, hy⟩ := fineB_sl hd
  have hlx : a0.length < 1152921504606846976 := hlx0
  have hly : a1.length < 1152921504606846976 := hly0
  clear hlx0 hly0 hc hd h
  · unfold de_laws_eqStringS
    by_cases hl : a1.length = a0.length
    · have c1 : (nI a0.length != nI a1.length) = false := by simp [nI, hl]
      have hL := eq_loop (xs := a0) (ys := a1) (ByteArray.mk #[]) eqS (g := fun m i => lo_laws_eqStringS_5 m a0 a1 i) (ok := .inl ()) (bad := .inr (false, ())) hl (fun m i hi => by
        show lo_laws_eqStringS_5 (m + 1) a0 a1 i = _
        simp only [lo_laws_eqStringS_5, tr_laws_eqStringS_5]
        rw [cLt hi, cLe0, cLt (show i < a1.length by omega), wI (by omega)]
        simp only [cond_true, Int.toNat_natCast]
        show (bif !(ByteArray.toList (List.getD (α := ByteArray) a0 i (ByteArray.mk #[])) == ByteArray.toList (List.getD (α := ByteArray) a1 i (ByteArray.mk #[]))) then _ else _) = bif (ByteArray.toList (List.getD (α := ByteArray) a0 i (ByteArray.mk #[])) == ByteArray.toList (List.getD (α := ByteArray) a1 i (ByteArray.mk #[]))) then _ else _
        cases (ByteArray.toList (List.getD (α := ByteArray) a0 i (ByteArray.mk #[])) == ByteArray.toList (List.getD (α := ByteArray) a1 i (ByteArray.mk #[]))) <;> rfl) (fun m => by
        show lo_laws_eqStringS_5 (m + 1) a0 a1 a0.length = _
        simp only [lo_laws_eqStringS_5, tr_laws_eqStringS_5]
        rw [cLtF]
        rfl) (fu_laws_eqStringS_5 a0 a1 0) 0 (by omega) (by simp [fu_laws_eqStringS_5])
      rw [c1]
      have hL' : lo_laws_eqStringS_5 (fu_laws_eqStringS_5 a0 a1 0) a0 a1 0 = _ := hL
      show (lo_laws_eqStringS_5 (fu_laws_eqStringS_5 a0 a1 0) a0 a1 0).bind _ = some ((eqL (α := ByteArray) eqS a0 a1, ()), ())
      rw [hL', List.drop_zero, List.drop_zero]
      cases eqL (α := ByteArray) eqS a0 a1 <;> rfl
    · have c1 : (nI a0.length != nI a1.length) = true := by simp [nI]; omega
      rw [c1]
      show _ = some ((eqL (α := ByteArray) eqS a0 a1, ()), ())
      rw [eqL_len (fun q => hl q.symm)]
      rfl
noncomputable def ou_laws_eqStringS_5 {R : Type} (k : Kt R) : ((Unit) ⊕ ((Bool) × Unit)) → Option R := (onSum (fun d => k (.exit 0) (((pa_laws_eqStringS 5).2 2).st d) (((pa_laws_eqStringS 5).2 2).nid)) (fun d => k .ret (((pa_laws_eqStringS 5).2 1).st d) (((pa_laws_eqStringS 5).2 1).nid)))
noncomputable def L_laws_eqStringS {R : Type} : Lt R pa_laws_eqStringS := (addL (pat := pa_laws_eqStringS) 5 (fun d k => (lo_laws_eqStringS_5 (fu_laws_eqStringS_5 d.1 d.2.1 d.2.2.1) d.1 d.2.1 d.2.2.1).bind (ou_laws_eqStringS_5 k)) noL)
theorem rd_laws_eqStringS_5 {R : Type} (nx : (pa_laws_eqStringS 5).1.D → Kt R → Option R) (k : Kt R) (v0 : List ByteArray) (v1 : List ByteArray) (v5 : Int) : ev Try.prog ⟨ta_laws_eqStringS, 0, 26, pa_laws_eqStringS⟩ L_laws_eqStringS co_laws_eqStringS_5 ((pa_laws_eqStringS 5).1.st (v0, v1, v5, ())) (pa_laws_eqStringS 5).1.nid (roundK 0 (pa_laws_eqStringS 5) nx k) = tr_laws_eqStringS_5  (fun d => nx d k) (fun d => k (.exit 0) (((pa_laws_eqStringS 5).2 2).st d) (((pa_laws_eqStringS 5).2 2).nid)) (fun d => k .ret (((pa_laws_eqStringS 5).2 1).st d) (((pa_laws_eqStringS 5).2 1).nid)) v0 v1 v5 := by kernel_rfl
theorem lp_laws_eqStringS_5 {R : Type} : ∀ (m : Nat) (d : (pa_laws_eqStringS 5).1.D) (k : Kt R), loopN 0 (pa_laws_eqStringS 5) (fun s nid k => ev Try.prog ⟨ta_laws_eqStringS, 0, 26, pa_laws_eqStringS⟩ L_laws_eqStringS co_laws_eqStringS_5 s nid k) m d k = (lo_laws_eqStringS_5 m d.1 d.2.1 d.2.2.1).bind (ou_laws_eqStringS_5 k)
  | 0, _, _ => rfl
  | m + 1, ⟨v0, v1, v5, ⟨⟩⟩, k => (rd_laws_eqStringS_5 _ k v0 v1 v5).trans ((congrArg (fun F => tr_laws_eqStringS_5  F (fun d => k (.exit 0) (((pa_laws_eqStringS 5).2 2).st d) (((pa_laws_eqStringS 5).2 2).nid)) (fun d => k .ret (((pa_laws_eqStringS 5).2 1).st d) (((pa_laws_eqStringS 5).2 1).nid)) v0 v1 v5) (funext fun d => lp_laws_eqStringS_5 m d k)).trans (na_laws_eqStringS_5 (f := ou_laws_eqStringS_5 k)  (fun d => lo_laws_eqStringS_5 m d.1 d.2.1 d.2.2.1) (fun d => some (.inl (d))) (fun d => some (.inr (d))) v0 v1 v5))
theorem en_laws_eqStringS (a0 : List ByteArray) (a1 : List ByteArray) : evalF Try.prog ta_laws_eqStringS pa_laws_eqStringS sg_laws_eqStringS Try.f111 L_laws_eqStringS (a0, a1, ()) = de_laws_eqStringS a0 a1 := by kernel_rfl
theorem si_laws_eqStringS : SigsOk Try.prog ta_laws_eqStringS := SigsOk.of fun f sd h => by
  try dsimp only [Tb.of, ta_laws_eqStringS] at h
  cases h
theorem lk_laws_eqStringS_5 {R : Type} : LoopOk Try.prog R 26 0 pa_laws_eqStringS L_laws_eqStringS co_laws_eqStringS_5 :=
  loop_key (cfg := ⟨ta_laws_eqStringS, 0, 26, pa_laws_eqStringS⟩) (key := 5) (by kernel_rfl) (by kernel_rfl) si_laws_eqStringS rfl rfl (fun d k r h => ⟨fu_laws_eqStringS_5 d.1 d.2.1 d.2.2.1, (lp_laws_eqStringS_5 _ d k).trans h⟩) (fun c hc => by rw [show loopsIn co_laws_eqStringS_5 = [] from by kernel_rfl] at hc; cases hc)
theorem sn_laws_eqStringS : Callable Try.prog 111 ∧ Sound Try.prog 111 sd_laws_eqStringS.sg sd_laws_eqStringS.den :=
  fn_loops (pat := pa_laws_eqStringS) L_laws_eqStringS (by kernel_rfl) si_laws_eqStringS Try.func111 (by kernel_rfl) (by kernel_rfl) (fun c hc => by rw [show loopsIn (bodyOf Try.f111) = [co_laws_eqStringS_5] from by kernel_rfl] at hc; simp only [List.mem_cons, List.not_mem_nil, or_false] at hc; rcases hc with rfl <;> first | exact lk_laws_eqStringS_5) fun x r h => by
    obtain ⟨a0, a1, ⟨⟩⟩ := x; obtain ⟨y, h1, h2⟩ := Option.bind_eq_some_iff.1 (show (m_laws_eqStringS a0 a1).bind (fun r => some ((r, ()), (()))) = some r from h); cases h2; exact (en_laws_eqStringS a0 a1).trans (eq_laws_eqStringS a0 a1 _ h1)
def m_laws_eqWrite (a b : Int × ByteArray × Unit) : Option Bool := eqM (.pair (.int .i64) (.pair .str .unit)) a b
def sg_laws_eqWrite : Sig := ⟨[.rd (.pair (.int .i64) (.pair .str .unit)), .rd (.pair (.int .i64) (.pair .str .unit))], [some 2, some 2], [.rd .bool], [none]⟩
noncomputable def sd_laws_eqWrite : SD := ⟨sg_laws_eqWrite, fun x => (m_laws_eqWrite x.1 x.2.1).bind fun r => some ((r, ()), (()))⟩
noncomputable def ta_laws_eqWrite : Tb := Tb.of fun f => none
def pa_laws_eqWrite : Nat → Pat × (Nat → Pat) := fun k => (⟨[], [], []⟩, fun _ => ⟨[], [], []⟩)
noncomputable def de_laws_eqWrite (a0 : Int × ByteArray × Unit) (a1 : Int × ByteArray × Unit) : Option ((((Bool) × Unit) × (Unit))) :=
  bif a0.fst != a1.fst then some ((false, ()), ()) else bif !ByteArray.toList a0.snd.fst == ByteArray.toList a1.snd.fst then some ((false, ()), ()) else some ((true, ()), ())
theorem eq_laws_eqWrite (a0 : Int × ByteArray × Unit) (a1 : Int × ByteArray × Unit) r (h : m_laws_eqWrite a0 a1 = some r) : de_laws_eqWrite a0 a1 = some ((r, ()), (())) := by
  obtain ⟨hc, hd, rfl⟩ := eqM_some (t := (.pair (.int .i64) (.pair .str .unit))) h
  obtain ⟨hc0, hc1, _⟩ : fineB (.int .i64) a0.1 = true ∧ fineB .str a0.2.1 = true ∧ True := by
    have s := hc
    obtain ⟨h0, s⟩ := fineB_pair s
    obtain ⟨h1, s⟩ := fineB_pair s
    exact ⟨h0, h1, trivial⟩
  obtain ⟨hd0, hd1, _⟩ : fineB (.int .i64) a1.1 = true ∧ fineB .str a1.2.1 = true ∧ True := by
    have s := hd
    obtain ⟨h0, s⟩ := fineB_pair s
    obtain ⟨h1, s⟩ := fineB_pair s
    exact ⟨h0, h1, trivial⟩
  unfold de_laws_eqWrite
  have e0 : (a0.1 != a1.1) = !eqI a0.1 a1.1 := bneI _ _
  have e1 : (!(ByteArray.toList a0.2.1 == ByteArray.toList a1.2.1)) = !eqS a0.2.1 a1.2.1 := rfl
  simp only [e0, e1, Option.bind_some]
  show _ = some (((eqI a0.1 a1.1 && (eqS a0.2.1 a1.2.1 && true)), ()), ())
  generalize eqI a0.1 a1.1 = p0
  generalize eqS a0.2.1 a1.2.1 = p1
  cases p0 <;> cases p1 <;> rfl
theorem en_laws_eqWrite (a0 : Int × ByteArray × Unit) (a1 : Int × ByteArray × Unit) : evalF Try.prog ta_laws_eqWrite pa_laws_eqWrite sg_laws_eqWrite Try.f179 noL (a0, a1, ()) = de_laws_eqWrite a0 a1 := by kernel_rfl
theorem si_laws_eqWrite : SigsOk Try.prog ta_laws_eqWrite := SigsOk.of fun f sd h => by
  try dsimp only [Tb.of, ta_laws_eqWrite] at h
  cases h
theorem sn_laws_eqWrite : Callable Try.prog 179 ∧ Sound Try.prog 179 sd_laws_eqWrite.sg sd_laws_eqWrite.den :=
  fn_plain (pat := pa_laws_eqWrite) (by kernel_rfl) si_laws_eqWrite Try.func179 (by kernel_rfl) (by kernel_rfl) (by kernel_rfl) fun x r h => by
    obtain ⟨a0, a1, ⟨⟩⟩ := x; obtain ⟨y, h1, h2⟩ := Option.bind_eq_some_iff.1 (show (m_laws_eqWrite a0 a1).bind (fun r => some ((r, ()), (()))) = some r from h); cases h2; exact (en_laws_eqWrite a0 a1).trans (eq_laws_eqWrite a0 a1 _ h1)
def m_laws_eqWriteS (a b : List (Int × ByteArray × Unit)) : Option Bool := eqM (.sl (.pair (.int .i64) (.pair .str .unit))) a b
def sg_laws_eqWriteS : Sig := ⟨[.rd (.sl (.pair (.int .i64) (.pair .str .unit))), .rd (.sl (.pair (.int .i64) (.pair .str .unit)))], [none, none], [.rd .bool], [none]⟩
noncomputable def sd_laws_eqWriteS : SD := ⟨sg_laws_eqWriteS, fun x => (m_laws_eqWriteS x.1 x.2.1).bind fun r => some ((r, ()), (()))⟩
noncomputable def ta_laws_eqWriteS : Tb := Tb.of fun f => if f = 179 then some sd_laws_eqWrite else none
def pa_laws_eqWriteS : Nat → Pat × (Nat → Pat) := fun k => if k = 5 then (⟨[.sl 0 0 (.pair (.int .i64) (.pair .str .unit)), .sl 1 0 (.pair (.int .i64) (.pair .str .unit))], [(0, .lf (.d (.sl (.pair (.int .i64) (.pair .str .unit))))), (1, .lf (.d (.sl (.pair (.int .i64) (.pair .str .unit))))), (5, .lf (.d (.int .i64)))], []⟩, fun e => if e = 1 then ⟨[], [(4, .lf (.d .bool))], []⟩ else if e = 2 then ⟨[], [], []⟩ else ⟨[], [], []⟩) else (⟨[], [], []⟩, fun _ => ⟨[], [], []⟩)
noncomputable def co_laws_eqWriteS_5 : Code := (loopsIn (bodyOf Try.f112)).getD 0 .skip
def fu_laws_eqWriteS_5 (v0 : List (Int × ByteArray × Unit)) (v1 : List (Int × ByteArray × Unit)) (v5 : Int) : Nat := ((v0.length : Int) - v5).toNat + 1
noncomputable def tr_laws_eqWriteS_5 {R : Type}  (NX : ((List (Int × ByteArray × Unit)) × (List (Int × ByteArray × Unit)) × (Int) × Unit) → Option R) (X2 : (Unit) → Option R) (X1 : ((Bool) × Unit) → Option R) (v0 : List (Int × ByteArray × Unit)) (v1 : List (Int × ByteArray × Unit)) (v5 : Int) : Option R :=
  bif decide (v5 < nI (List.length v0)) then
    bif decide (0 ≤ v5) then
      bif decide (v5 < nI (List.length v0)) then
        bif decide (0 ≤ v5) then
          bif decide (v5 < nI (List.length v1)) then
            Option.bind
              (Option.bind
                (m_laws_eqWrite ((List.getD v0 (Int.toNat v5) (0, ByteArray.mk #[], ())).fst, (List.getD v0 (Int.toNat v5) (0, ByteArray.mk #[], ())).snd.fst, ())
                  ((List.getD v1 (Int.toNat v5) (0, ByteArray.mk #[], ())).fst, (List.getD v1 (Int.toNat v5) (0, ByteArray.mk #[], ())).snd.fst, ()))
                fun val => some ((val, ()), ()))
              fun val => bif !val.fst.fst then X1 (false, ()) else NX (v0, v1, IntKind.wrap IntKind.i64 (v5 + 1), ())
          else none
        else none
      else none
    else none
  else X2 PUnit.unit
noncomputable def lo_laws_eqWriteS_5 : Nat → (List (Int × ByteArray × Unit)) → (List (Int × ByteArray × Unit)) → (Int) →  Option ((Unit) ⊕ ((Bool) × Unit))
  | 0, _, _, _ => none
  | m + 1, v0, v1, v5 => tr_laws_eqWriteS_5  (fun d => lo_laws_eqWriteS_5 m d.1 d.2.1 d.2.2.1) (fun d => some (.inl (d))) (fun d => some (.inr (d))) v0 v1 v5
theorem na_laws_eqWriteS_5 {R S : Type}  (NX : ((List (Int × ByteArray × Unit)) × (List (Int × ByteArray × Unit)) × (Int) × Unit) → Option R) (X2 : (Unit) → Option R) (X1 : ((Bool) × Unit) → Option R) (v0 : List (Int × ByteArray × Unit)) (v1 : List (Int × ByteArray × Unit)) (v5 : Int) (f : R → Option S) : tr_laws_eqWriteS_5  (fun d => (NX d).bind f) (fun d => (X2 d).bind f) (fun d => (X1 d).bind f) v0 v1 v5 = (tr_laws_eqWriteS_5  NX X2 X1 v0 v1 v5).bind f := by
  unfold tr_laws_eqWriteS_5
  simp only [cond_bind, ite_bind, onSum_bind, Option.bind_assoc, Option.bind_none, Option.bind_some]
noncomputable def de_laws_eqWriteS (a0 : List (Int × ByteArray × Unit)) (a1 : List (Int × ByteArray × Unit)) : Option ((((Bool) × Unit) × (Unit))) :=
  bif nI (List.length a0) != nI (List.length a1) then some ((false, ()), ())
  else Option.bind ((fun d => lo_laws_eqWriteS_5 (fu_laws_eqWriteS_5 d.1 d.2.1 d.2.2.1) d.1 d.2.1 d.2.2.1) (a0, a1, 0, ())) fun val => onSum (fun val => some ((true, ()), ())) (fun val => some ((val.fst, ()), ())) val
theorem eq_laws_eqWriteS (a0 : List (Int × ByteArray × Unit)) (a1 : List (Int × ByteArray × Unit)) r (h : m_laws_eqWriteS a0 a1 = some r) : de_laws_eqWriteS a0 a1 = some ((r, ()), (())) := by
  obtain ⟨hc, hd, rfl⟩ := eqM_some (t := .sl (.pair (.int .i64) (.pair .str .unit))) h
  obtain ⟨hlx0, hx⟩ := fineB_sl hc
  obtain ⟨hly0, hy⟩ := fineB_sl hd
  have hlx : a0.length < 1152921504606846976 := hlx0
  have hly : a1.length < 1152921504606846976 := hly0
  clear hlx0 hly0 hc hd h
  · unfold de_laws_eqWriteS
    by_cases hl : a1.length = a0.length
    · have c1 : (nI a0.length != nI a1.length) = false := by simp [nI, hl]
      have hL := eq_loop (xs := a0) (ys := a1) (0, (ByteArray.mk #[]), ()) (fun x y : Int × ByteArray × Unit => eqB (.pair (.int .i64) (.pair .str .unit)) x y) (g := fun m i => lo_laws_eqWriteS_5 m a0 a1 i) (ok := .inl ()) (bad := .inr (false, ())) hl (fun m i hi => by
        show lo_laws_eqWriteS_5 (m + 1) a0 a1 i = _
        simp only [lo_laws_eqWriteS_5, tr_laws_eqWriteS_5]
        rw [cLt hi, cLe0, cLt (show i < a1.length by omega), wI (by omega)]
        simp only [cond_true, Int.toNat_natCast]
        have f1 : fineB (.pair (.int .i64) (.pair .str .unit)) (List.getD (α := Int × ByteArray × Unit) a0 i (0, (ByteArray.mk #[]), ())) = true := hx _ (getD_mem (0, (ByteArray.mk #[]), ()) hi)
        have f2 : fineB (.pair (.int .i64) (.pair .str .unit)) (List.getD (α := Int × ByteArray × Unit) a1 i (0, (ByteArray.mk #[]), ())) = true := hy _ (getD_mem (0, (ByteArray.mk #[]), ()) (by omega))
        have hE : m_laws_eqWrite ((List.getD (α := Int × ByteArray × Unit) a0 i (0, (ByteArray.mk #[]), ())).fst, (List.getD (α := Int × ByteArray × Unit) a0 i (0, (ByteArray.mk #[]), ())).snd.fst, ()) ((List.getD (α := Int × ByteArray × Unit) a1 i (0, (ByteArray.mk #[]), ())).fst, (List.getD (α := Int × ByteArray × Unit) a1 i (0, (ByteArray.mk #[]), ())).snd.fst, ()) = some (eqB (.pair (.int .i64) (.pair .str .unit)) (List.getD (α := Int × ByteArray × Unit) a0 i (0, (ByteArray.mk #[]), ())) (List.getD (α := Int × ByteArray × Unit) a1 i (0, (ByteArray.mk #[]), ()))) := by
          exact eqM_is (t := (.pair (.int .i64) (.pair .str .unit))) (x := (List.getD (α := Int × ByteArray × Unit) a0 i (0, (ByteArray.mk #[]), ()))) (y := (List.getD (α := Int × ByteArray × Unit) a1 i (0, (ByteArray.mk #[]), ()))) f1 f2
        rw [hE]
        cases q : eqB (.pair (.int .i64) (.pair .str .unit)) (List.getD (α := Int × ByteArray × Unit) a0 i (0, (ByteArray.mk #[]), ())) (List.getD (α := Int × ByteArray × Unit) a1 i (0, (ByteArray.mk #[]), ())) <;> simp only [Option.bind_some, q] <;> rfl) (fun m => by
        show lo_laws_eqWriteS_5 (m + 1) a0 a1 a0.length = _
        simp only [lo_laws_eqWriteS_5, tr_laws_eqWriteS_5]
        rw [cLtF]
        rfl) (fu_laws_eqWriteS_5 a0 a1 0) 0 (by omega) (by simp [fu_laws_eqWriteS_5])
      rw [c1]
      have hL' : lo_laws_eqWriteS_5 (fu_laws_eqWriteS_5 a0 a1 0) a0 a1 0 = _ := hL
      show (lo_laws_eqWriteS_5 (fu_laws_eqWriteS_5 a0 a1 0) a0 a1 0).bind _ = some ((eqL (α := Int × ByteArray × Unit) (fun x y : Int × ByteArray × Unit => eqB (.pair (.int .i64) (.pair .str .unit)) x y) a0 a1, ()), ())
      rw [hL', List.drop_zero, List.drop_zero]
      cases eqL (α := Int × ByteArray × Unit) (fun x y : Int × ByteArray × Unit => eqB (.pair (.int .i64) (.pair .str .unit)) x y) a0 a1 <;> rfl
    · have c1 : (nI a0.length != nI a1.length) = true := by simp [nI]; omega
      rw [c1]
      show _ = some ((eqL (α := Int × ByteArray × Unit) (fun x y : Int × ByteArray × Unit => eqB (.pair (.int .i64) (.pair .str .unit)) x y) a0 a1, ()), ())
      rw [eqL_len (fun q => hl q.symm)]
      rfl
noncomputable def ou_laws_eqWriteS_5 {R : Type} (k : Kt R) : ((Unit) ⊕ ((Bool) × Unit)) → Option R := (onSum (fun d => k (.exit 0) (((pa_laws_eqWriteS 5).2 2).st d) (((pa_laws_eqWriteS 5).2 2).nid)) (fun d => k .ret (((pa_laws_eqWriteS 5).2 1).st d) (((pa_laws_eqWriteS 5).2 1).nid)))
noncomputable def L_laws_eqWriteS {R : Type} : Lt R pa_laws_eqWriteS := (addL (pat := pa_laws_eqWriteS) 5 (fun d k => (lo_laws_eqWriteS_5 (fu_laws_eqWriteS_5 d.1 d.2.1 d.2.2.1) d.1 d.2.1 d.2.2.1).bind (ou_laws_eqWriteS_5 k)) noL)
theorem rd_laws_eqWriteS_5 {R : Type} (nx : (pa_laws_eqWriteS 5).1.D → Kt R → Option R) (k : Kt R) (v0 : List (Int × ByteArray × Unit)) (v1 : List (Int × ByteArray × Unit)) (v5 : Int) : ev Try.prog ⟨ta_laws_eqWriteS, 0, 27, pa_laws_eqWriteS⟩ L_laws_eqWriteS co_laws_eqWriteS_5 ((pa_laws_eqWriteS 5).1.st (v0, v1, v5, ())) (pa_laws_eqWriteS 5).1.nid (roundK 0 (pa_laws_eqWriteS 5) nx k) = tr_laws_eqWriteS_5  (fun d => nx d k) (fun d => k (.exit 0) (((pa_laws_eqWriteS 5).2 2).st d) (((pa_laws_eqWriteS 5).2 2).nid)) (fun d => k .ret (((pa_laws_eqWriteS 5).2 1).st d) (((pa_laws_eqWriteS 5).2 1).nid)) v0 v1 v5 := by kernel_rfl
theorem lp_laws_eqWriteS_5 {R : Type} : ∀ (m : Nat) (d : (pa_laws_eqWriteS 5).1.D) (k : Kt R), loopN 0 (pa_laws_eqWriteS 5) (fun s nid k => ev Try.prog ⟨ta_laws_eqWriteS, 0, 27, pa_laws_eqWriteS⟩ L_laws_eqWriteS co_laws_eqWriteS_5 s nid k) m d k = (lo_laws_eqWriteS_5 m d.1 d.2.1 d.2.2.1).bind (ou_laws_eqWriteS_5 k)
  | 0, _, _ => rfl
  | m + 1, ⟨v0, v1, v5, ⟨⟩⟩, k => (rd_laws_eqWriteS_5 _ k v0 v1 v5).trans ((congrArg (fun F => tr_laws_eqWriteS_5  F (fun d => k (.exit 0) (((pa_laws_eqWriteS 5).2 2).st d) (((pa_laws_eqWriteS 5).2 2).nid)) (fun d => k .ret (((pa_laws_eqWriteS 5).2 1).st d) (((pa_laws_eqWriteS 5).2 1).nid)) v0 v1 v5) (funext fun d => lp_laws_eqWriteS_5 m d k)).trans (na_laws_eqWriteS_5 (f := ou_laws_eqWriteS_5 k)  (fun d => lo_laws_eqWriteS_5 m d.1 d.2.1 d.2.2.1) (fun d => some (.inl (d))) (fun d => some (.inr (d))) v0 v1 v5))
theorem en_laws_eqWriteS (a0 : List (Int × ByteArray × Unit)) (a1 : List (Int × ByteArray × Unit)) : evalF Try.prog ta_laws_eqWriteS pa_laws_eqWriteS sg_laws_eqWriteS Try.f112 L_laws_eqWriteS (a0, a1, ()) = de_laws_eqWriteS a0 a1 := by kernel_rfl
theorem si_laws_eqWriteS : SigsOk Try.prog ta_laws_eqWriteS := SigsOk.of fun f sd h => by
  try dsimp only [Tb.of, ta_laws_eqWriteS] at h
  split at h
  · rename_i e; subst e; cases h; exact sn_laws_eqWrite
  cases h
theorem lk_laws_eqWriteS_5 {R : Type} : LoopOk Try.prog R 27 0 pa_laws_eqWriteS L_laws_eqWriteS co_laws_eqWriteS_5 :=
  loop_key (cfg := ⟨ta_laws_eqWriteS, 0, 27, pa_laws_eqWriteS⟩) (key := 5) (by kernel_rfl) (by kernel_rfl) si_laws_eqWriteS rfl rfl (fun d k r h => ⟨fu_laws_eqWriteS_5 d.1 d.2.1 d.2.2.1, (lp_laws_eqWriteS_5 _ d k).trans h⟩) (fun c hc => by rw [show loopsIn co_laws_eqWriteS_5 = [] from by kernel_rfl] at hc; cases hc)
theorem sn_laws_eqWriteS : Callable Try.prog 112 ∧ Sound Try.prog 112 sd_laws_eqWriteS.sg sd_laws_eqWriteS.den :=
  fn_loops (pat := pa_laws_eqWriteS) L_laws_eqWriteS (by kernel_rfl) si_laws_eqWriteS Try.func112 (by kernel_rfl) (by kernel_rfl) (fun c hc => by rw [show loopsIn (bodyOf Try.f112) = [co_laws_eqWriteS_5] from by kernel_rfl] at hc; simp only [List.mem_cons, List.not_mem_nil, or_false] at hc; rcases hc with rfl <;> first | exact lk_laws_eqWriteS_5) fun x r h => by
    obtain ⟨a0, a1, ⟨⟩⟩ := x; obtain ⟨y, h1, h2⟩ := Option.bind_eq_some_iff.1 (show (m_laws_eqWriteS a0 a1).bind (fun r => some ((r, ()), (()))) = some r from h); cases h2; exact (en_laws_eqWriteS a0 a1).trans (eq_laws_eqWriteS a0 a1 _ h1)
def m_laws_eqDisk (a b : (List ByteArray) × (List (Int × ByteArray × Unit)) × Unit) : Option Bool := eqM (.pair (.sl .str) (.pair (.sl (.pair (.int .i64) (.pair .str .unit))) .unit)) a b
def sg_laws_eqDisk : Sig := ⟨[.rd (.pair (.sl .str) (.pair (.sl (.pair (.int .i64) (.pair .str .unit))) .unit)), .rd (.pair (.sl .str) (.pair (.sl (.pair (.int .i64) (.pair .str .unit))) .unit))], [some 2, some 2], [.rd .bool], [none]⟩
noncomputable def sd_laws_eqDisk : SD := ⟨sg_laws_eqDisk, fun x => (m_laws_eqDisk x.1 x.2.1).bind fun r => some ((r, ()), (()))⟩
noncomputable def ta_laws_eqDisk : Tb := Tb.of fun f => if f = 111 then some sd_laws_eqStringS else if f = 112 then some sd_laws_eqWriteS else none
def pa_laws_eqDisk : Nat → Pat × (Nat → Pat) := fun k => (⟨[], [], []⟩, fun _ => ⟨[], [], []⟩)
noncomputable def de_laws_eqDisk (a0 : (List ByteArray) × (List (Int × ByteArray × Unit)) × Unit) (a1 : (List ByteArray) × (List (Int × ByteArray × Unit)) × Unit) : Option ((((Bool) × Unit) × (Unit))) :=
  Option.bind (Option.bind (m_laws_eqStringS a0.fst a1.fst) fun val => some ((val, ()), ())) fun val =>
    bif !val.fst.fst then some ((false, ()), ())
    else Option.bind (Option.bind (m_laws_eqWriteS a0.snd.fst a1.snd.fst) fun val => some ((val, ()), ())) fun val => bif !val.fst.fst then some ((false, ()), ()) else some ((true, ()), ())
theorem eq_laws_eqDisk (a0 : (List ByteArray) × (List (Int × ByteArray × Unit)) × Unit) (a1 : (List ByteArray) × (List (Int × ByteArray × Unit)) × Unit) r (h : m_laws_eqDisk a0 a1 = some r) : de_laws_eqDisk a0 a1 = some ((r, ()), (())) := by
  obtain ⟨hc, hd, rfl⟩ := eqM_some (t := (.pair (.sl .str) (.pair (.sl (.pair (.int .i64) (.pair .str .unit))) .unit))) h
  obtain ⟨hc0, hc1, _⟩ : fineB (.sl .str) a0.1 = true ∧ fineB (.sl (.pair (.int .i64) (.pair .str .unit))) a0.2.1 = true ∧ True := by
    have s := hc
    obtain ⟨h0, s⟩ := fineB_pair s
    obtain ⟨h1, s⟩ := fineB_pair s
    exact ⟨h0, h1, trivial⟩
  obtain ⟨hd0, hd1, _⟩ : fineB (.sl .str) a1.1 = true ∧ fineB (.sl (.pair (.int .i64) (.pair .str .unit))) a1.2.1 = true ∧ True := by
    have s := hd
    obtain ⟨h0, s⟩ := fineB_pair s
    obtain ⟨h1, s⟩ := fineB_pair s
    exact ⟨h0, h1, trivial⟩
  unfold de_laws_eqDisk
  have e0 : m_laws_eqStringS a0.1 a1.1 = some (eqB (.sl .str) a0.1 a1.1) := eqM_is (t := (.sl .str)) hc0 hd0
  have e1 : m_laws_eqWriteS a0.2.1 a1.2.1 = some (eqB (.sl (.pair (.int .i64) (.pair .str .unit))) a0.2.1 a1.2.1) := eqM_is (t := (.sl (.pair (.int .i64) (.pair .str .unit)))) hc1 hd1
  simp only [e0, e1, Option.bind_some]
  show _ = some (((eqB (.sl .str) a0.1 a1.1 && (eqB (.sl (.pair (.int .i64) (.pair .str .unit))) a0.2.1 a1.2.1 && true)), ()), ())
  generalize eqB (.sl .str) a0.1 a1.1 = p0
  generalize eqB (.sl (.pair (.int .i64) (.pair .str .unit))) a0.2.1 a1.2.1 = p1
  cases p0 <;> cases p1 <;> rfl
theorem en_laws_eqDisk (a0 : (List ByteArray) × (List (Int × ByteArray × Unit)) × Unit) (a1 : (List ByteArray) × (List (Int × ByteArray × Unit)) × Unit) : evalF Try.prog ta_laws_eqDisk pa_laws_eqDisk sg_laws_eqDisk Try.f32 noL (a0, a1, ()) = de_laws_eqDisk a0 a1 := by kernel_rfl
theorem si_laws_eqDisk : SigsOk Try.prog ta_laws_eqDisk := SigsOk.of fun f sd h => by
  try dsimp only [Tb.of, ta_laws_eqDisk] at h
  split at h
  · rename_i e; subst e; cases h; exact sn_laws_eqStringS
  split at h
  · rename_i e; subst e; cases h; exact sn_laws_eqWriteS
  cases h
theorem sn_laws_eqDisk : Callable Try.prog 32 ∧ Sound Try.prog 32 sd_laws_eqDisk.sg sd_laws_eqDisk.den :=
  fn_plain (pat := pa_laws_eqDisk) (by kernel_rfl) si_laws_eqDisk Try.func32 (by kernel_rfl) (by kernel_rfl) (by kernel_rfl) fun x r h => by
    obtain ⟨a0, a1, ⟨⟩⟩ := x; obtain ⟨y, h1, h2⟩ := Option.bind_eq_some_iff.1 (show (m_laws_eqDisk a0 a1).bind (fun r => some ((r, ()), (()))) = some r from h); cases h2; exact (en_laws_eqDisk a0 a1).trans (eq_laws_eqDisk a0 a1 _ h1)
def m_laws_eqOp (a b : Bool × Int × ByteArray × Unit) : Option Bool := eqM (.pair .bool (.pair (.int .i64) (.pair .str .unit))) a b
def sg_laws_eqOp : Sig := ⟨[.rd (.pair .bool (.pair (.int .i64) (.pair .str .unit))), .rd (.pair .bool (.pair (.int .i64) (.pair .str .unit)))], [some 3, some 3], [.rd .bool], [none]⟩
noncomputable def sd_laws_eqOp : SD := ⟨sg_laws_eqOp, fun x => (m_laws_eqOp x.1 x.2.1).bind fun r => some ((r, ()), (()))⟩
noncomputable def ta_laws_eqOp : Tb := Tb.of fun f => none
def pa_laws_eqOp : Nat → Pat × (Nat → Pat) := fun k => (⟨[], [], []⟩, fun _ => ⟨[], [], []⟩)
noncomputable def de_laws_eqOp (a0 : Bool × Int × ByteArray × Unit) (a1 : Bool × Int × ByteArray × Unit) : Option ((((Bool) × Unit) × (Unit))) :=
  bif !a0.fst == a1.fst then some ((false, ()), ())
  else bif a0.snd.fst != a1.snd.fst then some ((false, ()), ()) else bif !ByteArray.toList a0.snd.snd.fst == ByteArray.toList a1.snd.snd.fst then some ((false, ()), ()) else some ((true, ()), ())
theorem eq_laws_eqOp (a0 : Bool × Int × ByteArray × Unit) (a1 : Bool × Int × ByteArray × Unit) r (h : m_laws_eqOp a0 a1 = some r) : de_laws_eqOp a0 a1 = some ((r, ()), (())) := by
  obtain ⟨hc, hd, rfl⟩ := eqM_some (t := (.pair .bool (.pair (.int .i64) (.pair .str .unit)))) h
  obtain ⟨hc0, hc1, hc2, _⟩ : fineB .bool a0.1 = true ∧ fineB (.int .i64) a0.2.1 = true ∧ fineB .str a0.2.2.1 = true ∧ True := by
    have s := hc
    obtain ⟨h0, s⟩ := fineB_pair s
    obtain ⟨h1, s⟩ := fineB_pair s
    obtain ⟨h2, s⟩ := fineB_pair s
    exact ⟨h0, h1, h2, trivial⟩
  obtain ⟨hd0, hd1, hd2, _⟩ : fineB .bool a1.1 = true ∧ fineB (.int .i64) a1.2.1 = true ∧ fineB .str a1.2.2.1 = true ∧ True := by
    have s := hd
    obtain ⟨h0, s⟩ := fineB_pair s
    obtain ⟨h1, s⟩ := fineB_pair s
    obtain ⟨h2, s⟩ := fineB_pair s
    exact ⟨h0, h1, h2, trivial⟩
  unfold de_laws_eqOp
  have e0 : (!(a0.1 == a1.1)) = !eqO a0.1 a1.1 := rfl
  have e1 : (a0.2.1 != a1.2.1) = !eqI a0.2.1 a1.2.1 := bneI _ _
  have e2 : (!(ByteArray.toList a0.2.2.1 == ByteArray.toList a1.2.2.1)) = !eqS a0.2.2.1 a1.2.2.1 := rfl
  simp only [e0, e1, e2, Option.bind_some]
  show _ = some (((eqO a0.1 a1.1 && (eqI a0.2.1 a1.2.1 && (eqS a0.2.2.1 a1.2.2.1 && true))), ()), ())
  generalize eqO a0.1 a1.1 = p0
  generalize eqI a0.2.1 a1.2.1 = p1
  generalize eqS a0.2.2.1 a1.2.2.1 = p2
  cases p0 <;> cases p1 <;> cases p2 <;> rfl
theorem en_laws_eqOp (a0 : Bool × Int × ByteArray × Unit) (a1 : Bool × Int × ByteArray × Unit) : evalF Try.prog ta_laws_eqOp pa_laws_eqOp sg_laws_eqOp Try.f113 noL (a0, a1, ()) = de_laws_eqOp a0 a1 := by kernel_rfl
theorem si_laws_eqOp : SigsOk Try.prog ta_laws_eqOp := SigsOk.of fun f sd h => by
  try dsimp only [Tb.of, ta_laws_eqOp] at h
  cases h
theorem sn_laws_eqOp : Callable Try.prog 113 ∧ Sound Try.prog 113 sd_laws_eqOp.sg sd_laws_eqOp.den :=
  fn_plain (pat := pa_laws_eqOp) (by kernel_rfl) si_laws_eqOp Try.func113 (by kernel_rfl) (by kernel_rfl) (by kernel_rfl) fun x r h => by
    obtain ⟨a0, a1, ⟨⟩⟩ := x; obtain ⟨y, h1, h2⟩ := Option.bind_eq_some_iff.1 (show (m_laws_eqOp a0 a1).bind (fun r => some ((r, ()), (()))) = some r from h); cases h2; exact (en_laws_eqOp a0 a1).trans (eq_laws_eqOp a0 a1 _ h1)
def m_laws_eqOpS (a b : List (Bool × Int × ByteArray × Unit)) : Option Bool := eqM (.sl (.pair .bool (.pair (.int .i64) (.pair .str .unit)))) a b
def sg_laws_eqOpS : Sig := ⟨[.rd (.sl (.pair .bool (.pair (.int .i64) (.pair .str .unit)))), .rd (.sl (.pair .bool (.pair (.int .i64) (.pair .str .unit))))], [none, none], [.rd .bool], [none]⟩
noncomputable def sd_laws_eqOpS : SD := ⟨sg_laws_eqOpS, fun x => (m_laws_eqOpS x.1 x.2.1).bind fun r => some ((r, ()), (()))⟩
noncomputable def ta_laws_eqOpS : Tb := Tb.of fun f => if f = 113 then some sd_laws_eqOp else none
def pa_laws_eqOpS : Nat → Pat × (Nat → Pat) := fun k => if k = 5 then (⟨[.sl 0 0 (.pair .bool (.pair (.int .i64) (.pair .str .unit))), .sl 1 0 (.pair .bool (.pair (.int .i64) (.pair .str .unit)))], [(0, .lf (.d (.sl (.pair .bool (.pair (.int .i64) (.pair .str .unit)))))), (1, .lf (.d (.sl (.pair .bool (.pair (.int .i64) (.pair .str .unit)))))), (5, .lf (.d (.int .i64)))], []⟩, fun e => if e = 1 then ⟨[], [(4, .lf (.d .bool))], []⟩ else if e = 2 then ⟨[], [], []⟩ else ⟨[], [], []⟩) else (⟨[], [], []⟩, fun _ => ⟨[], [], []⟩)
noncomputable def co_laws_eqOpS_5 : Code := (loopsIn (bodyOf Try.f33)).getD 0 .skip
def fu_laws_eqOpS_5 (v0 : List (Bool × Int × ByteArray × Unit)) (v1 : List (Bool × Int × ByteArray × Unit)) (v5 : Int) : Nat := ((v0.length : Int) - v5).toNat + 1
noncomputable def tr_laws_eqOpS_5 {R : Type}  (NX : ((List (Bool × Int × ByteArray × Unit)) × (List (Bool × Int × ByteArray × Unit)) × (Int) × Unit) → Option R) (X2 : (Unit) → Option R) (X1 : ((Bool) × Unit) → Option R) (v0 : List (Bool × Int × ByteArray × Unit)) (v1 : List (Bool × Int × ByteArray × Unit)) (v5 : Int) : Option R :=
  bif decide (v5 < nI (List.length v0)) then
    bif decide (0 ≤ v5) then
      bif decide (v5 < nI (List.length v0)) then
        bif decide (0 ≤ v5) then
          bif decide (v5 < nI (List.length v1)) then
            Option.bind
              (Option.bind
                (m_laws_eqOp
                  ((List.getD v0 (Int.toNat v5) (false, 0, ByteArray.mk #[], ())).fst, (List.getD v0 (Int.toNat v5) (false, 0, ByteArray.mk #[], ())).snd.fst,
                    (List.getD v0 (Int.toNat v5) (false, 0, ByteArray.mk #[], ())).snd.snd.fst, ())
                  ((List.getD v1 (Int.toNat v5) (false, 0, ByteArray.mk #[], ())).fst, (List.getD v1 (Int.toNat v5) (false, 0, ByteArray.mk #[], ())).snd.fst,
                    (List.getD v1 (Int.toNat v5) (false, 0, ByteArray.mk #[], ())).snd.snd.fst, ()))
                fun val => some ((val, ()), ()))
              fun val => bif !val.fst.fst then X1 (false, ()) else NX (v0, v1, IntKind.wrap IntKind.i64 (v5 + 1), ())
          else none
        else none
      else none
    else none
  else X2 PUnit.unit
noncomputable def lo_laws_eqOpS_5 : Nat → (List (Bool × Int × ByteArray × Unit)) → (List (Bool × Int × ByteArray × Unit)) → (Int) →  Option ((Unit) ⊕ ((Bool) × Unit))
  | 0, _, _, _ => none
  | m + 1, v0, v1, v5 => tr_laws_eqOpS_5  (fun d => lo_laws_eqOpS_5 m d.1 d.2.1 d.2.2.1) (fun d => some (.inl (d))) (fun d => some (.inr (d))) v0 v1 v5
theorem na_laws_eqOpS_5 {R S : Type}  (NX : ((List (Bool × Int × ByteArray × Unit)) × (List (Bool × Int × ByteArray × Unit)) × (Int) × Unit) → Option R) (X2 : (Unit) → Option R) (X1 : ((Bool) × Unit) → Option R) (v0 : List (Bool × Int × ByteArray × Unit)) (v1 : List (Bool × Int × ByteArray × Unit)) (v5 : Int) (f : R → Option S) : tr_laws_eqOpS_5  (fun d => (NX d).bind f) (fun d => (X2 d).bind f) (fun d => (X1 d).bind f) v0 v1 v5 = (tr_laws_eqOpS_5  NX X2 X1 v0 v1 v5).bind f := by
  unfold tr_laws_eqOpS_5
  simp only [cond_bind, ite_bind, onSum_bind, Option.bind_assoc, Option.bind_none, Option.bind_some]
noncomputable def de_laws_eqOpS (a0 : List (Bool × Int × ByteArray × Unit)) (a1 : List (Bool × Int × ByteArray × Unit)) : Option ((((Bool) × Unit) × (Unit))) :=
  bif nI (List.length a0) != nI (List.length a1) then some ((false, ()), ())
  else Option.bind ((fun d => lo_laws_eqOpS_5 (fu_laws_eqOpS_5 d.1 d.2.1 d.2.2.1) d.1 d.2.1 d.2.2.1) (a0, a1, 0, ())) fun val => onSum (fun val => some ((true, ()), ())) (fun val => some ((val.fst, ()), ())) val
theorem eq_laws_eqOpS (a0 : List (Bool × Int × ByteArray × Unit)) (a1 : List (Bool × Int × ByteArray × Unit)) r (h : m_laws_eqOpS a0 a1 = some r) : de_laws_eqOpS a0 a1 = some ((r, ()), (())) := by
  obtain ⟨hc, hd, rfl⟩ := eqM_some (t := .sl (.pair .bool (.pair (.int .i64) (.pair .str .unit)))) h
  obtain ⟨hlx0, hx⟩ := fineB_sl hc
  obtain ⟨hly0, hy⟩ := fineB_sl hd
  have hlx : a0.length < 1152921504606846976 := hlx0
  have hly : a1.length < 1152921504606846976 := hly0
  clear hlx0 hly0 hc hd h
  · unfold de_laws_eqOpS
    by_cases hl : a1.length = a0.length
    · have c1 : (nI a0.length != nI a1.length) = false := by simp [nI, hl]
      have hL := eq_loop (xs := a0) (ys := a1) (false, 0, (ByteArray.mk #[]), ()) (fun x y : Bool × Int × ByteArray × Unit => eqB (.pair .bool (.pair (.int .i64) (.pair .str .unit))) x y) (g := fun m i => lo_laws_eqOpS_5 m a0 a1 i) (ok := .inl ()) (bad := .inr (false, ())) hl (fun m i hi => by
        show lo_laws_eqOpS_5 (m + 1) a0 a1 i = _
        simp only [lo_laws_eqOpS_5, tr_laws_eqOpS_5]
        rw [cLt hi, cLe0, cLt (show i < a1.length by omega), wI (by omega)]
        simp only [cond_true, Int.toNat_natCast]
        have f1 : fineB (.pair .bool (.pair (.int .i64) (.pair .str .unit))) (List.getD (α := Bool × Int × ByteArray × Unit) a0 i (false, 0, (ByteArray.mk #[]), ())) = true := hx _ (getD_mem (false, 0, (ByteArray.mk #[]), ()) hi)
        have f2 : fineB (.pair .bool (.pair (.int .i64) (.pair .str .unit))) (List.getD (α := Bool × Int × ByteArray × Unit) a1 i (false, 0, (ByteArray.mk #[]), ())) = true := hy _ (getD_mem (false, 0, (ByteArray.mk #[]), ()) (by omega))
        have hE : m_laws_eqOp ((List.getD (α := Bool × Int × ByteArray × Unit) a0 i (false, 0, (ByteArray.mk #[]), ())).fst, (List.getD (α := Bool × Int × ByteArray × Unit) a0 i (false, 0, (ByteArray.mk #[]), ())).snd.fst, (List.getD (α := Bool × Int × ByteArray × Unit) a0 i (false, 0, (ByteArray.mk #[]), ())).snd.snd.fst, ()) ((List.getD (α := Bool × Int × ByteArray × Unit) a1 i (false, 0, (ByteArray.mk #[]), ())).fst, (List.getD (α := Bool × Int × ByteArray × Unit) a1 i (false, 0, (ByteArray.mk #[]), ())).snd.fst, (List.getD (α := Bool × Int × ByteArray × Unit) a1 i (false, 0, (ByteArray.mk #[]), ())).snd.snd.fst, ()) = some (eqB (.pair .bool (.pair (.int .i64) (.pair .str .unit))) (List.getD (α := Bool × Int × ByteArray × Unit) a0 i (false, 0, (ByteArray.mk #[]), ())) (List.getD (α := Bool × Int × ByteArray × Unit) a1 i (false, 0, (ByteArray.mk #[]), ()))) := by
          exact eqM_is (t := (.pair .bool (.pair (.int .i64) (.pair .str .unit)))) (x := (List.getD (α := Bool × Int × ByteArray × Unit) a0 i (false, 0, (ByteArray.mk #[]), ()))) (y := (List.getD (α := Bool × Int × ByteArray × Unit) a1 i (false, 0, (ByteArray.mk #[]), ()))) f1 f2
        rw [hE]
        cases q : eqB (.pair .bool (.pair (.int .i64) (.pair .str .unit))) (List.getD (α := Bool × Int × ByteArray × Unit) a0 i (false, 0, (ByteArray.mk #[]), ())) (List.getD (α := Bool × Int × ByteArray × Unit) a1 i (false, 0, (ByteArray.mk #[]), ())) <;> simp only [Option.bind_some, q] <;> rfl) (fun m => by
        show lo_laws_eqOpS_5 (m + 1) a0 a1 a0.length = _
        simp only [lo_laws_eqOpS_5, tr_laws_eqOpS_5]
        rw [cLtF]
        rfl) (fu_laws_eqOpS_5 a0 a1 0) 0 (by omega) (by simp [fu_laws_eqOpS_5])
      rw [c1]
      have hL' : lo_laws_eqOpS_5 (fu_laws_eqOpS_5 a0 a1 0) a0 a1 0 = _ := hL
      show (lo_laws_eqOpS_5 (fu_laws_eqOpS_5 a0 a1 0) a0 a1 0).bind _ = some ((eqL (α := Bool × Int × ByteArray × Unit) (fun x y : Bool × Int × ByteArray × Unit => eqB (.pair .bool (.pair (.int .i64) (.pair .str .unit))) x y) a0 a1, ()), ())
      rw [hL', List.drop_zero, List.drop_zero]
      cases eqL (α := Bool × Int × ByteArray × Unit) (fun x y : Bool × Int × ByteArray × Unit => eqB (.pair .bool (.pair (.int .i64) (.pair .str .unit))) x y) a0 a1 <;> rfl
    · have c1 : (nI a0.length != nI a1.length) = true := by simp [nI]; omega
      rw [c1]
      show _ = some ((eqL (α := Bool × Int × ByteArray × Unit) (fun x y : Bool × Int × ByteArray × Unit => eqB (.pair .bool (.pair (.int .i64) (.pair .str .unit))) x y) a0 a1, ()), ())
      rw [eqL_len (fun q => hl q.symm)]
      rfl
noncomputable def ou_laws_eqOpS_5 {R : Type} (k : Kt R) : ((Unit) ⊕ ((Bool) × Unit)) → Option R := (onSum (fun d => k (.exit 0) (((pa_laws_eqOpS 5).2 2).st d) (((pa_laws_eqOpS 5).2 2).nid)) (fun d => k .ret (((pa_laws_eqOpS 5).2 1).st d) (((pa_laws_eqOpS 5).2 1).nid)))
noncomputable def L_laws_eqOpS {R : Type} : Lt R pa_laws_eqOpS := (addL (pat := pa_laws_eqOpS) 5 (fun d k => (lo_laws_eqOpS_5 (fu_laws_eqOpS_5 d.1 d.2.1 d.2.2.1) d.1 d.2.1 d.2.2.1).bind (ou_laws_eqOpS_5 k)) noL)
theorem rd_laws_eqOpS_5 {R : Type} (nx : (pa_laws_eqOpS 5).1.D → Kt R → Option R) (k : Kt R) (v0 : List (Bool × Int × ByteArray × Unit)) (v1 : List (Bool × Int × ByteArray × Unit)) (v5 : Int) : ev Try.prog ⟨ta_laws_eqOpS, 0, 27, pa_laws_eqOpS⟩ L_laws_eqOpS co_laws_eqOpS_5 ((pa_laws_eqOpS 5).1.st (v0, v1, v5, ())) (pa_laws_eqOpS 5).1.nid (roundK 0 (pa_laws_eqOpS 5) nx k) = tr_laws_eqOpS_5  (fun d => nx d k) (fun d => k (.exit 0) (((pa_laws_eqOpS 5).2 2).st d) (((pa_laws_eqOpS 5).2 2).nid)) (fun d => k .ret (((pa_laws_eqOpS 5).2 1).st d) (((pa_laws_eqOpS 5).2 1).nid)) v0 v1 v5 := by kernel_rfl
theorem lp_laws_eqOpS_5 {R : Type} : ∀ (m : Nat) (d : (pa_laws_eqOpS 5).1.D) (k : Kt R), loopN 0 (pa_laws_eqOpS 5) (fun s nid k => ev Try.prog ⟨ta_laws_eqOpS, 0, 27, pa_laws_eqOpS⟩ L_laws_eqOpS co_laws_eqOpS_5 s nid k) m d k = (lo_laws_eqOpS_5 m d.1 d.2.1 d.2.2.1).bind (ou_laws_eqOpS_5 k)
  | 0, _, _ => rfl
  | m + 1, ⟨v0, v1, v5, ⟨⟩⟩, k => (rd_laws_eqOpS_5 _ k v0 v1 v5).trans ((congrArg (fun F => tr_laws_eqOpS_5  F (fun d => k (.exit 0) (((pa_laws_eqOpS 5).2 2).st d) (((pa_laws_eqOpS 5).2 2).nid)) (fun d => k .ret (((pa_laws_eqOpS 5).2 1).st d) (((pa_laws_eqOpS 5).2 1).nid)) v0 v1 v5) (funext fun d => lp_laws_eqOpS_5 m d k)).trans (na_laws_eqOpS_5 (f := ou_laws_eqOpS_5 k)  (fun d => lo_laws_eqOpS_5 m d.1 d.2.1 d.2.2.1) (fun d => some (.inl (d))) (fun d => some (.inr (d))) v0 v1 v5))
theorem en_laws_eqOpS (a0 : List (Bool × Int × ByteArray × Unit)) (a1 : List (Bool × Int × ByteArray × Unit)) : evalF Try.prog ta_laws_eqOpS pa_laws_eqOpS sg_laws_eqOpS Try.f33 L_laws_eqOpS (a0, a1, ()) = de_laws_eqOpS a0 a1 := by kernel_rfl
theorem si_laws_eqOpS : SigsOk Try.prog ta_laws_eqOpS := SigsOk.of fun f sd h => by
  try dsimp only [Tb.of, ta_laws_eqOpS] at h
  split at h
  · rename_i e; subst e; cases h; exact sn_laws_eqOp
  cases h
theorem lk_laws_eqOpS_5 {R : Type} : LoopOk Try.prog R 27 0 pa_laws_eqOpS L_laws_eqOpS co_laws_eqOpS_5 :=
  loop_key (cfg := ⟨ta_laws_eqOpS, 0, 27, pa_laws_eqOpS⟩) (key := 5) (by kernel_rfl) (by kernel_rfl) si_laws_eqOpS rfl rfl (fun d k r h => ⟨fu_laws_eqOpS_5 d.1 d.2.1 d.2.2.1, (lp_laws_eqOpS_5 _ d k).trans h⟩) (fun c hc => by rw [show loopsIn co_laws_eqOpS_5 = [] from by kernel_rfl] at hc; cases hc)
theorem sn_laws_eqOpS : Callable Try.prog 33 ∧ Sound Try.prog 33 sd_laws_eqOpS.sg sd_laws_eqOpS.den :=
  fn_loops (pat := pa_laws_eqOpS) L_laws_eqOpS (by kernel_rfl) si_laws_eqOpS Try.func33 (by kernel_rfl) (by kernel_rfl) (fun c hc => by rw [show loopsIn (bodyOf Try.f33) = [co_laws_eqOpS_5] from by kernel_rfl] at hc; simp only [List.mem_cons, List.not_mem_nil, or_false] at hc; rcases hc with rfl <;> first | exact lk_laws_eqOpS_5) fun x r h => by
    obtain ⟨a0, a1, ⟨⟩⟩ := x; obtain ⟨y, h1, h2⟩ := Option.bind_eq_some_iff.1 (show (m_laws_eqOpS a0 a1).bind (fun r => some ((r, ()), (()))) = some r from h); cases h2; exact (en_laws_eqOpS a0 a1).trans (eq_laws_eqOpS a0 a1 _ h1)
def m_laws_markText (k : Int) : Option ByteArray := if k ≤ 36028797018963968 then some (mkT k) else none
def fu_laws_markText_5 (v0 : Int) (v3 : ByteArray) : Nat := 21
def sg_laws_markText : Sig := ⟨[.rd (.int .i64)], [none], [.rd .str], [none]⟩
noncomputable def sd_laws_markText : SD := ⟨sg_laws_markText, fun x => (m_laws_markText x.1).bind fun r => some ((r, ()), (()))⟩
noncomputable def ta_laws_markText : Tb := Tb.of fun f => none
def pa_laws_markText : Nat → Pat × (Nat → Pat) := fun k => if k = 5 then (⟨[], [(0, .lf (.d (.int .i64))), (3, .lf (.d .str))], []⟩, fun e => if e = 2 then ⟨[], [(3, .lf (.d .str))], []⟩ else ⟨[], [], []⟩) else (⟨[], [], []⟩, fun _ => ⟨[], [], []⟩)
noncomputable def co_laws_markText_5 : Code := (loopsIn (bodyOf Try.f116)).getD 0 .skip
noncomputable def tr_laws_markText_5 {R : Type}  (NX : ((Int) × (ByteArray) × Unit) → Option R) (X2 : ((ByteArray) × Unit) → Option R) (v0 : Int) (v3 : ByteArray) : Option R :=
  bif decide (v0 > 0) then
    bif decide (ByteArray.size (strOfNums [IntKind.wrap IntKind.u8 (IntKind.wrap IntKind.i64 (48 + Int.tmod v0 10))]) + ByteArray.size v3 ≤ 9223372036854775807) then
      NX (IntKind.wrap IntKind.i64 (Int.tdiv v0 10), strOfNums [IntKind.wrap IntKind.u8 (IntKind.wrap IntKind.i64 (48 + Int.tmod v0 10))] ++ v3, ())
    else none
  else X2 (v3, ())
noncomputable def lo_laws_markText_5 : Nat → (Int) → (ByteArray) →  Option ((ByteArray) × Unit)
  | 0, _, _ => none
  | m + 1, v0, v3 => tr_laws_markText_5  (fun d => lo_laws_markText_5 m d.1 d.2.1) (fun d => some (d)) v0 v3
theorem na_laws_markText_5 {R S : Type}  (NX : ((Int) × (ByteArray) × Unit) → Option R) (X2 : ((ByteArray) × Unit) → Option R) (v0 : Int) (v3 : ByteArray) (f : R → Option S) : tr_laws_markText_5  (fun d => (NX d).bind f) (fun d => (X2 d).bind f) v0 v3 = (tr_laws_markText_5  NX X2 v0 v3).bind f := by
  unfold tr_laws_markText_5
  simp only [cond_bind, ite_bind, onSum_bind, Option.bind_assoc, Option.bind_none, Option.bind_some]
noncomputable def de_laws_markText (a0 : Int) : Option ((((ByteArray) × Unit) × (Unit))) :=
  bif decide (a0 ≤ 0) then some ((ByteArray.mk #[109, 48], ()), ())
  else
    Option.bind ((fun d => lo_laws_markText_5 (fu_laws_markText_5 d.1 d.2.1) d.1 d.2.1) (a0, ByteArray.mk #[], ())) fun val =>
      bif decide (ByteArray.size (ByteArray.mk #[109]) + ByteArray.size val.fst ≤ 9223372036854775807) then some ((ByteArray.mk #[109] ++ val.fst, ()), ()) else none
theorem digit_byte {k : Int} (h : 0 ≤ k) : IntKind.wrap .u8 (IntKind.wrap .i64 (48 + Int.tmod k 10)) = 48 + k % 10 := by
  rw [Int.tmod_eq_emod_of_nonneg h]
  have h1 : 0 ≤ k % 10 := Int.emod_nonneg _ (by omega)
  have h2 : k % 10 < 10 := Int.emod_lt_of_pos _ (by omega)
  have e1 : IntKind.wrap .i64 (48 + k % 10) = 48 + k % 10 := wrap_ok (by omega) (by omega)
  rw [e1]
  simp [IntKind.wrap, IntKind.bits, IntKind.signed]
  omega
theorem lo_laws_markText : ∀ (m : Nat) (k : Int) (out : ByteArray), 0 ≤ k → k ≤ 36028797018963968 → k < 10 ^ m → out.size + m ≤ 100 → lo_laws_markText_5 (m + 1) k out = some (digsGo m k out, ())
  | 0, k, out, h0, hb, h1, _ => by
    simp only [lo_laws_markText_5, tr_laws_markText_5]
    have : ¬ k > 0 := by simp at h1; omega
    rw [decide_eq_false this]
    rfl
  | m + 1, k, out, h0, hb, h1, h2 => by
    rw [lo_laws_markText_5]
    simp only [tr_laws_markText_5, digsGo]
    by_cases h : k > 0
    · have e : IntKind.wrap .i64 (Int.tdiv k 10) = k / 10 := by
        rw [Int.tdiv_eq_ediv_of_nonneg h0]
        exact wrap_ok (by omega) (by omega)
      have hs : ByteArray.size (strOfNums [48 + k % 10]) = 1 := strOfNums_size _
      have h3 : k / 10 < 10 ^ m := Int.ediv_lt_of_lt_mul (by omega) (by rw [Int.pow_succ] at h1; exact h1)
      have c : ByteArray.size (strOfNums [48 + k % 10]) + ByteArray.size out ≤ 9223372036854775807 := by rw [hs]; omega
      have ih := lo_laws_markText m (k / 10) (strOfNums [48 + k % 10] ++ out) (by omega) (by omega) h3 (by rw [ByteArray.size_append, hs]; omega)
      rw [digit_byte h0, decide_eq_true h, if_pos h, e, decide_eq_true c]
      exact ih
    · rw [decide_eq_false h, if_neg h]
      rfl
theorem digsGo_size : ∀ (m : Nat) (k : Int) (out : ByteArray), (digsGo m k out).size ≤ out.size + m
  | 0, k, out => Nat.le_refl _
  | m + 1, k, out => by
    simp only [digsGo]
    split
    · have := digsGo_size m (k / 10) (strOfNums [48 + k % 10] ++ out)
      rw [ByteArray.size_append, strOfNums_size] at this
      simp at this
      omega
    · omega
theorem eq_laws_markText (a0 : Int) r (h : m_laws_markText a0 = some r) : de_laws_markText a0 = some ((r, ()), (())) := by
  unfold m_laws_markText at h
  split at h
  · rename_i hc
    cases h
    unfold de_laws_markText mkT
    by_cases q : a0 ≤ 0
    · rw [decide_eq_true q, if_pos q]; rfl
    · rw [decide_eq_false q, if_neg q]
      have hL := lo_laws_markText 20 a0 ⟨#[]⟩ (by omega) hc (by omega) (by decide)
      have hL' : lo_laws_markText_5 (fu_laws_markText_5 a0 ⟨#[]⟩) a0 ⟨#[]⟩ = _ := hL
      show (lo_laws_markText_5 (fu_laws_markText_5 a0 ⟨#[]⟩) a0 ⟨#[]⟩).bind _ = _
      rw [hL']
      have := digsGo_size 20 a0 ⟨#[]⟩
      have h0 : ByteArray.size ⟨#[]⟩ = 0 := rfl
      have h1 : ByteArray.size ⟨#[109]⟩ = 1 := rfl
      have c : ByteArray.size ⟨#[109]⟩ + ByteArray.size (digsGo 20 a0 ⟨#[]⟩) ≤ 9223372036854775807 := by omega
      show (bif decide (ByteArray.size ⟨#[109]⟩ + ByteArray.size (digsGo 20 a0 ⟨#[]⟩) ≤ 9223372036854775807) then _ else _) = _
      rw [decide_eq_true c]
      rfl
  · cases h
noncomputable def ou_laws_markText_5 {R : Type} (k : Kt R) : ((ByteArray) × Unit) → Option R := (fun d => k (.exit 0) (((pa_laws_markText 5).2 2).st d) (((pa_laws_markText 5).2 2).nid))
noncomputable def L_laws_markText {R : Type} : Lt R pa_laws_markText := (addL (pat := pa_laws_markText) 5 (fun d k => (lo_laws_markText_5 (fu_laws_markText_5 d.1 d.2.1) d.1 d.2.1).bind (ou_laws_markText_5 k)) noL)
theorem rd_laws_markText_5 {R : Type} (nx : (pa_laws_markText 5).1.D → Kt R → Option R) (k : Kt R) (v0 : Int) (v3 : ByteArray) : ev Try.prog ⟨ta_laws_markText, 0, 20, pa_laws_markText⟩ L_laws_markText co_laws_markText_5 ((pa_laws_markText 5).1.st (v0, v3, ())) (pa_laws_markText 5).1.nid (roundK 0 (pa_laws_markText 5) nx k) = tr_laws_markText_5  (fun d => nx d k) (fun d => k (.exit 0) (((pa_laws_markText 5).2 2).st d) (((pa_laws_markText 5).2 2).nid)) v0 v3 := by kernel_rfl
theorem lp_laws_markText_5 {R : Type} : ∀ (m : Nat) (d : (pa_laws_markText 5).1.D) (k : Kt R), loopN 0 (pa_laws_markText 5) (fun s nid k => ev Try.prog ⟨ta_laws_markText, 0, 20, pa_laws_markText⟩ L_laws_markText co_laws_markText_5 s nid k) m d k = (lo_laws_markText_5 m d.1 d.2.1).bind (ou_laws_markText_5 k)
  | 0, _, _ => rfl
  | m + 1, ⟨v0, v3, ⟨⟩⟩, k => (rd_laws_markText_5 _ k v0 v3).trans ((congrArg (fun F => tr_laws_markText_5  F (fun d => k (.exit 0) (((pa_laws_markText 5).2 2).st d) (((pa_laws_markText 5).2 2).nid)) v0 v3) (funext fun d => lp_laws_markText_5 m d k)).trans (na_laws_markText_5 (f := ou_laws_markText_5 k)  (fun d => lo_laws_markText_5 m d.1 d.2.1) (fun d => some (d)) v0 v3))
theorem en_laws_markText (a0 : Int) : evalF Try.prog ta_laws_markText pa_laws_markText sg_laws_markText Try.f116 L_laws_markText (a0, ()) = de_laws_markText a0 := by kernel_rfl
theorem si_laws_markText : SigsOk Try.prog ta_laws_markText := SigsOk.of fun f sd h => by
  try dsimp only [Tb.of, ta_laws_markText] at h
  cases h
theorem lk_laws_markText_5 {R : Type} : LoopOk Try.prog R 20 0 pa_laws_markText L_laws_markText co_laws_markText_5 :=
  loop_key (cfg := ⟨ta_laws_markText, 0, 20, pa_laws_markText⟩) (key := 5) (by kernel_rfl) (by kernel_rfl) si_laws_markText rfl rfl (fun d k r h => ⟨fu_laws_markText_5 d.1 d.2.1, (lp_laws_markText_5 _ d k).trans h⟩) (fun c hc => by rw [show loopsIn co_laws_markText_5 = [] from by kernel_rfl] at hc; cases hc)
theorem sn_laws_markText : Callable Try.prog 116 ∧ Sound Try.prog 116 sd_laws_markText.sg sd_laws_markText.den :=
  fn_loops (pat := pa_laws_markText) L_laws_markText (by kernel_rfl) si_laws_markText Try.func116 (by kernel_rfl) (by kernel_rfl) (fun c hc => by rw [show loopsIn (bodyOf Try.f116) = [co_laws_markText_5] from by kernel_rfl] at hc; simp only [List.mem_cons, List.not_mem_nil, or_false] at hc; rcases hc with rfl <;> first | exact lk_laws_markText_5) fun x r h => by
    obtain ⟨a0, ⟨⟩⟩ := x; obtain ⟨y, h1, h2⟩ := Option.bind_eq_some_iff.1 (show (m_laws_markText a0).bind (fun r => some ((r, ()), (()))) = some r from h); cases h2; exact (en_laws_markText a0).trans (eq_laws_markText a0 _ h1)
def m_laws_markStringS (a : List ByteArray) (k : Int) : Option (Int × (List ByteArray)) := markM .str a k
def sg_laws_markStringS : Sig := ⟨[.mu 9 .str, .rd (.int .i64)], [none, none], [.rd (.int .i64)], [none]⟩
noncomputable def sd_laws_markStringS : SD := ⟨sg_laws_markStringS, fun x => (m_laws_markStringS x.1 x.2.1).bind fun r => some ((r.1, ()), (r.2, ()))⟩
noncomputable def ta_laws_markStringS : Tb := Tb.of fun f => if f = 116 then some sd_laws_markText else none
def pa_laws_markStringS : Nat → Pat × (Nat → Pat) := fun k => if k = 3 then (⟨[], [(0, .lf (.row 0)), (1, .lf (.d (.int .i64))), (5, .lf (.d (.int .i64)))], [.row 9 .str]⟩, fun e => if e = 2 then ⟨[], [(1, .lf (.d (.int .i64)))], [.row 9 .str]⟩ else ⟨[], [], []⟩) else (⟨[], [], []⟩, fun _ => ⟨[], [], []⟩)
noncomputable def co_laws_markStringS_3 : Code := (loopsIn (bodyOf Try.f114)).getD 0 .skip
def fu_laws_markStringS_3 (v1 : Int) (v5 : Int) (r0 : List ByteArray) : Nat := ((r0.length : Int) - v5).toNat + 1
noncomputable def tr_laws_markStringS_3 {R : Type}  (NX : ((Int) × (Int) × (List ByteArray) × Unit) → Option R) (X2 : ((Int) × (List ByteArray) × Unit) → Option R) (v1 : Int) (v5 : Int) (r0 : List ByteArray) : Option R :=
  bif decide (v5 < nI (List.length r0)) then
    Option.bind (Option.bind (m_laws_markText v1) fun val => some ((val, ()), ())) fun val =>
      bif decide (0 ≤ v5) then
        bif decide (v5 < nI (List.length r0)) then
          bif decide (Int.toNat v5 < List.length r0) then NX (IntKind.wrap IntKind.i64 (v1 + 1), IntKind.wrap IntKind.i64 (v5 + 1), List.set r0 (Int.toNat v5) val.fst.fst, ()) else none
        else none
      else none
  else X2 (v1, r0, ())
noncomputable def lo_laws_markStringS_3 : Nat → (Int) → (Int) → (List ByteArray) →  Option ((Int) × (List ByteArray) × Unit)
  | 0, _, _, _ => none
  | m + 1, v1, v5, r0 => tr_laws_markStringS_3  (fun d => lo_laws_markStringS_3 m d.1 d.2.1 d.2.2.1) (fun d => some (d)) v1 v5 r0
theorem na_laws_markStringS_3 {R S : Type}  (NX : ((Int) × (Int) × (List ByteArray) × Unit) → Option R) (X2 : ((Int) × (List ByteArray) × Unit) → Option R) (v1 : Int) (v5 : Int) (r0 : List ByteArray) (f : R → Option S) : tr_laws_markStringS_3  (fun d => (NX d).bind f) (fun d => (X2 d).bind f) v1 v5 r0 = (tr_laws_markStringS_3  NX X2 v1 v5 r0).bind f := by
  unfold tr_laws_markStringS_3
  simp only [cond_bind, ite_bind, onSum_bind, Option.bind_assoc, Option.bind_none, Option.bind_some]
noncomputable def de_laws_markStringS (a0 : List ByteArray) (a1 : Int) : Option ((((Int) × Unit) × ((List ByteArray) × Unit))) :=
  Option.bind ((fun d => lo_laws_markStringS_3 (fu_laws_markStringS_3 d.1 d.2.1 d.2.2.1) d.1 d.2.1 d.2.2.1) (a1, 0, a0, ())) fun val => some ((val.fst, ()), val.snd.fst, ())
theorem eq_laws_markStringS (a0 : List ByteArray) (a1 : Int) r (h : m_laws_markStringS a0 a1 = some r) : de_laws_markStringS a0 a1 = some ((r.1, ()), (r.2, ())) := by
  obtain ⟨g0, g1, hl0, rfl⟩ := markM_some (t := .str) h
  have hl : a0.length ≤ 1125899906842624 := hl0
  have hEE : (fun k : Int => (show ByteArray from (mkE .str k).1)) = (fun k : Int => mkT (k)) := funext fun k => by
    show mkT (k) = mkT (k)
    try simp only [Int.add_assoc, Int.add_zero]
    try rfl
  show _ = some ((a1 + (a0.length : Int) * 1, ()), (gL (fun k : Int => (show ByteArray from (mkE .str k).1)) 1 a0.length a1, ()))
  rw [hEE]
  unfold de_laws_markStringS
  have hL := mark_loop (fun k : Int => mkT (k)) 1 (n := a0.length) (K := 36028797018963000) (g := fun m k i r => lo_laws_markStringS_3 m k i r) (ok := fun k r => (k, r, ())) (fun m i k r hi hr h1 hK => by
    show lo_laws_markStringS_3 (m + 1) k i r = _
    have hK1 : k + 1 ≤ 36028797018963000 := by
      have : (1 : Int) ≤ (a0.length - i : Nat) := by omega
      omega
    rw [show lo_laws_markStringS_3 (m + 1) k i r = lo_laws_markStringS_3 (m + 1) (k + 0) i r from by rw [Int.add_zero]]
    have k0 : k = k + 0 := (Int.add_zero k).symm
    have t0 : m_laws_markText (k + 0) = some (mkT (k + 0)) := if_pos (by omega)
    have w0 : IntKind.wrap IntKind.i64 (k + 0 + 1) = k + 1 := by rw [wrap_ok (by omega) (by omega)]; omega
    have hir : i < r.length := by omega
    simp only [lo_laws_markStringS_3, tr_laws_markStringS_3]
    simp only [t0,  Option.bind_some, w0,  List.length_set, List.set_set, cLt hir, cLe0, cLtN hir, wI (show i < 4611686018427387904 by omega), cond_true, Int.toNat_natCast, getD_set hir]
    first | rfl | (rw [Int.add_zero]; rfl) | (simp only [Int.add_zero]; rfl)) (fun m k r hr => by
    show lo_laws_markStringS_3 (m + 1) k a0.length r = _
    simp only [lo_laws_markStringS_3, tr_laws_markStringS_3, hr]
    rw [cLtF]
    rfl) (fu_laws_markStringS_3 a1 0 a0) 0 a1 a0 (by omega) (by simp [fu_laws_markStringS_3]) rfl g0 (by omega)
  have hL' : lo_laws_markStringS_3 (fu_laws_markStringS_3 a1 0 a0) a1 0 a0 = _ := hL
  show (lo_laws_markStringS_3 (fu_laws_markStringS_3 a1 0 a0) a1 0 a0).bind _ = _
  rw [hL']
  rfl
noncomputable def ou_laws_markStringS_3 {R : Type} (k : Kt R) : ((Int) × (List ByteArray) × Unit) → Option R := (fun d => k (.exit 0) (((pa_laws_markStringS 3).2 2).st d) (((pa_laws_markStringS 3).2 2).nid))
noncomputable def L_laws_markStringS {R : Type} : Lt R pa_laws_markStringS := (addL (pat := pa_laws_markStringS) 3 (fun d k => (lo_laws_markStringS_3 (fu_laws_markStringS_3 d.1 d.2.1 d.2.2.1) d.1 d.2.1 d.2.2.1).bind (ou_laws_markStringS_3 k)) noL)
theorem rd_laws_markStringS_3 {R : Type} (nx : (pa_laws_markStringS 3).1.D → Kt R → Option R) (k : Kt R) (v1 : Int) (v5 : Int) (r0 : List ByteArray) : ev Try.prog ⟨ta_laws_markStringS, 1, 20, pa_laws_markStringS⟩ L_laws_markStringS co_laws_markStringS_3 ((pa_laws_markStringS 3).1.st (v1, v5, r0, ())) (pa_laws_markStringS 3).1.nid (roundK 1 (pa_laws_markStringS 3) nx k) = tr_laws_markStringS_3  (fun d => nx d k) (fun d => k (.exit 0) (((pa_laws_markStringS 3).2 2).st d) (((pa_laws_markStringS 3).2 2).nid)) v1 v5 r0 := by kernel_rfl
theorem lp_laws_markStringS_3 {R : Type} : ∀ (m : Nat) (d : (pa_laws_markStringS 3).1.D) (k : Kt R), loopN 1 (pa_laws_markStringS 3) (fun s nid k => ev Try.prog ⟨ta_laws_markStringS, 1, 20, pa_laws_markStringS⟩ L_laws_markStringS co_laws_markStringS_3 s nid k) m d k = (lo_laws_markStringS_3 m d.1 d.2.1 d.2.2.1).bind (ou_laws_markStringS_3 k)
  | 0, _, _ => rfl
  | m + 1, ⟨v1, v5, r0, ⟨⟩⟩, k => (rd_laws_markStringS_3 _ k v1 v5 r0).trans ((congrArg (fun F => tr_laws_markStringS_3  F (fun d => k (.exit 0) (((pa_laws_markStringS 3).2 2).st d) (((pa_laws_markStringS 3).2 2).nid)) v1 v5 r0) (funext fun d => lp_laws_markStringS_3 m d k)).trans (na_laws_markStringS_3 (f := ou_laws_markStringS_3 k)  (fun d => lo_laws_markStringS_3 m d.1 d.2.1 d.2.2.1) (fun d => some (d)) v1 v5 r0))
theorem en_laws_markStringS (a0 : List ByteArray) (a1 : Int) : evalF Try.prog ta_laws_markStringS pa_laws_markStringS sg_laws_markStringS Try.f114 L_laws_markStringS (a0, a1, ()) = de_laws_markStringS a0 a1 := by kernel_rfl
theorem si_laws_markStringS : SigsOk Try.prog ta_laws_markStringS := SigsOk.of fun f sd h => by
  try dsimp only [Tb.of, ta_laws_markStringS] at h
  split at h
  · rename_i e; subst e; cases h; exact sn_laws_markText
  cases h
theorem lk_laws_markStringS_3 {R : Type} : LoopOk Try.prog R 20 1 pa_laws_markStringS L_laws_markStringS co_laws_markStringS_3 :=
  loop_key (cfg := ⟨ta_laws_markStringS, 1, 20, pa_laws_markStringS⟩) (key := 3) (by kernel_rfl) (by kernel_rfl) si_laws_markStringS rfl rfl (fun d k r h => ⟨fu_laws_markStringS_3 d.1 d.2.1 d.2.2.1, (lp_laws_markStringS_3 _ d k).trans h⟩) (fun c hc => by rw [show loopsIn co_laws_markStringS_3 = [] from by kernel_rfl] at hc; cases hc)
theorem sn_laws_markStringS : Callable Try.prog 114 ∧ Sound Try.prog 114 sd_laws_markStringS.sg sd_laws_markStringS.den :=
  fn_loops (pat := pa_laws_markStringS) L_laws_markStringS (by kernel_rfl) si_laws_markStringS Try.func114 (by kernel_rfl) (by kernel_rfl) (fun c hc => by rw [show loopsIn (bodyOf Try.f114) = [co_laws_markStringS_3] from by kernel_rfl] at hc; simp only [List.mem_cons, List.not_mem_nil, or_false] at hc; rcases hc with rfl <;> first | exact lk_laws_markStringS_3) fun x r h => by
    obtain ⟨a0, a1, ⟨⟩⟩ := x; obtain ⟨y, h1, h2⟩ := Option.bind_eq_some_iff.1 (show (m_laws_markStringS a0 a1).bind (fun r => some ((r.1, ()), (r.2, ()))) = some r from h); cases h2; exact (en_laws_markStringS a0 a1).trans (eq_laws_markStringS a0 a1 _ h1)
def m_laws_markWriteS (a : List (Int × ByteArray × Unit)) (k : Int) : Option (Int × (List (Int × ByteArray × Unit))) := markM (.pair (.int .i64) (.pair .str .unit)) a k
def sg_laws_markWriteS : Sig := ⟨[.mu 148 (.pair (.int .i64) (.pair .str .unit)), .rd (.int .i64)], [none, none], [.rd (.int .i64)], [none]⟩
noncomputable def sd_laws_markWriteS : SD := ⟨sg_laws_markWriteS, fun x => (m_laws_markWriteS x.1 x.2.1).bind fun r => some ((r.1, ()), (r.2, ()))⟩
noncomputable def ta_laws_markWriteS : Tb := Tb.of fun f => if f = 116 then some sd_laws_markText else none
def pa_laws_markWriteS : Nat → Pat × (Nat → Pat) := fun k => if k = 3 then (⟨[], [(0, .lf (.row 0)), (1, .lf (.d (.int .i64))), (5, .lf (.d (.int .i64)))], [.row 148 (.pair (.int .i64) (.pair .str .unit))]⟩, fun e => if e = 2 then ⟨[], [(1, .lf (.d (.int .i64)))], [.row 148 (.pair (.int .i64) (.pair .str .unit))]⟩ else ⟨[], [], []⟩) else (⟨[], [], []⟩, fun _ => ⟨[], [], []⟩)
noncomputable def co_laws_markWriteS_3 : Code := (loopsIn (bodyOf Try.f115)).getD 0 .skip
def fu_laws_markWriteS_3 (v1 : Int) (v5 : Int) (r0 : List (Int × ByteArray × Unit)) : Nat := ((r0.length : Int) - v5).toNat + 1
noncomputable def tr_laws_markWriteS_3 {R : Type}  (NX : ((Int) × (Int) × (List (Int × ByteArray × Unit)) × Unit) → Option R) (X2 : ((Int) × (List (Int × ByteArray × Unit)) × Unit) → Option R) (v1 : Int) (v5 : Int) (r0 : List (Int × ByteArray × Unit)) : Option R :=
  bif decide (v5 < nI (List.length r0)) then
    bif decide (0 ≤ v5) then
      bif decide (v5 < nI (List.length r0)) then
        bif decide (Int.toNat v5 < List.length r0) then
          Option.bind (Option.bind (m_laws_markText (IntKind.wrap IntKind.i64 (v1 + 1))) fun val => some ((val, ()), ())) fun val =>
            bif decide (0 ≤ v5) then
              bif decide (v5 < nI (List.length (List.set r0 (Int.toNat v5) (v1, (List.getD r0 (Int.toNat v5) (0, ByteArray.mk #[], ())).snd.fst, ())))) then
                bif decide (Int.toNat v5 < List.length (List.set r0 (Int.toNat v5) (v1, (List.getD r0 (Int.toNat v5) (0, ByteArray.mk #[], ())).snd.fst, ()))) then
                  NX
                    (IntKind.wrap IntKind.i64 (IntKind.wrap IntKind.i64 (v1 + 1) + 1), IntKind.wrap IntKind.i64 (v5 + 1),
                      List.set (List.set r0 (Int.toNat v5) (v1, (List.getD r0 (Int.toNat v5) (0, ByteArray.mk #[], ())).snd.fst, ())) (Int.toNat v5)
                        ((List.getD (List.set r0 (Int.toNat v5) (v1, (List.getD r0 (Int.toNat v5) (0, ByteArray.mk #[], ())).snd.fst, ())) (Int.toNat v5) (0, ByteArray.mk #[], ())).fst, val.fst.fst,
                          ()),
                      ())
                else none
              else none
            else none
        else none
      else none
    else none
  else X2 (v1, r0, ())
noncomputable def lo_laws_markWriteS_3 : Nat → (Int) → (Int) → (List (Int × ByteArray × Unit)) →  Option ((Int) × (List (Int × ByteArray × Unit)) × Unit)
  | 0, _, _, _ => none
  | m + 1, v1, v5, r0 => tr_laws_markWriteS_3  (fun d => lo_laws_markWriteS_3 m d.1 d.2.1 d.2.2.1) (fun d => some (d)) v1 v5 r0
theorem na_laws_markWriteS_3 {R S : Type}  (NX : ((Int) × (Int) × (List (Int × ByteArray × Unit)) × Unit) → Option R) (X2 : ((Int) × (List (Int × ByteArray × Unit)) × Unit) → Option R) (v1 : Int) (v5 : Int) (r0 : List (Int × ByteArray × Unit)) (f : R → Option S) : tr_laws_markWriteS_3  (fun d => (NX d).bind f) (fun d => (X2 d).bind f) v1 v5 r0 = (tr_laws_markWriteS_3  NX X2 v1 v5 r0).bind f := by
  unfold tr_laws_markWriteS_3
  simp only [cond_bind, ite_bind, onSum_bind, Option.bind_assoc, Option.bind_none, Option.bind_some]
noncomputable def de_laws_markWriteS (a0 : List (Int × ByteArray × Unit)) (a1 : Int) : Option ((((Int) × Unit) × ((List (Int × ByteArray × Unit)) × Unit))) :=
  Option.bind ((fun d => lo_laws_markWriteS_3 (fu_laws_markWriteS_3 d.1 d.2.1 d.2.2.1) d.1 d.2.1 d.2.2.1) (a1, 0, a0, ())) fun val => some ((val.fst, ()), val.snd.fst, ())
theorem eq_laws_markWriteS (a0 : List (Int × ByteArray × Unit)) (a1 : Int) r (h : m_laws_markWriteS a0 a1 = some r) : de_laws_markWriteS a0 a1 = some ((r.1, ()), (r.2, ())) := by
  obtain ⟨g0, g1, hl0, rfl⟩ := markM_some (t := (.pair (.int .i64) (.pair .str .unit))) h
  have hl : a0.length ≤ 1125899906842624 := hl0
  have hEE : (fun k : Int => (show Int × ByteArray × Unit from (mkE (.pair (.int .i64) (.pair .str .unit)) k).1)) = (fun k : Int => (k, mkT (k + 1), ())) := funext fun k => by
    show (k, mkT (k + 1), ()) = (k, mkT (k + 1), ())
    try simp only [Int.add_assoc, Int.add_zero]
    try rfl
  show _ = some ((a1 + (a0.length : Int) * 2, ()), (gL (fun k : Int => (show Int × ByteArray × Unit from (mkE (.pair (.int .i64) (.pair .str .unit)) k).1)) 2 a0.length a1, ()))
  rw [hEE]
  unfold de_laws_markWriteS
  have hL := mark_loop (fun k : Int => (k, mkT (k + 1), ())) 2 (n := a0.length) (K := 36028797018963000) (g := fun m k i r => lo_laws_markWriteS_3 m k i r) (ok := fun k r => (k, r, ())) (fun m i k r hi hr h1 hK => by
    show lo_laws_markWriteS_3 (m + 1) k i r = _
    have hK1 : k + 2 ≤ 36028797018963000 := by
      have : (1 : Int) ≤ (a0.length - i : Nat) := by omega
      omega
    rw [show lo_laws_markWriteS_3 (m + 1) k i r = lo_laws_markWriteS_3 (m + 1) (k + 0) i r from by rw [Int.add_zero]]
    have k0 : k = k + 0 := (Int.add_zero k).symm
    have t1 : m_laws_markText (k + 1) = some (mkT (k + 1)) := if_pos (by omega)
    have w0 : IntKind.wrap IntKind.i64 (k + 0 + 1) = k + 1 := by rw [wrap_ok (by omega) (by omega)]; omega
    have w1 : IntKind.wrap IntKind.i64 (k + 1 + 1) = k + 2 := by rw [wrap_ok (by omega) (by omega)]; omega
    have hir : i < r.length := by omega
    simp only [lo_laws_markWriteS_3, tr_laws_markWriteS_3]
    simp only [t1,  Option.bind_some, w0, w1,  List.length_set, List.set_set, cLt hir, cLe0, cLtN hir, wI (show i < 4611686018427387904 by omega), cond_true, Int.toNat_natCast, getD_set hir]
    first | rfl | (rw [Int.add_zero]; rfl) | (simp only [Int.add_zero]; rfl)) (fun m k r hr => by
    show lo_laws_markWriteS_3 (m + 1) k a0.length r = _
    simp only [lo_laws_markWriteS_3, tr_laws_markWriteS_3, hr]
    rw [cLtF]
    rfl) (fu_laws_markWriteS_3 a1 0 a0) 0 a1 a0 (by omega) (by simp [fu_laws_markWriteS_3]) rfl g0 (by omega)
  have hL' : lo_laws_markWriteS_3 (fu_laws_markWriteS_3 a1 0 a0) a1 0 a0 = _ := hL
  show (lo_laws_markWriteS_3 (fu_laws_markWriteS_3 a1 0 a0) a1 0 a0).bind _ = _
  rw [hL']
  rfl
noncomputable def ou_laws_markWriteS_3 {R : Type} (k : Kt R) : ((Int) × (List (Int × ByteArray × Unit)) × Unit) → Option R := (fun d => k (.exit 0) (((pa_laws_markWriteS 3).2 2).st d) (((pa_laws_markWriteS 3).2 2).nid))
noncomputable def L_laws_markWriteS {R : Type} : Lt R pa_laws_markWriteS := (addL (pat := pa_laws_markWriteS) 3 (fun d k => (lo_laws_markWriteS_3 (fu_laws_markWriteS_3 d.1 d.2.1 d.2.2.1) d.1 d.2.1 d.2.2.1).bind (ou_laws_markWriteS_3 k)) noL)
theorem rd_laws_markWriteS_3 {R : Type} (nx : (pa_laws_markWriteS 3).1.D → Kt R → Option R) (k : Kt R) (v1 : Int) (v5 : Int) (r0 : List (Int × ByteArray × Unit)) : ev Try.prog ⟨ta_laws_markWriteS, 1, 28, pa_laws_markWriteS⟩ L_laws_markWriteS co_laws_markWriteS_3 ((pa_laws_markWriteS 3).1.st (v1, v5, r0, ())) (pa_laws_markWriteS 3).1.nid (roundK 1 (pa_laws_markWriteS 3) nx k) = tr_laws_markWriteS_3  (fun d => nx d k) (fun d => k (.exit 0) (((pa_laws_markWriteS 3).2 2).st d) (((pa_laws_markWriteS 3).2 2).nid)) v1 v5 r0 := by kernel_rfl
theorem lp_laws_markWriteS_3 {R : Type} : ∀ (m : Nat) (d : (pa_laws_markWriteS 3).1.D) (k : Kt R), loopN 1 (pa_laws_markWriteS 3) (fun s nid k => ev Try.prog ⟨ta_laws_markWriteS, 1, 28, pa_laws_markWriteS⟩ L_laws_markWriteS co_laws_markWriteS_3 s nid k) m d k = (lo_laws_markWriteS_3 m d.1 d.2.1 d.2.2.1).bind (ou_laws_markWriteS_3 k)
  | 0, _, _ => rfl
  | m + 1, ⟨v1, v5, r0, ⟨⟩⟩, k => (rd_laws_markWriteS_3 _ k v1 v5 r0).trans ((congrArg (fun F => tr_laws_markWriteS_3  F (fun d => k (.exit 0) (((pa_laws_markWriteS 3).2 2).st d) (((pa_laws_markWriteS 3).2 2).nid)) v1 v5 r0) (funext fun d => lp_laws_markWriteS_3 m d k)).trans (na_laws_markWriteS_3 (f := ou_laws_markWriteS_3 k)  (fun d => lo_laws_markWriteS_3 m d.1 d.2.1 d.2.2.1) (fun d => some (d)) v1 v5 r0))
theorem en_laws_markWriteS (a0 : List (Int × ByteArray × Unit)) (a1 : Int) : evalF Try.prog ta_laws_markWriteS pa_laws_markWriteS sg_laws_markWriteS Try.f115 L_laws_markWriteS (a0, a1, ()) = de_laws_markWriteS a0 a1 := by kernel_rfl
theorem si_laws_markWriteS : SigsOk Try.prog ta_laws_markWriteS := SigsOk.of fun f sd h => by
  try dsimp only [Tb.of, ta_laws_markWriteS] at h
  split at h
  · rename_i e; subst e; cases h; exact sn_laws_markText
  cases h
theorem lk_laws_markWriteS_3 {R : Type} : LoopOk Try.prog R 28 1 pa_laws_markWriteS L_laws_markWriteS co_laws_markWriteS_3 :=
  loop_key (cfg := ⟨ta_laws_markWriteS, 1, 28, pa_laws_markWriteS⟩) (key := 3) (by kernel_rfl) (by kernel_rfl) si_laws_markWriteS rfl rfl (fun d k r h => ⟨fu_laws_markWriteS_3 d.1 d.2.1 d.2.2.1, (lp_laws_markWriteS_3 _ d k).trans h⟩) (fun c hc => by rw [show loopsIn co_laws_markWriteS_3 = [] from by kernel_rfl] at hc; cases hc)
theorem sn_laws_markWriteS : Callable Try.prog 115 ∧ Sound Try.prog 115 sd_laws_markWriteS.sg sd_laws_markWriteS.den :=
  fn_loops (pat := pa_laws_markWriteS) L_laws_markWriteS (by kernel_rfl) si_laws_markWriteS Try.func115 (by kernel_rfl) (by kernel_rfl) (fun c hc => by rw [show loopsIn (bodyOf Try.f115) = [co_laws_markWriteS_3] from by kernel_rfl] at hc; simp only [List.mem_cons, List.not_mem_nil, or_false] at hc; rcases hc with rfl <;> first | exact lk_laws_markWriteS_3) fun x r h => by
    obtain ⟨a0, a1, ⟨⟩⟩ := x; obtain ⟨y, h1, h2⟩ := Option.bind_eq_some_iff.1 (show (m_laws_markWriteS a0 a1).bind (fun r => some ((r.1, ()), (r.2, ()))) = some r from h); cases h2; exact (en_laws_markWriteS a0 a1).trans (eq_laws_markWriteS a0 a1 _ h1)
def m_laws_markDisk (a : (List ByteArray) × (List (Int × ByteArray × Unit)) × Unit) (k : Int) : Option (Int × (List ByteArray) × (List (Int × ByteArray × Unit))) := (markM .str a.1 k).bind fun r0 => (markM (.pair (.int .i64) (.pair .str .unit)) a.2.1 r0.1).bind fun r1 =>  some (r1.1, r0.2, r1.2)
def sg_laws_markDisk : Sig := ⟨[.mu 9 .str, .mu 148 (.pair (.int .i64) (.pair .str .unit)), .rd (.int .i64)], [some 2, none], [.rd (.int .i64)], [none]⟩
noncomputable def sd_laws_markDisk : SD := ⟨sg_laws_markDisk, fun x => (m_laws_markDisk (x.1, x.2.1, ()) x.2.2.1).bind fun r => some ((r.1, ()), (r.2.1, r.2.2, ()))⟩
noncomputable def ta_laws_markDisk : Tb := Tb.of fun f => if f = 114 then some sd_laws_markStringS else if f = 115 then some sd_laws_markWriteS else none
def pa_laws_markDisk : Nat → Pat × (Nat → Pat) := fun k => (⟨[], [], []⟩, fun _ => ⟨[], [], []⟩)
noncomputable def de_laws_markDisk (a0 : List ByteArray) (a1 : List (Int × ByteArray × Unit)) (a2 : Int) : Option ((((Int) × Unit) × ((List ByteArray) × (List (Int × ByteArray × Unit)) × Unit))) :=
  Option.bind (Option.bind (m_laws_markStringS a0 a2) fun val => some ((val.fst, ()), val.snd, ())) fun val =>
    Option.bind (Option.bind (m_laws_markWriteS a1 val.fst.fst) fun val => some ((val.fst, ()), val.snd, ())) fun val_1 => some ((val_1.fst.fst, ()), val.snd.fst, val_1.snd.fst, ())
theorem eq_laws_markDisk (a0 : List ByteArray) (a1 : List (Int × ByteArray × Unit)) (a2 : Int) r (h : m_laws_markDisk (a0, a1, ()) a2 = some r) : de_laws_markDisk a0 a1 a2 = some ((r.1, ()), (r.2.1, r.2.2, ())) := by
  unfold m_laws_markDisk at h
  obtain ⟨⟨k0, x0⟩, e0, h⟩ := Option.bind_eq_some_iff.1 h
  have e0 : markM .str a0 a2 = some (k0, x0) := e0
  obtain ⟨⟨k1, x1⟩, e1, h⟩ := Option.bind_eq_some_iff.1 h
  have e1 : markM (.pair (.int .i64) (.pair .str .unit)) a1 k0 = some (k1, x1) := e1
  cases h
  unfold de_laws_markDisk
  have c0 : m_laws_markStringS a0 a2 = (some (k0, x0) : Option (Int × (List ByteArray))) := e0
  rw [c0]
  simp only [Option.bind_some]
  have c1 : m_laws_markWriteS a1 k0 = (some (k1, x1) : Option (Int × (List (Int × ByteArray × Unit)))) := e1
  rw [c1]
  simp only [Option.bind_some]
  try rfl
theorem en_laws_markDisk (a0 : List ByteArray) (a1 : List (Int × ByteArray × Unit)) (a2 : Int) : evalF Try.prog ta_laws_markDisk pa_laws_markDisk sg_laws_markDisk Try.f34 noL (a0, a1, a2, ()) = de_laws_markDisk a0 a1 a2 := by kernel_rfl
theorem si_laws_markDisk : SigsOk Try.prog ta_laws_markDisk := SigsOk.of fun f sd h => by
  try dsimp only [Tb.of, ta_laws_markDisk] at h
  split at h
  · rename_i e; subst e; cases h; exact sn_laws_markStringS
  split at h
  · rename_i e; subst e; cases h; exact sn_laws_markWriteS
  cases h
theorem sn_laws_markDisk : Callable Try.prog 34 ∧ Sound Try.prog 34 sd_laws_markDisk.sg sd_laws_markDisk.den :=
  fn_plain (pat := pa_laws_markDisk) (by kernel_rfl) si_laws_markDisk Try.func34 (by kernel_rfl) (by kernel_rfl) (by kernel_rfl) fun x r h => by
    obtain ⟨a0, a1, a2, ⟨⟩⟩ := x; obtain ⟨y, h1, h2⟩ := Option.bind_eq_some_iff.1 (show (m_laws_markDisk (a0, a1, ()) a2).bind (fun r => some ((r.1, ()), (r.2.1, r.2.2, ()))) = some r from h); cases h2; exact (en_laws_markDisk a0 a1 a2).trans (eq_laws_markDisk a0 a1 a2 _ h1)
def m_laws_markOpS (a : List (Bool × Int × ByteArray × Unit)) (k : Int) : Option (Int × (List (Bool × Int × ByteArray × Unit))) := markM (.pair .bool (.pair (.int .i64) (.pair .str .unit))) a k
def sg_laws_markOpS : Sig := ⟨[.mu 129 (.pair .bool (.pair (.int .i64) (.pair .str .unit))), .rd (.int .i64)], [none, none], [.rd (.int .i64)], [none]⟩
noncomputable def sd_laws_markOpS : SD := ⟨sg_laws_markOpS, fun x => (m_laws_markOpS x.1 x.2.1).bind fun r => some ((r.1, ()), (r.2, ()))⟩
noncomputable def ta_laws_markOpS : Tb := Tb.of fun f => if f = 116 then some sd_laws_markText else none
def pa_laws_markOpS : Nat → Pat × (Nat → Pat) := fun k => if k = 3 then (⟨[], [(0, .lf (.row 0)), (1, .lf (.d (.int .i64))), (5, .lf (.d (.int .i64)))], [.row 129 (.pair .bool (.pair (.int .i64) (.pair .str .unit)))]⟩, fun e => if e = 2 then ⟨[], [(1, .lf (.d (.int .i64)))], [.row 129 (.pair .bool (.pair (.int .i64) (.pair .str .unit)))]⟩ else ⟨[], [], []⟩) else (⟨[], [], []⟩, fun _ => ⟨[], [], []⟩)
noncomputable def co_laws_markOpS_3 : Code := (loopsIn (bodyOf Try.f35)).getD 0 .skip
def fu_laws_markOpS_3 (v1 : Int) (v5 : Int) (r0 : List (Bool × Int × ByteArray × Unit)) : Nat := ((r0.length : Int) - v5).toNat + 1
noncomputable def tr_laws_markOpS_3 {R : Type}  (NX : ((Int) × (Int) × (List (Bool × Int × ByteArray × Unit)) × Unit) → Option R) (X2 : ((Int) × (List (Bool × Int × ByteArray × Unit)) × Unit) → Option R) (v1 : Int) (v5 : Int) (r0 : List (Bool × Int × ByteArray × Unit)) : Option R :=
  bif decide (v5 < nI (List.length r0)) then
    bif decide (0 ≤ v5) then
      bif decide (v5 < nI (List.length r0)) then
        bif decide (Int.toNat v5 < List.length r0) then
          bif decide (0 ≤ v5) then
            bif
                decide
                  (v5 <
                    nI
                      (List.length
                        (List.set r0 (Int.toNat v5)
                          (Int.tmod v1 3 == 0, (List.getD r0 (Int.toNat v5) (false, 0, ByteArray.mk #[], ())).snd.fst, (List.getD r0 (Int.toNat v5) (false, 0, ByteArray.mk #[], ())).snd.snd.fst,
                            ())))) then
              bif
                  decide
                    (Int.toNat v5 <
                      List.length
                        (List.set r0 (Int.toNat v5)
                          (Int.tmod v1 3 == 0, (List.getD r0 (Int.toNat v5) (false, 0, ByteArray.mk #[], ())).snd.fst, (List.getD r0 (Int.toNat v5) (false, 0, ByteArray.mk #[], ())).snd.snd.fst,
                            ()))) then
                Option.bind (Option.bind (m_laws_markText (IntKind.wrap IntKind.i64 (IntKind.wrap IntKind.i64 (v1 + 1) + 1))) fun val => some ((val, ()), ())) fun val =>
                  bif decide (0 ≤ v5) then
                    bif
                        decide
                          (v5 <
                            nI
                              (List.length
                                (List.set
                                  (List.set r0 (Int.toNat v5)
                                    (Int.tmod v1 3 == 0, (List.getD r0 (Int.toNat v5) (false, 0, ByteArray.mk #[], ())).snd.fst,
                                      (List.getD r0 (Int.toNat v5) (false, 0, ByteArray.mk #[], ())).snd.snd.fst, ()))
                                  (Int.toNat v5)
                                  ((List.getD
                                        (List.set r0 (Int.toNat v5)
                                          (Int.tmod v1 3 == 0, (List.getD r0 (Int.toNat v5) (false, 0, ByteArray.mk #[], ())).snd.fst,
                                            (List.getD r0 (Int.toNat v5) (false, 0, ByteArray.mk #[], ())).snd.snd.fst, ()))
                                        (Int.toNat v5) (false, 0, ByteArray.mk #[], ())).fst,
                                    IntKind.wrap IntKind.i64 (v1 + 1),
                                    (List.getD
                                            (List.set r0 (Int.toNat v5)
                                              (Int.tmod v1 3 == 0, (List.getD r0 (Int.toNat v5) (false, 0, ByteArray.mk #[], ())).snd.fst,
                                                (List.getD r0 (Int.toNat v5) (false, 0, ByteArray.mk #[], ())).snd.snd.fst, ()))
                                            (Int.toNat v5) (false, 0, ByteArray.mk #[], ())).snd.snd.fst,
                                    ())))) then
                      bif
                          decide
                            (Int.toNat v5 <
                              List.length
                                (List.set
                                  (List.set r0 (Int.toNat v5)
                                    (Int.tmod v1 3 == 0, (List.getD r0 (Int.toNat v5) (false, 0, ByteArray.mk #[], ())).snd.fst,
                                      (List.getD r0 (Int.toNat v5) (false, 0, ByteArray.mk #[], ())).snd.snd.fst, ()))
                                  (Int.toNat v5)
                                  ((List.getD
                                        (List.set r0 (Int.toNat v5)
                                          (Int.tmod v1 3 == 0, (List.getD r0 (Int.toNat v5) (false, 0, ByteArray.mk #[], ())).snd.fst,
                                            (List.getD r0 (Int.toNat v5) (false, 0, ByteArray.mk #[], ())).snd.snd.fst, ()))
                                        (Int.toNat v5) (false, 0, ByteArray.mk #[], ())).fst,
                                    IntKind.wrap IntKind.i64 (v1 + 1),
                                    (List.getD
                                            (List.set r0 (Int.toNat v5)
                                              (Int.tmod v1 3 == 0, (List.getD r0 (Int.toNat v5) (false, 0, ByteArray.mk #[], ())).snd.fst,
                                                (List.getD r0 (Int.toNat v5) (false, 0, ByteArray.mk #[], ())).snd.snd.fst, ()))
                                            (Int.toNat v5) (false, 0, ByteArray.mk #[], ())).snd.snd.fst,
                                    ()))) then
                        NX
                          (IntKind.wrap IntKind.i64 (IntKind.wrap IntKind.i64 (IntKind.wrap IntKind.i64 (v1 + 1) + 1) + 1), IntKind.wrap IntKind.i64 (v5 + 1),
                            List.set
                              (List.set
                                (List.set r0 (Int.toNat v5)
                                  (Int.tmod v1 3 == 0, (List.getD r0 (Int.toNat v5) (false, 0, ByteArray.mk #[], ())).snd.fst, (List.getD r0 (Int.toNat v5) (false, 0, ByteArray.mk #[], ())).snd.snd.fst,
                                    ()))
                                (Int.toNat v5)
                                ((List.getD
                                      (List.set r0 (Int.toNat v5)
                                        (Int.tmod v1 3 == 0, (List.getD r0 (Int.toNat v5) (false, 0, ByteArray.mk #[], ())).snd.fst,
                                          (List.getD r0 (Int.toNat v5) (false, 0, ByteArray.mk #[], ())).snd.snd.fst, ()))
                                      (Int.toNat v5) (false, 0, ByteArray.mk #[], ())).fst,
                                  IntKind.wrap IntKind.i64 (v1 + 1),
                                  (List.getD
                                          (List.set r0 (Int.toNat v5)
                                            (Int.tmod v1 3 == 0, (List.getD r0 (Int.toNat v5) (false, 0, ByteArray.mk #[], ())).snd.fst,
                                              (List.getD r0 (Int.toNat v5) (false, 0, ByteArray.mk #[], ())).snd.snd.fst, ()))
                                          (Int.toNat v5) (false, 0, ByteArray.mk #[], ())).snd.snd.fst,
                                  ()))
                              (Int.toNat v5)
                              ((List.getD
                                    (List.set
                                      (List.set r0 (Int.toNat v5)
                                        (Int.tmod v1 3 == 0, (List.getD r0 (Int.toNat v5) (false, 0, ByteArray.mk #[], ())).snd.fst,
                                          (List.getD r0 (Int.toNat v5) (false, 0, ByteArray.mk #[], ())).snd.snd.fst, ()))
                                      (Int.toNat v5)
                                      ((List.getD
                                            (List.set r0 (Int.toNat v5)
                                              (Int.tmod v1 3 == 0, (List.getD r0 (Int.toNat v5) (false, 0, ByteArray.mk #[], ())).snd.fst,
                                                (List.getD r0 (Int.toNat v5) (false, 0, ByteArray.mk #[], ())).snd.snd.fst, ()))
                                            (Int.toNat v5) (false, 0, ByteArray.mk #[], ())).fst,
                                        IntKind.wrap IntKind.i64 (v1 + 1),
                                        (List.getD
                                                (List.set r0 (Int.toNat v5)
                                                  (Int.tmod v1 3 == 0, (List.getD r0 (Int.toNat v5) (false, 0, ByteArray.mk #[], ())).snd.fst,
                                                    (List.getD r0 (Int.toNat v5) (false, 0, ByteArray.mk #[], ())).snd.snd.fst, ()))
                                                (Int.toNat v5) (false, 0, ByteArray.mk #[], ())).snd.snd.fst,
                                        ()))
                                    (Int.toNat v5) (false, 0, ByteArray.mk #[], ())).fst,
                                (List.getD
                                      (List.set
                                        (List.set r0 (Int.toNat v5)
                                          (Int.tmod v1 3 == 0, (List.getD r0 (Int.toNat v5) (false, 0, ByteArray.mk #[], ())).snd.fst,
                                            (List.getD r0 (Int.toNat v5) (false, 0, ByteArray.mk #[], ())).snd.snd.fst, ()))
                                        (Int.toNat v5)
                                        ((List.getD
                                              (List.set r0 (Int.toNat v5)
                                                (Int.tmod v1 3 == 0, (List.getD r0 (Int.toNat v5) (false, 0, ByteArray.mk #[], ())).snd.fst,
                                                  (List.getD r0 (Int.toNat v5) (false, 0, ByteArray.mk #[], ())).snd.snd.fst, ()))
                                              (Int.toNat v5) (false, 0, ByteArray.mk #[], ())).fst,
                                          IntKind.wrap IntKind.i64 (v1 + 1),
                                          (List.getD
                                                  (List.set r0 (Int.toNat v5)
                                                    (Int.tmod v1 3 == 0, (List.getD r0 (Int.toNat v5) (false, 0, ByteArray.mk #[], ())).snd.fst,
                                                      (List.getD r0 (Int.toNat v5) (false, 0, ByteArray.mk #[], ())).snd.snd.fst, ()))
                                                  (Int.toNat v5) (false, 0, ByteArray.mk #[], ())).snd.snd.fst,
                                          ()))
                                      (Int.toNat v5) (false, 0, ByteArray.mk #[], ())).snd.fst,
                                val.fst.fst, ()),
                            ())
                      else none
                    else none
                  else none
              else none
            else none
          else none
        else none
      else none
    else none
  else X2 (v1, r0, ())
noncomputable def lo_laws_markOpS_3 : Nat → (Int) → (Int) → (List (Bool × Int × ByteArray × Unit)) →  Option ((Int) × (List (Bool × Int × ByteArray × Unit)) × Unit)
  | 0, _, _, _ => none
  | m + 1, v1, v5, r0 => tr_laws_markOpS_3  (fun d => lo_laws_markOpS_3 m d.1 d.2.1 d.2.2.1) (fun d => some (d)) v1 v5 r0
theorem na_laws_markOpS_3 {R S : Type}  (NX : ((Int) × (Int) × (List (Bool × Int × ByteArray × Unit)) × Unit) → Option R) (X2 : ((Int) × (List (Bool × Int × ByteArray × Unit)) × Unit) → Option R) (v1 : Int) (v5 : Int) (r0 : List (Bool × Int × ByteArray × Unit)) (f : R → Option S) : tr_laws_markOpS_3  (fun d => (NX d).bind f) (fun d => (X2 d).bind f) v1 v5 r0 = (tr_laws_markOpS_3  NX X2 v1 v5 r0).bind f := by
  unfold tr_laws_markOpS_3
  simp only [cond_bind, ite_bind, onSum_bind, Option.bind_assoc, Option.bind_none, Option.bind_some]
noncomputable def de_laws_markOpS (a0 : List (Bool × Int × ByteArray × Unit)) (a1 : Int) : Option ((((Int) × Unit) × ((List (Bool × Int × ByteArray × Unit)) × Unit))) :=
  Option.bind ((fun d => lo_laws_markOpS_3 (fu_laws_markOpS_3 d.1 d.2.1 d.2.2.1) d.1 d.2.1 d.2.2.1) (a1, 0, a0, ())) fun val => some ((val.fst, ()), val.snd.fst, ())
theorem eq_laws_markOpS (a0 : List (Bool × Int × ByteArray × Unit)) (a1 : Int) r (h : m_laws_markOpS a0 a1 = some r) : de_laws_markOpS a0 a1 = some ((r.1, ()), (r.2, ())) := by
  obtain ⟨g0, g1, hl0, rfl⟩ := markM_some (t := (.pair .bool (.pair (.int .i64) (.pair .str .unit)))) h
  have hl : a0.length ≤ 1125899906842624 := hl0
  have hEE : (fun k : Int => (show Bool × Int × ByteArray × Unit from (mkE (.pair .bool (.pair (.int .i64) (.pair .str .unit))) k).1)) = (fun k : Int => (decide ((k) % 3 = 0), k + 1, mkT (k + 2), ())) := funext fun k => by
    show (decide ((k) % 3 = 0), k + 1, mkT (k + 1 + 1), ()) = (decide ((k) % 3 = 0), k + 1, mkT (k + 2), ())
    try simp only [Int.add_assoc, Int.add_zero]
    try rfl
  show _ = some ((a1 + (a0.length : Int) * 3, ()), (gL (fun k : Int => (show Bool × Int × ByteArray × Unit from (mkE (.pair .bool (.pair (.int .i64) (.pair .str .unit))) k).1)) 3 a0.length a1, ()))
  rw [hEE]
  unfold de_laws_markOpS
  have hL := mark_loop (fun k : Int => (decide ((k) % 3 = 0), k + 1, mkT (k + 2), ())) 3 (n := a0.length) (K := 36028797018963000) (g := fun m k i r => lo_laws_markOpS_3 m k i r) (ok := fun k r => (k, r, ())) (fun m i k r hi hr h1 hK => by
    show lo_laws_markOpS_3 (m + 1) k i r = _
    have hK1 : k + 3 ≤ 36028797018963000 := by
      have : (1 : Int) ≤ (a0.length - i : Nat) := by omega
      omega
    rw [show lo_laws_markOpS_3 (m + 1) k i r = lo_laws_markOpS_3 (m + 1) (k + 0) i r from by rw [Int.add_zero]]
    have k0 : k = k + 0 := (Int.add_zero k).symm
    have t2 : m_laws_markText (k + 2) = some (mkT (k + 2)) := if_pos (by omega)
    have w0 : IntKind.wrap IntKind.i64 (k + 0 + 1) = k + 1 := by rw [wrap_ok (by omega) (by omega)]; omega
    have w1 : IntKind.wrap IntKind.i64 (k + 1 + 1) = k + 2 := by rw [wrap_ok (by omega) (by omega)]; omega
    have w2 : IntKind.wrap IntKind.i64 (k + 2 + 1) = k + 3 := by rw [wrap_ok (by omega) (by omega)]; omega
    have u0 : (Int.tmod (k + 0) 3 == 0) = decide ((k + 0) % 3 = 0) := tmod3 (by omega)
    have hir : i < r.length := by omega
    simp only [lo_laws_markOpS_3, tr_laws_markOpS_3]
    simp only [t2,  Option.bind_some, w0, w1, w2, u0,  List.length_set, List.set_set, cLt hir, cLe0, cLtN hir, wI (show i < 4611686018427387904 by omega), cond_true, Int.toNat_natCast, getD_set hir]
    first | rfl | (rw [Int.add_zero]; rfl) | (simp only [Int.add_zero]; rfl)) (fun m k r hr => by
    show lo_laws_markOpS_3 (m + 1) k a0.length r = _
    simp only [lo_laws_markOpS_3, tr_laws_markOpS_3, hr]
    rw [cLtF]
    rfl) (fu_laws_markOpS_3 a1 0 a0) 0 a1 a0 (by omega) (by simp [fu_laws_markOpS_3]) rfl g0 (by omega)
  have hL' : lo_laws_markOpS_3 (fu_laws_markOpS_3 a1 0 a0) a1 0 a0 = _ := hL
  show (lo_laws_markOpS_3 (fu_laws_markOpS_3 a1 0 a0) a1 0 a0).bind _ = _
  rw [hL']
  rfl
noncomputable def ou_laws_markOpS_3 {R : Type} (k : Kt R) : ((Int) × (List (Bool × Int × ByteArray × Unit)) × Unit) → Option R := (fun d => k (.exit 0) (((pa_laws_markOpS 3).2 2).st d) (((pa_laws_markOpS 3).2 2).nid))
noncomputable def L_laws_markOpS {R : Type} : Lt R pa_laws_markOpS := (addL (pat := pa_laws_markOpS) 3 (fun d k => (lo_laws_markOpS_3 (fu_laws_markOpS_3 d.1 d.2.1 d.2.2.1) d.1 d.2.1 d.2.2.1).bind (ou_laws_markOpS_3 k)) noL)
theorem rd_laws_markOpS_3 {R : Type} (nx : (pa_laws_markOpS 3).1.D → Kt R → Option R) (k : Kt R) (v1 : Int) (v5 : Int) (r0 : List (Bool × Int × ByteArray × Unit)) : ev Try.prog ⟨ta_laws_markOpS, 1, 37, pa_laws_markOpS⟩ L_laws_markOpS co_laws_markOpS_3 ((pa_laws_markOpS 3).1.st (v1, v5, r0, ())) (pa_laws_markOpS 3).1.nid (roundK 1 (pa_laws_markOpS 3) nx k) = tr_laws_markOpS_3  (fun d => nx d k) (fun d => k (.exit 0) (((pa_laws_markOpS 3).2 2).st d) (((pa_laws_markOpS 3).2 2).nid)) v1 v5 r0 := by kernel_rfl
theorem lp_laws_markOpS_3 {R : Type} : ∀ (m : Nat) (d : (pa_laws_markOpS 3).1.D) (k : Kt R), loopN 1 (pa_laws_markOpS 3) (fun s nid k => ev Try.prog ⟨ta_laws_markOpS, 1, 37, pa_laws_markOpS⟩ L_laws_markOpS co_laws_markOpS_3 s nid k) m d k = (lo_laws_markOpS_3 m d.1 d.2.1 d.2.2.1).bind (ou_laws_markOpS_3 k)
  | 0, _, _ => rfl
  | m + 1, ⟨v1, v5, r0, ⟨⟩⟩, k => (rd_laws_markOpS_3 _ k v1 v5 r0).trans ((congrArg (fun F => tr_laws_markOpS_3  F (fun d => k (.exit 0) (((pa_laws_markOpS 3).2 2).st d) (((pa_laws_markOpS 3).2 2).nid)) v1 v5 r0) (funext fun d => lp_laws_markOpS_3 m d k)).trans (na_laws_markOpS_3 (f := ou_laws_markOpS_3 k)  (fun d => lo_laws_markOpS_3 m d.1 d.2.1 d.2.2.1) (fun d => some (d)) v1 v5 r0))
theorem en_laws_markOpS (a0 : List (Bool × Int × ByteArray × Unit)) (a1 : Int) : evalF Try.prog ta_laws_markOpS pa_laws_markOpS sg_laws_markOpS Try.f35 L_laws_markOpS (a0, a1, ()) = de_laws_markOpS a0 a1 := by kernel_rfl
theorem si_laws_markOpS : SigsOk Try.prog ta_laws_markOpS := SigsOk.of fun f sd h => by
  try dsimp only [Tb.of, ta_laws_markOpS] at h
  split at h
  · rename_i e; subst e; cases h; exact sn_laws_markText
  cases h
theorem lk_laws_markOpS_3 {R : Type} : LoopOk Try.prog R 37 1 pa_laws_markOpS L_laws_markOpS co_laws_markOpS_3 :=
  loop_key (cfg := ⟨ta_laws_markOpS, 1, 37, pa_laws_markOpS⟩) (key := 3) (by kernel_rfl) (by kernel_rfl) si_laws_markOpS rfl rfl (fun d k r h => ⟨fu_laws_markOpS_3 d.1 d.2.1 d.2.2.1, (lp_laws_markOpS_3 _ d k).trans h⟩) (fun c hc => by rw [show loopsIn co_laws_markOpS_3 = [] from by kernel_rfl] at hc; cases hc)
theorem sn_laws_markOpS : Callable Try.prog 35 ∧ Sound Try.prog 35 sd_laws_markOpS.sg sd_laws_markOpS.den :=
  fn_loops (pat := pa_laws_markOpS) L_laws_markOpS (by kernel_rfl) si_laws_markOpS Try.func35 (by kernel_rfl) (by kernel_rfl) (fun c hc => by rw [show loopsIn (bodyOf Try.f35) = [co_laws_markOpS_3] from by kernel_rfl] at hc; simp only [List.mem_cons, List.not_mem_nil, or_false] at hc; rcases hc with rfl <;> first | exact lk_laws_markOpS_3) fun x r h => by
    obtain ⟨a0, a1, ⟨⟩⟩ := x; obtain ⟨y, h1, h2⟩ := Option.bind_eq_some_iff.1 (show (m_laws_markOpS a0 a1).bind (fun r => some ((r.1, ()), (r.2, ()))) = some r from h); cases h2; exact (en_laws_markOpS a0 a1).trans (eq_laws_markOpS a0 a1 _ h1)
end Go.Proofs.Ytjoiklaecelalaa.V
