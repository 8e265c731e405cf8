/- What the functions that FnExactScan reaches come to: part 1. No condition. -/
import Derived.Test.YtjoiklaecelalaaQBase
import Derived.Test.YtjoiklaecelalaaTLay
import Derived.Test.YtjoiklaecelalaaProg
import Derived.Test.YtjoiklaecelalaaQS
import Derived.KernelRfl
namespace Go.Proofs.Ytjoiklaecelalaa.V
open Go Go.Proofs.Ytjoiklaecelalaa.R Go.Proofs
set_option maxRecDepth 100000
set_option linter.unusedVariables false
set_option linter.unusedSimpArgs false
def m_laws_szStringS (a : List ByteArray) (left : Int) : Option Int := szM (.sl .str) a left
def sg_laws_szStringS : Sig := ⟨[.rd (.sl .str), .rd (.int .i64)], [none, none], [.rd (.int .i64)], [none]⟩
noncomputable def sd_laws_szStringS : SD := ⟨sg_laws_szStringS, fun x => (m_laws_szStringS x.1 x.2.1).bind fun r => some ((r, ()), (()))⟩
noncomputable def ta_laws_szStringS : Tb := Tb.of fun f => none
def pa_laws_szStringS : Nat → Pat × (Nat → Pat) := fun k => if k = 6 then (⟨[.sl 0 0 .str], [(0, .lf (.d (.sl .str))), (1, .lf (.d (.int .i64))), (5, .lf (.d (.int .i64)))], []⟩, fun e => if e = 1 then ⟨[], [(4, .lf (.d (.int .i64)))], []⟩ else if e = 2 then ⟨[], [(1, .lf (.d (.int .i64)))], []⟩ else ⟨[], [], []⟩) else (⟨[], [], []⟩, fun _ => ⟨[], [], []⟩)
noncomputable def co_laws_szStringS_6 : Code := (loopsIn (bodyOf Try.f99)).getD 0 .skip
def fu_laws_szStringS_6 (v0 : List ByteArray) (v1 : Int) (v5 : Int) : Nat := ((v0.length : Int) - v5).toNat + 1
noncomputable def tr_laws_szStringS_6 {R : Type}  (NX : ((List ByteArray) × (Int) × (Int) × Unit) → Option R) (X2 : ((Int) × Unit) → Option R) (X1 : ((Int) × Unit) → Option R) (v0 : List ByteArray) (v1 : Int) (v5 : Int) : Option R :=
  bif decide (v5 < nI (List.length v0)) then
    bif decide (0 ≤ v5) then
      bif decide (v5 < nI (List.length v0)) then
        bif decide (IntKind.wrap IntKind.i64 (v1 - nI (ByteArray.size (List.getD v0 (Int.toNat v5) (ByteArray.mk #[])))) < 0) then X1 (-1, ())
        else NX (v0, IntKind.wrap IntKind.i64 (v1 - nI (ByteArray.size (List.getD v0 (Int.toNat v5) (ByteArray.mk #[])))), IntKind.wrap IntKind.i64 (v5 + 1), ())
      else none
    else none
  else X2 (v1, ())
noncomputable def lo_laws_szStringS_6 : Nat → (List ByteArray) → (Int) → (Int) →  Option (((Int) × Unit) ⊕ ((Int) × Unit))
  | 0, _, _, _ => none
  | m + 1, v0, v1, v5 => tr_laws_szStringS_6  (fun d => lo_laws_szStringS_6 m d.1 d.2.1 d.2.2.1) (fun d => some (.inl (d))) (fun d => some (.inr (d))) v0 v1 v5
theorem na_laws_szStringS_6 {R S : Type}  (NX : ((List ByteArray) × (Int) × (Int) × Unit) → Option R) (X2 : ((Int) × Unit) → Option R) (X1 : ((Int) × Unit) → Option R) (v0 : List ByteArray) (v1 : Int) (v5 : Int) (f : R → Option S) : tr_laws_szStringS_6  (fun d => (NX d).bind f) (fun d => (X2 d).bind f) (fun d => (X1 d).bind f) v0 v1 v5 = (tr_laws_szStringS_6  NX X2 X1 v0 v1 v5).bind f := by
  unfold tr_laws_szStringS_6
  simp only [cond_bind, ite_bind, onSum_bind, Option.bind_assoc, Option.bind_none, Option.bind_some]
noncomputable def de_laws_szStringS (a0 : List ByteArray) (a1 : Int) : Option ((((Int) × Unit) × (Unit))) :=
  bif decide (IntKind.wrap IntKind.i64 (a1 - nI (List.length a0)) < 0) then some ((-1, ()), ())
  else Option.bind ((fun d => lo_laws_szStringS_6 (fu_laws_szStringS_6 d.1 d.2.1 d.2.2.1) d.1 d.2.1 d.2.2.1) (a0, IntKind.wrap IntKind.i64 (a1 - nI (List.length a0)), 0, ())) fun val => onSum (fun val => some ((val.fst, ()), ())) (fun val => some ((val.fst, ()), ())) val
theorem eq_laws_szStringS (a0 : List ByteArray) (a1 : Int) r (h : m_laws_szStringS a0 a1 = some r) : de_laws_szStringS a0 a1 = some ((r, ()), (())) := by
  obtain ⟨hc, g0, g1, rfl⟩ := szM_some (t := .sl .str) h
  obtain ⟨hl0, hall⟩ := fineB_sl hc
  have hl : a0.length < 1152921504606846976 := hl0
  clear hl0 hc
  · unfold de_laws_szStringS
    have hw1 : IntKind.i64.wrap (a1 - nI a0.length) = a1 - (a0.length : Int) := wrap_ok (by simp only [nI]; omega) (by simp only [nI]; omega)
    rw [hw1]
    have hL := sz_loop (xs := a0) (ByteArray.mk #[]) ByteArray.size (g := fun m l i => lo_laws_szStringS_6 m a0 l i) (ok := fun l => .inl (l, ())) (bad := .inr (-1, ())) (fun m i l hi h0 h1 => by
      show lo_laws_szStringS_6 (m + 1) a0 l i = _
      simp only [lo_laws_szStringS_6, tr_laws_szStringS_6]
      rw [cLt hi, cLe0, wI (by omega)]
      simp only [cond_true, Int.toNat_natCast]
      have hf : ByteArray.size (List.getD (α := ByteArray) a0 i (ByteArray.mk #[])) < 1152921504606846976 := fineB_str (hall _ (getD_mem (ByteArray.mk #[]) hi))
      have hw : IntKind.i64.wrap (l - nI (ByteArray.size (List.getD (α := ByteArray) a0 i (ByteArray.mk #[])))) = l - (ByteArray.size (List.getD (α := ByteArray) a0 i (ByteArray.mk #[])) : Int) := wrap_ok (by simp only [nI]; omega) (by simp only [nI]; omega)
      simp only [hw]
    ) (fun m l => by
      show lo_laws_szStringS_6 (m + 1) a0 l a0.length = _
      simp only [lo_laws_szStringS_6, tr_laws_szStringS_6]
      rw [cLtF]
      rfl) (fu_laws_szStringS_6 a0 (a1 - (a0.length : Int)) 0) 0 (a1 - (a0.length : Int)) (by omega) (by simp [fu_laws_szStringS_6])
    have hW : wt (.sl .str) a0 = a0.length + (a0.map ByteArray.size).sum := rfl
    rw [hW]
    by_cases q : a1 - (a0.length : Int) < 0
    · simp only [decide_eq_true q, cond_true]; rw [if_pos (by omega)]
    · simp only [decide_eq_false q, cond_false]
      have hL := hL (by omega) (by omega)
      rw [List.drop_zero] at hL
      show (lo_laws_szStringS_6 (fu_laws_szStringS_6 a0 (a1 - (a0.length : Int)) 0) a0 (a1 - (a0.length : Int)) 0).bind _ = _
      have hL' : lo_laws_szStringS_6 (fu_laws_szStringS_6 a0 (a1 - (a0.length : Int)) 0) a0 (a1 - (a0.length : Int)) 0 = _ := hL
      rw [hL']
      have hsum : a1 - ((a0.length + (a0.map ByteArray.size).sum : Nat) : Int) = a1 - (a0.length : Int) - ((a0.map ByteArray.size).sum : Int) := by omega
      rw [hsum]
      by_cases q2 : a1 - (a0.length : Int) - ((a0.map ByteArray.size).sum : Int) < 0
      · simp only [if_pos q2]; rfl
      · simp only [if_neg q2]; rfl
noncomputable def ou_laws_szStringS_6 {R : Type} (k : Kt R) : (((Int) × Unit) ⊕ ((Int) × Unit)) → Option R := (onSum (fun d => k (.exit 0) (((pa_laws_szStringS 6).2 2).st d) (((pa_laws_szStringS 6).2 2).nid)) (fun d => k .ret (((pa_laws_szStringS 6).2 1).st d) (((pa_laws_szStringS 6).2 1).nid)))
noncomputable def L_laws_szStringS {R : Type} : Lt R pa_laws_szStringS := (addL (pat := pa_laws_szStringS) 6 (fun d k => (lo_laws_szStringS_6 (fu_laws_szStringS_6 d.1 d.2.1 d.2.2.1) d.1 d.2.1 d.2.2.1).bind (ou_laws_szStringS_6 k)) noL)
theorem rd_laws_szStringS_6 {R : Type} (nx : (pa_laws_szStringS 6).1.D → Kt R → Option R) (k : Kt R) (v0 : List ByteArray) (v1 : Int) (v5 : Int) : ev Try.prog ⟨ta_laws_szStringS, 0, 28, pa_laws_szStringS⟩ L_laws_szStringS co_laws_szStringS_6 ((pa_laws_szStringS 6).1.st (v0, v1, v5, ())) (pa_laws_szStringS 6).1.nid (roundK 0 (pa_laws_szStringS 6) nx k) = tr_laws_szStringS_6  (fun d => nx d k) (fun d => k (.exit 0) (((pa_laws_szStringS 6).2 2).st d) (((pa_laws_szStringS 6).2 2).nid)) (fun d => k .ret (((pa_laws_szStringS 6).2 1).st d) (((pa_laws_szStringS 6).2 1).nid)) v0 v1 v5 := by kernel_rfl
theorem lp_laws_szStringS_6 {R : Type} : ∀ (m : Nat) (d : (pa_laws_szStringS 6).1.D) (k : Kt R), loopN 0 (pa_laws_szStringS 6) (fun s nid k => ev Try.prog ⟨ta_laws_szStringS, 0, 28, pa_laws_szStringS⟩ L_laws_szStringS co_laws_szStringS_6 s nid k) m d k = (lo_laws_szStringS_6 m d.1 d.2.1 d.2.2.1).bind (ou_laws_szStringS_6 k)
  | 0, _, _ => rfl
  | m + 1, ⟨v0, v1, v5, ⟨⟩⟩, k => (rd_laws_szStringS_6 _ k v0 v1 v5).trans ((congrArg (fun F => tr_laws_szStringS_6  F (fun d => k (.exit 0) (((pa_laws_szStringS 6).2 2).st d) (((pa_laws_szStringS 6).2 2).nid)) (fun d => k .ret (((pa_laws_szStringS 6).2 1).st d) (((pa_laws_szStringS 6).2 1).nid)) v0 v1 v5) (funext fun d => lp_laws_szStringS_6 m d k)).trans (na_laws_szStringS_6 (f := ou_laws_szStringS_6 k)  (fun d => lo_laws_szStringS_6 m d.1 d.2.1 d.2.2.1) (fun d => some (.inl (d))) (fun d => some (.inr (d))) v0 v1 v5))
theorem en_laws_szStringS (a0 : List ByteArray) (a1 : Int) : evalF Try.prog ta_laws_szStringS pa_laws_szStringS sg_laws_szStringS Try.f99 L_laws_szStringS (a0, a1, ()) = de_laws_szStringS a0 a1 := by kernel_rfl
theorem si_laws_szStringS : SigsOk Try.prog ta_laws_szStringS := SigsOk.of fun f sd h => by
  try dsimp only [Tb.of, ta_laws_szStringS] at h
  cases h
theorem lk_laws_szStringS_6 {R : Type} : LoopOk Try.prog R 28 0 pa_laws_szStringS L_laws_szStringS co_laws_szStringS_6 :=
  loop_key (cfg := ⟨ta_laws_szStringS, 0, 28, pa_laws_szStringS⟩) (key := 6) (by kernel_rfl) (by kernel_rfl) si_laws_szStringS rfl rfl (fun d k r h => ⟨fu_laws_szStringS_6 d.1 d.2.1 d.2.2.1, (lp_laws_szStringS_6 _ d k).trans h⟩) (fun c hc => by rw [show loopsIn co_laws_szStringS_6 = [] from by kernel_rfl] at hc; cases hc)
theorem sn_laws_szStringS : Callable Try.prog 99 ∧ Sound Try.prog 99 sd_laws_szStringS.sg sd_laws_szStringS.den :=
  fn_loops (pat := pa_laws_szStringS) L_laws_szStringS (by kernel_rfl) si_laws_szStringS Try.func99 (by kernel_rfl) (by kernel_rfl) (fun c hc => by rw [show loopsIn (bodyOf Try.f99) = [co_laws_szStringS_6] from by kernel_rfl] at hc; simp only [List.mem_cons, List.not_mem_nil, or_false] at hc; rcases hc with rfl <;> first | exact lk_laws_szStringS_6) fun x r h => by
    obtain ⟨a0, a1, ⟨⟩⟩ := x; obtain ⟨y, h1, h2⟩ := Option.bind_eq_some_iff.1 (show (m_laws_szStringS a0 a1).bind (fun r => some ((r, ()), (()))) = some r from h); cases h2; exact (en_laws_szStringS a0 a1).trans (eq_laws_szStringS a0 a1 _ h1)
def m_laws_szWrite (a : Int × ByteArray × Unit) (left : Int) : Option Int := szM (.pair (.int .i64) (.pair .str .unit)) a left
def sg_laws_szWrite : Sig := ⟨[.rd (.pair (.int .i64) (.pair .str .unit)), .rd (.int .i64)], [some 2, none], [.rd (.int .i64)], [none]⟩
noncomputable def sd_laws_szWrite : SD := ⟨sg_laws_szWrite, fun x => (m_laws_szWrite x.1 x.2.1).bind fun r => some ((r, ()), (()))⟩
noncomputable def ta_laws_szWrite : Tb := Tb.of fun f => none
def pa_laws_szWrite : Nat → Pat × (Nat → Pat) := fun k => (⟨[], [], []⟩, fun _ => ⟨[], [], []⟩)
noncomputable def de_laws_szWrite (a0 : Int × ByteArray × Unit) (a1 : Int) : Option ((((Int) × Unit) × (Unit))) :=
  bif decide (IntKind.wrap IntKind.i64 (a1 - nI (ByteArray.size a0.snd.fst)) < 0) then some ((-1, ()), ()) else some ((IntKind.wrap IntKind.i64 (a1 - nI (ByteArray.size a0.snd.fst)), ()), ())
theorem eq_laws_szWrite (a0 : Int × ByteArray × Unit) (a1 : Int) r (h : m_laws_szWrite a0 a1 = some r) : de_laws_szWrite a0 a1 = some ((r, ()), (())) := by
  obtain ⟨hc, g0, g1, rfl⟩ := szM_some (t := (.pair (.int .i64) (.pair .str .unit))) h
  obtain ⟨hc0, hc1, _⟩ : fineB (.int .i64) a0.1 = true ∧ fineB .str a0.2.1 = true ∧ True := by
    have s := hc
    obtain ⟨h0, s⟩ := fineB_pair s
    obtain ⟨h1, s⟩ := fineB_pair s
    exact ⟨h0, h1, trivial⟩
  unfold de_laws_szWrite
  have hwt : (wt (.pair (.int .i64) (.pair .str .unit)) a0 : Int) = (ByteArray.size a0.2.1 : Int) := by simp only [wt]; omega
  rw [hwt]
  have hs0 : ByteArray.size a0.2.1 < 1152921504606846976 := fineB_str hc1
  have e0 : IntKind.i64.wrap (a1 - nI (ByteArray.size a0.2.1)) = a1 - (ByteArray.size a0.2.1 : Int) := wrap_ok (by simp only [nI]; omega) (by simp only [nI]; omega)
  simp only [e0]
  by_cases q0 : a1 - (ByteArray.size a0.2.1 : Int) < 0
  · simp only [decide_eq_true q0, cond_true]; try rw [if_pos (by omega)]
  · simp only [decide_eq_false q0, cond_false]
    try rw [if_neg q0]
theorem en_laws_szWrite (a0 : Int × ByteArray × Unit) (a1 : Int) : evalF Try.prog ta_laws_szWrite pa_laws_szWrite sg_laws_szWrite Try.f177 noL (a0, a1, ()) = de_laws_szWrite a0 a1 := by kernel_rfl
theorem si_laws_szWrite : SigsOk Try.prog ta_laws_szWrite := SigsOk.of fun f sd h => by
  try dsimp only [Tb.of, ta_laws_szWrite] at h
  cases h
theorem sn_laws_szWrite : Callable Try.prog 177 ∧ Sound Try.prog 177 sd_laws_szWrite.sg sd_laws_szWrite.den :=
  fn_plain (pat := pa_laws_szWrite) (by kernel_rfl) si_laws_szWrite Try.func177 (by kernel_rfl) (by kernel_rfl) (by kernel_rfl) fun x r h => by
    obtain ⟨a0, a1, ⟨⟩⟩ := x; obtain ⟨y, h1, h2⟩ := Option.bind_eq_some_iff.1 (show (m_laws_szWrite a0 a1).bind (fun r => some ((r, ()), (()))) = some r from h); cases h2; exact (en_laws_szWrite a0 a1).trans (eq_laws_szWrite a0 a1 _ h1)
def m_laws_szWriteS (a : List (Int × ByteArray × Unit)) (left : Int) : Option Int := szM (.sl (.pair (.int .i64) (.pair .str .unit))) a left
def sg_laws_szWriteS : Sig := ⟨[.rd (.sl (.pair (.int .i64) (.pair .str .unit))), .rd (.int .i64)], [none, none], [.rd (.int .i64)], [none]⟩
noncomputable def sd_laws_szWriteS : SD := ⟨sg_laws_szWriteS, fun x => (m_laws_szWriteS x.1 x.2.1).bind fun r => some ((r, ()), (()))⟩
noncomputable def ta_laws_szWriteS : Tb := Tb.of fun f => if f = 177 then some sd_laws_szWrite else none
def pa_laws_szWriteS : Nat → Pat × (Nat → Pat) := fun k => if k = 6 then (⟨[.sl 0 0 (.pair (.int .i64) (.pair .str .unit))], [(0, .lf (.d (.sl (.pair (.int .i64) (.pair .str .unit))))), (1, .lf (.d (.int .i64))), (5, .lf (.d (.int .i64)))], []⟩, fun e => if e = 1 then ⟨[], [(4, .lf (.d (.int .i64)))], []⟩ else if e = 2 then ⟨[], [(1, .lf (.d (.int .i64)))], []⟩ else ⟨[], [], []⟩) else (⟨[], [], []⟩, fun _ => ⟨[], [], []⟩)
noncomputable def co_laws_szWriteS_6 : Code := (loopsIn (bodyOf Try.f100)).getD 0 .skip
def fu_laws_szWriteS_6 (v0 : List (Int × ByteArray × Unit)) (v1 : Int) (v5 : Int) : Nat := ((v0.length : Int) - v5).toNat + 1
noncomputable def tr_laws_szWriteS_6 {R : Type}  (NX : ((List (Int × ByteArray × Unit)) × (Int) × (Int) × Unit) → Option R) (X2 : ((Int) × Unit) → Option R) (X1 : ((Int) × Unit) → Option R) (v0 : List (Int × ByteArray × Unit)) (v1 : Int) (v5 : Int) : Option R :=
  bif decide (v5 < nI (List.length v0)) then
    bif decide (0 ≤ v5) then
      bif decide (v5 < nI (List.length v0)) then
        Option.bind
          (Option.bind (m_laws_szWrite ((List.getD v0 (Int.toNat v5) (0, ByteArray.mk #[], ())).fst, (List.getD v0 (Int.toNat v5) (0, ByteArray.mk #[], ())).snd.fst, ()) v1) fun val =>
            some ((val, ()), ()))
          fun val => bif decide (val.fst.fst < 0) then X1 (-1, ()) else NX (v0, val.fst.fst, IntKind.wrap IntKind.i64 (v5 + 1), ())
      else none
    else none
  else X2 (v1, ())
noncomputable def lo_laws_szWriteS_6 : Nat → (List (Int × ByteArray × Unit)) → (Int) → (Int) →  Option (((Int) × Unit) ⊕ ((Int) × Unit))
  | 0, _, _, _ => none
  | m + 1, v0, v1, v5 => tr_laws_szWriteS_6  (fun d => lo_laws_szWriteS_6 m d.1 d.2.1 d.2.2.1) (fun d => some (.inl (d))) (fun d => some (.inr (d))) v0 v1 v5
theorem na_laws_szWriteS_6 {R S : Type}  (NX : ((List (Int × ByteArray × Unit)) × (Int) × (Int) × Unit) → Option R) (X2 : ((Int) × Unit) → Option R) (X1 : ((Int) × Unit) → Option R) (v0 : List (Int × ByteArray × Unit)) (v1 : Int) (v5 : Int) (f : R → Option S) : tr_laws_szWriteS_6  (fun d => (NX d).bind f) (fun d => (X2 d).bind f) (fun d => (X1 d).bind f) v0 v1 v5 = (tr_laws_szWriteS_6  NX X2 X1 v0 v1 v5).bind f := by
  unfold tr_laws_szWriteS_6
  simp only [cond_bind, ite_bind, onSum_bind, Option.bind_assoc, Option.bind_none, Option.bind_some]
noncomputable def de_laws_szWriteS (a0 : List (Int × ByteArray × Unit)) (a1 : Int) : Option ((((Int) × Unit) × (Unit))) :=
  bif decide (IntKind.wrap IntKind.i64 (a1 - nI (List.length a0)) < 0) then some ((-1, ()), ())
  else Option.bind ((fun d => lo_laws_szWriteS_6 (fu_laws_szWriteS_6 d.1 d.2.1 d.2.2.1) d.1 d.2.1 d.2.2.1) (a0, IntKind.wrap IntKind.i64 (a1 - nI (List.length a0)), 0, ())) fun val => onSum (fun val => some ((val.fst, ()), ())) (fun val => some ((val.fst, ()), ())) val
theorem eq_laws_szWriteS (a0 : List (Int × ByteArray × Unit)) (a1 : Int) r (h : m_laws_szWriteS a0 a1 = some r) : de_laws_szWriteS a0 a1 = some ((r, ()), (())) := by
  obtain ⟨hc, g0, g1, rfl⟩ := szM_some (t := .sl (.pair (.int .i64) (.pair .str .unit))) h
  obtain ⟨hl0, hall⟩ := fineB_sl hc
  have hl : a0.length < 1152921504606846976 := hl0
  clear hl0 hc
  · unfold de_laws_szWriteS
    have hw1 : IntKind.i64.wrap (a1 - nI a0.length) = a1 - (a0.length : Int) := wrap_ok (by simp only [nI]; omega) (by simp only [nI]; omega)
    rw [hw1]
    have hL := sz_loop (xs := a0) (0, (ByteArray.mk #[]), ()) (fun x : Int × ByteArray × Unit => wt (.pair (.int .i64) (.pair .str .unit)) x) (g := fun m l i => lo_laws_szWriteS_6 m a0 l i) (ok := fun l => .inl (l, ())) (bad := .inr (-1, ())) (fun m i l hi h0 h1 => by
      show lo_laws_szWriteS_6 (m + 1) a0 l i = _
      simp only [lo_laws_szWriteS_6, tr_laws_szWriteS_6]
      rw [cLt hi, cLe0, wI (by omega)]
      simp only [cond_true, Int.toNat_natCast]
      have hE : m_laws_szWrite ((List.getD (α := Int × ByteArray × Unit) a0 i (0, (ByteArray.mk #[]), ())).fst, (List.getD (α := Int × ByteArray × Unit) a0 i (0, (ByteArray.mk #[]), ())).snd.fst, ()) l = some (if l - (wt (.pair (.int .i64) (.pair .str .unit)) (List.getD (α := Int × ByteArray × Unit) a0 i (0, (ByteArray.mk #[]), ())) : Int) < 0 then -1 else l - wt (.pair (.int .i64) (.pair .str .unit)) (List.getD (α := Int × ByteArray × Unit) a0 i (0, (ByteArray.mk #[]), ()))) := by
        exact szM_is (t := (.pair (.int .i64) (.pair .str .unit))) (x := (List.getD (α := Int × ByteArray × Unit) a0 i (0, (ByteArray.mk #[]), ()))) (hall _ (getD_mem (0, (ByteArray.mk #[]), ()) hi)) h0 h1
      rw [hE]
      by_cases q : l - (wt (.pair (.int .i64) (.pair .str .unit)) (List.getD (α := Int × ByteArray × Unit) a0 i (0, (ByteArray.mk #[]), ())) : Int) < 0
      · simp only [if_pos q, decide_eq_true q, Option.bind_some, cond_true]; rfl
      · simp only [if_neg q, decide_eq_false q, Option.bind_some, cond_false]
    ) (fun m l => by
      show lo_laws_szWriteS_6 (m + 1) a0 l a0.length = _
      simp only [lo_laws_szWriteS_6, tr_laws_szWriteS_6]
      rw [cLtF]
      rfl) (fu_laws_szWriteS_6 a0 (a1 - (a0.length : Int)) 0) 0 (a1 - (a0.length : Int)) (by omega) (by simp [fu_laws_szWriteS_6])
    have hW : wt (.sl (.pair (.int .i64) (.pair .str .unit))) a0 = a0.length + (a0.map (fun x : Int × ByteArray × Unit => wt (.pair (.int .i64) (.pair .str .unit)) x)).sum := rfl
    rw [hW]
    by_cases q : a1 - (a0.length : Int) < 0
    · simp only [decide_eq_true q, cond_true]; rw [if_pos (by omega)]
    · simp only [decide_eq_false q, cond_false]
      have hL := hL (by omega) (by omega)
      rw [List.drop_zero] at hL
      show (lo_laws_szWriteS_6 (fu_laws_szWriteS_6 a0 (a1 - (a0.length : Int)) 0) a0 (a1 - (a0.length : Int)) 0).bind _ = _
      have hL' : lo_laws_szWriteS_6 (fu_laws_szWriteS_6 a0 (a1 - (a0.length : Int)) 0) a0 (a1 - (a0.length : Int)) 0 = _ := hL
      rw [hL']
      have hsum : a1 - ((a0.length + (a0.map (fun x : Int × ByteArray × Unit => wt (.pair (.int .i64) (.pair .str .unit)) x)).sum : Nat) : Int) = a1 - (a0.length : Int) - ((a0.map (fun x : Int × ByteArray × Unit => wt (.pair (.int .i64) (.pair .str .unit)) x)).sum : Int) := by omega
      rw [hsum]
      by_cases q2 : a1 - (a0.length : Int) - ((a0.map (fun x : Int × ByteArray × Unit => wt (.pair (.int .i64) (.pair .str .unit)) x)).sum : Int) < 0
      · simp only [if_pos q2]; rfl
      · simp only [if_neg q2]; rfl
noncomputable def ou_laws_szWriteS_6 {R : Type} (k : Kt R) : (((Int) × Unit) ⊕ ((Int) × Unit)) → Option R := (onSum (fun d => k (.exit 0) (((pa_laws_szWriteS 6).2 2).st d) (((pa_laws_szWriteS 6).2 2).nid)) (fun d => k .ret (((pa_laws_szWriteS 6).2 1).st d) (((pa_laws_szWriteS 6).2 1).nid)))
noncomputable def L_laws_szWriteS {R : Type} : Lt R pa_laws_szWriteS := (addL (pat := pa_laws_szWriteS) 6 (fun d k => (lo_laws_szWriteS_6 (fu_laws_szWriteS_6 d.1 d.2.1 d.2.2.1) d.1 d.2.1 d.2.2.1).bind (ou_laws_szWriteS_6 k)) noL)
theorem rd_laws_szWriteS_6 {R : Type} (nx : (pa_laws_szWriteS 6).1.D → Kt R → Option R) (k : Kt R) (v0 : List (Int × ByteArray × Unit)) (v1 : Int) (v5 : Int) : ev Try.prog ⟨ta_laws_szWriteS, 0, 27, pa_laws_szWriteS⟩ L_laws_szWriteS co_laws_szWriteS_6 ((pa_laws_szWriteS 6).1.st (v0, v1, v5, ())) (pa_laws_szWriteS 6).1.nid (roundK 0 (pa_laws_szWriteS 6) nx k) = tr_laws_szWriteS_6  (fun d => nx d k) (fun d => k (.exit 0) (((pa_laws_szWriteS 6).2 2).st d) (((pa_laws_szWriteS 6).2 2).nid)) (fun d => k .ret (((pa_laws_szWriteS 6).2 1).st d) (((pa_laws_szWriteS 6).2 1).nid)) v0 v1 v5 := by kernel_rfl
theorem lp_laws_szWriteS_6 {R : Type} : ∀ (m : Nat) (d : (pa_laws_szWriteS 6).1.D) (k : Kt R), loopN 0 (pa_laws_szWriteS 6) (fun s nid k => ev Try.prog ⟨ta_laws_szWriteS, 0, 27, pa_laws_szWriteS⟩ L_laws_szWriteS co_laws_szWriteS_6 s nid k) m d k = (lo_laws_szWriteS_6 m d.1 d.2.1 d.2.2.1).bind (ou_laws_szWriteS_6 k)
  | 0, _, _ => rfl
  | m + 1, ⟨v0, v1, v5, ⟨⟩⟩, k => (rd_laws_szWriteS_6 _ k v0 v1 v5).trans ((congrArg (fun F => tr_laws_szWriteS_6  F (fun d => k (.exit 0) (((pa_laws_szWriteS 6).2 2).st d) (((pa_laws_szWriteS 6).2 2).nid)) (fun d => k .ret (((pa_laws_szWriteS 6).2 1).st d) (((pa_laws_szWriteS 6).2 1).nid)) v0 v1 v5) (funext fun d => lp_laws_szWriteS_6 m d k)).trans (na_laws_szWriteS_6 (f := ou_laws_szWriteS_6 k)  (fun d => lo_laws_szWriteS_6 m d.1 d.2.1 d.2.2.1) (fun d => some (.inl (d))) (fun d => some (.inr (d))) v0 v1 v5))
theorem en_laws_szWriteS (a0 : List (Int × ByteArray × Unit)) (a1 : Int) : evalF Try.prog ta_laws_szWriteS pa_laws_szWriteS sg_laws_szWriteS Try.f100 L_laws_szWriteS (a0, a1, ()) = de_laws_szWriteS a0 a1 := by kernel_rfl
theorem si_laws_szWriteS : SigsOk Try.prog ta_laws_szWriteS := SigsOk.of fun f sd h => by
  try dsimp only [Tb.of, ta_laws_szWriteS] at h
  split at h
  · rename_i e; subst e; cases h; exact sn_laws_szWrite
  cases h
theorem lk_laws_szWriteS_6 {R : Type} : LoopOk Try.prog R 27 0 pa_laws_szWriteS L_laws_szWriteS co_laws_szWriteS_6 :=
  loop_key (cfg := ⟨ta_laws_szWriteS, 0, 27, pa_laws_szWriteS⟩) (key := 6) (by kernel_rfl) (by kernel_rfl) si_laws_szWriteS rfl rfl (fun d k r h => ⟨fu_laws_szWriteS_6 d.1 d.2.1 d.2.2.1, (lp_laws_szWriteS_6 _ d k).trans h⟩) (fun c hc => by rw [show loopsIn co_laws_szWriteS_6 = [] from by kernel_rfl] at hc; cases hc)
theorem sn_laws_szWriteS : Callable Try.prog 100 ∧ Sound Try.prog 100 sd_laws_szWriteS.sg sd_laws_szWriteS.den :=
  fn_loops (pat := pa_laws_szWriteS) L_laws_szWriteS (by kernel_rfl) si_laws_szWriteS Try.func100 (by kernel_rfl) (by kernel_rfl) (fun c hc => by rw [show loopsIn (bodyOf Try.f100) = [co_laws_szWriteS_6] from by kernel_rfl] at hc; simp only [List.mem_cons, List.not_mem_nil, or_false] at hc; rcases hc with rfl <;> first | exact lk_laws_szWriteS_6) fun x r h => by
    obtain ⟨a0, a1, ⟨⟩⟩ := x; obtain ⟨y, h1, h2⟩ := Option.bind_eq_some_iff.1 (show (m_laws_szWriteS a0 a1).bind (fun r => some ((r, ()), (()))) = some r from h); cases h2; exact (en_laws_szWriteS a0 a1).trans (eq_laws_szWriteS a0 a1 _ h1)
def m_laws_szDisk (a : (List ByteArray) × (List (Int × ByteArray × Unit)) × Unit) (left : Int) : Option Int := szM (.pair (.sl .str) (.pair (.sl (.pair (.int .i64) (.pair .str .unit))) .unit)) a left
def sg_laws_szDisk : Sig := ⟨[.rd (.pair (.sl .str) (.pair (.sl (.pair (.int .i64) (.pair .str .unit))) .unit)), .rd (.int .i64)], [some 2, none], [.rd (.int .i64)], [none]⟩
noncomputable def sd_laws_szDisk : SD := ⟨sg_laws_szDisk, fun x => (m_laws_szDisk x.1 x.2.1).bind fun r => some ((r, ()), (()))⟩
noncomputable def ta_laws_szDisk : Tb := Tb.of fun f => if f = 99 then some sd_laws_szStringS else if f = 100 then some sd_laws_szWriteS else none
def pa_laws_szDisk : Nat → Pat × (Nat → Pat) := fun k => (⟨[], [], []⟩, fun _ => ⟨[], [], []⟩)
noncomputable def de_laws_szDisk (a0 : (List ByteArray) × (List (Int × ByteArray × Unit)) × Unit) (a1 : Int) : Option ((((Int) × Unit) × (Unit))) :=
  Option.bind (Option.bind (m_laws_szStringS a0.fst a1) fun val => some ((val, ()), ())) fun val =>
    bif decide (val.fst.fst < 0) then some ((-1, ()), ())
    else
      Option.bind (Option.bind (m_laws_szWriteS a0.snd.fst val.fst.fst) fun val => some ((val, ()), ())) fun val =>
        bif decide (val.fst.fst < 0) then some ((-1, ()), ()) else some ((val.fst.fst, ()), ())
theorem eq_laws_szDisk (a0 : (List ByteArray) × (List (Int × ByteArray × Unit)) × Unit) (a1 : Int) r (h : m_laws_szDisk a0 a1 = some r) : de_laws_szDisk a0 a1 = some ((r, ()), (())) := by
  obtain ⟨hc, g0, g1, rfl⟩ := szM_some (t := (.pair (.sl .str) (.pair (.sl (.pair (.int .i64) (.pair .str .unit))) .unit))) h
  obtain ⟨hc0, hc1, _⟩ : fineB (.sl .str) a0.1 = true ∧ fineB (.sl (.pair (.int .i64) (.pair .str .unit))) a0.2.1 = true ∧ True := by
    have s := hc
    obtain ⟨h0, s⟩ := fineB_pair s
    obtain ⟨h1, s⟩ := fineB_pair s
    exact ⟨h0, h1, trivial⟩
  unfold de_laws_szDisk
  have hwt : (wt (.pair (.sl .str) (.pair (.sl (.pair (.int .i64) (.pair .str .unit))) .unit)) a0 : Int) = (wt (.sl .str) a0.1 : Int) + (wt (.sl (.pair (.int .i64) (.pair .str .unit))) a0.2.1 : Int) := by simp only [wt]; omega
  rw [hwt]
  have e0 : m_laws_szStringS a0.1 (a1) = some (if a1 - (wt (.sl .str) a0.1 : Int) < 0 then -1 else a1 - (wt (.sl .str) a0.1 : Int)) := szM_is (t := (.sl .str)) (x := a0.1) hc0 (by omega) (by omega)
  simp only [show m_laws_szStringS a0.1 (a1) = _ from e0, Option.bind_some]
  by_cases q0 : a1 - (wt (.sl .str) a0.1 : Int) < 0
  · simp only [if_pos q0, show decide ((-1 : Int) < 0) = true from rfl, cond_true]; try rw [if_pos (by omega)]
  · simp only [if_neg q0, decide_eq_false q0, cond_false]
    have e1 : m_laws_szWriteS a0.2.1 (a1 - (wt (.sl .str) a0.1 : Int)) = some (if a1 - (wt (.sl .str) a0.1 : Int) - (wt (.sl (.pair (.int .i64) (.pair .str .unit))) a0.2.1 : Int) < 0 then -1 else a1 - (wt (.sl .str) a0.1 : Int) - (wt (.sl (.pair (.int .i64) (.pair .str .unit))) a0.2.1 : Int)) := szM_is (t := (.sl (.pair (.int .i64) (.pair .str .unit)))) (x := a0.2.1) hc1 (by omega) (by omega)
    simp only [show m_laws_szWriteS a0.2.1 (a1 - (wt (.sl .str) a0.1 : Int)) = _ from e1, Option.bind_some]
    by_cases q1 : a1 - (wt (.sl .str) a0.1 : Int) - (wt (.sl (.pair (.int .i64) (.pair .str .unit))) a0.2.1 : Int) < 0
    · simp only [if_pos q1, show decide ((-1 : Int) < 0) = true from rfl, cond_true]; try rw [if_pos (by omega)]
    · simp only [if_neg q1, decide_eq_false q1, cond_false]
      rw [if_neg (by omega)]
      simp only [Int.sub_sub, Int.add_assoc]
theorem en_laws_szDisk (a0 : (List ByteArray) × (List (Int × ByteArray × Unit)) × Unit) (a1 : Int) : evalF Try.prog ta_laws_szDisk pa_laws_szDisk sg_laws_szDisk Try.f26 noL (a0, a1, ()) = de_laws_szDisk a0 a1 := by kernel_rfl
theorem si_laws_szDisk : SigsOk Try.prog ta_laws_szDisk := SigsOk.of fun f sd h => by
  try dsimp only [Tb.of, ta_laws_szDisk] at h
  split at h
  · rename_i e; subst e; cases h; exact sn_laws_szStringS
  split at h
  · rename_i e; subst e; cases h; exact sn_laws_szWriteS
  cases h
theorem sn_laws_szDisk : Callable Try.prog 26 ∧ Sound Try.prog 26 sd_laws_szDisk.sg sd_laws_szDisk.den :=
  fn_plain (pat := pa_laws_szDisk) (by kernel_rfl) si_laws_szDisk Try.func26 (by kernel_rfl) (by kernel_rfl) (by kernel_rfl) fun x r h => by
    obtain ⟨a0, a1, ⟨⟩⟩ := x; obtain ⟨y, h1, h2⟩ := Option.bind_eq_some_iff.1 (show (m_laws_szDisk a0 a1).bind (fun r => some ((r, ()), (()))) = some r from h); cases h2; exact (en_laws_szDisk a0 a1).trans (eq_laws_szDisk a0 a1 _ h1)
def m_laws_toStringS (a : List ByteArray) : Option (List ByteArray) := toM (.sl .str) a
def sg_laws_toStringS : Sig := ⟨[.rd (.sl .str)], [none], [.own 9 .str], [none]⟩
noncomputable def sd_laws_toStringS : SD := ⟨sg_laws_toStringS, fun x => (m_laws_toStringS x.1).bind fun r => some ((r, ()), (()))⟩
noncomputable def ta_laws_toStringS : Tb := Tb.of fun f => none
def pa_laws_toStringS : Nat → Pat × (Nat → Pat) := fun k => if k = 4 then (⟨[.sl 0 0 .str, .row 3 0 9 .str], [(0, .lf (.d (.sl .str))), (3, .lf (.row 0)), (4, .lf (.d (.int .i64)))], [.row 9 .str]⟩, fun e => if e = 2 then ⟨[.row 3 0 9 .str], [(3, .lf (.row 0))], [.row 9 .str]⟩ else ⟨[], [], []⟩) else (⟨[], [], []⟩, fun _ => ⟨[], [], []⟩)
noncomputable def co_laws_toStringS_4 : Code := (loopsIn (bodyOf Try.f106)).getD 0 .skip
def fu_laws_toStringS_4 (v0 : List ByteArray) (v4 : Int) (r0 : List ByteArray) : Nat := ((v0.length : Int) - v4).toNat + 1
noncomputable def tr_laws_toStringS_4 {R : Type}  (NX : ((List ByteArray) × (Int) × (List ByteArray) × Unit) → Option R) (X2 : ((List ByteArray) × Unit) → Option R) (v0 : List ByteArray) (v4 : Int) (r0 : List ByteArray) : Option R :=
  bif decide (v4 < nI (List.length v0)) then
    bif decide (0 ≤ v4) then
      bif decide (v4 < nI (List.length v0)) then
        bif decide (0 ≤ v4) then
          bif decide (v4 < nI (List.length r0)) then
            bif decide (Int.toNat v4 < List.length r0) then NX (v0, IntKind.wrap IntKind.i64 (v4 + 1), List.set r0 (Int.toNat v4) (List.getD v0 (Int.toNat v4) (ByteArray.mk #[])), ()) else none
          else none
        else none
      else none
    else none
  else X2 (r0, ())
noncomputable def lo_laws_toStringS_4 : Nat → (List ByteArray) → (Int) → (List ByteArray) →  Option ((List ByteArray) × Unit)
  | 0, _, _, _ => none
  | m + 1, v0, v4, r0 => tr_laws_toStringS_4  (fun d => lo_laws_toStringS_4 m d.1 d.2.1 d.2.2.1) (fun d => some (d)) v0 v4 r0
theorem na_laws_toStringS_4 {R S : Type}  (NX : ((List ByteArray) × (Int) × (List ByteArray) × Unit) → Option R) (X2 : ((List ByteArray) × Unit) → Option R) (v0 : List ByteArray) (v4 : Int) (r0 : List ByteArray) (f : R → Option S) : tr_laws_toStringS_4  (fun d => (NX d).bind f) (fun d => (X2 d).bind f) v0 v4 r0 = (tr_laws_toStringS_4  NX X2 v0 v4 r0).bind f := by
  unfold tr_laws_toStringS_4
  simp only [cond_bind, ite_bind, onSum_bind, Option.bind_assoc, Option.bind_none, Option.bind_some]
noncomputable def de_laws_toStringS (a0 : List ByteArray) : Option ((((List ByteArray) × Unit) × (Unit))) :=
  bif decide (nI (List.length a0) = nI (List.length a0)) then
    bif decide (Int.toNat (nI (List.length a0)) * 16 ≤ 140737488355328) then
      Option.bind ((fun d => lo_laws_toStringS_4 (fu_laws_toStringS_4 d.1 d.2.1 d.2.2.1) d.1 d.2.1 d.2.2.1) (a0, 0, List.replicate (Int.toNat (nI (List.length a0))) (ByteArray.mk #[]), ())) fun val => some ((val.fst, ()), ())
    else none
  else none
theorem eq_laws_toStringS (a0 : List ByteArray) r (h : m_laws_toStringS a0 = some r) : de_laws_toStringS a0 = some ((r, ()), (())) := by
  obtain ⟨hc, rfl⟩ := toM_some (t := .sl .str) h
  obtain ⟨hl0, hall⟩ := smallB_sl hc
  have hl : a0.length ≤ 1048576 := hl0
  clear hl0 hc h
  · unfold de_laws_toStringS
    have e : Int.toNat (nI a0.length) = a0.length := by simp [nI]
    have hL := to_loop (xs := a0) (ByteArray.mk #[]) (g := fun m i r => lo_laws_toStringS_4 m a0 i r) (ok := fun r => (r, ())) (fun m i r hi hr => by
      show lo_laws_toStringS_4 (m + 1) a0 i r = _
      simp only [lo_laws_toStringS_4, tr_laws_toStringS_4]
      have hir : i < r.length := by omega
      rw [cLt hi, cLe0, cLt hir, wI (by omega)]
      simp only [cond_true, Int.toNat_natCast]
      rw [cLtN hir]
      rfl) (fun m r => by
      show lo_laws_toStringS_4 (m + 1) a0 a0.length r = _
      simp only [lo_laws_toStringS_4, tr_laws_toStringS_4]
      rw [cLtF]
      rfl) (fu_laws_toStringS_4 a0 0 (List.replicate a0.length (ByteArray.mk #[]))) 0 (List.replicate a0.length (ByteArray.mk #[])) (by omega) (by simp [fu_laws_toStringS_4]) (by simp)
    have c1 : decide (Int.toNat (nI a0.length) * 16 ≤ 140737488355328) = true := by rw [e]; simp; omega
    rw [c1, decide_eq_true rfl, e]
    have hL' : lo_laws_toStringS_4 (fu_laws_toStringS_4 a0 0 (List.replicate a0.length (ByteArray.mk #[]))) a0 0 (List.replicate a0.length (ByteArray.mk #[])) = _ := hL
    show (lo_laws_toStringS_4 (fu_laws_toStringS_4 a0 0 (List.replicate a0.length (ByteArray.mk #[]))) a0 0 (List.replicate a0.length (ByteArray.mk #[]))).bind _ = _
    rw [hL']
    rfl
noncomputable def ou_laws_toStringS_4 {R : Type} (k : Kt R) : ((List ByteArray) × Unit) → Option R := (fun d => k (.exit 0) (((pa_laws_toStringS 4).2 2).st d) (((pa_laws_toStringS 4).2 2).nid))
noncomputable def L_laws_toStringS {R : Type} : Lt R pa_laws_toStringS := (addL (pat := pa_laws_toStringS) 4 (fun d k => (lo_laws_toStringS_4 (fu_laws_toStringS_4 d.1 d.2.1 d.2.2.1) d.1 d.2.1 d.2.2.1).bind (ou_laws_toStringS_4 k)) noL)
theorem rd_laws_toStringS_4 {R : Type} (nx : (pa_laws_toStringS 4).1.D → Kt R → Option R) (k : Kt R) (v0 : List ByteArray) (v4 : Int) (r0 : List ByteArray) : ev Try.prog ⟨ta_laws_toStringS, 0, 22, pa_laws_toStringS⟩ L_laws_toStringS co_laws_toStringS_4 ((pa_laws_toStringS 4).1.st (v0, v4, r0, ())) (pa_laws_toStringS 4).1.nid (roundK 0 (pa_laws_toStringS 4) nx k) = tr_laws_toStringS_4  (fun d => nx d k) (fun d => k (.exit 0) (((pa_laws_toStringS 4).2 2).st d) (((pa_laws_toStringS 4).2 2).nid)) v0 v4 r0 := by kernel_rfl
theorem lp_laws_toStringS_4 {R : Type} : ∀ (m : Nat) (d : (pa_laws_toStringS 4).1.D) (k : Kt R), loopN 0 (pa_laws_toStringS 4) (fun s nid k => ev Try.prog ⟨ta_laws_toStringS, 0, 22, pa_laws_toStringS⟩ L_laws_toStringS co_laws_toStringS_4 s nid k) m d k = (lo_laws_toStringS_4 m d.1 d.2.1 d.2.2.1).bind (ou_laws_toStringS_4 k)
  | 0, _, _ => rfl
  | m + 1, ⟨v0, v4, r0, ⟨⟩⟩, k => (rd_laws_toStringS_4 _ k v0 v4 r0).trans ((congrArg (fun F => tr_laws_toStringS_4  F (fun d => k (.exit 0) (((pa_laws_toStringS 4).2 2).st d) (((pa_laws_toStringS 4).2 2).nid)) v0 v4 r0) (funext fun d => lp_laws_toStringS_4 m d k)).trans (na_laws_toStringS_4 (f := ou_laws_toStringS_4 k)  (fun d => lo_laws_toStringS_4 m d.1 d.2.1 d.2.2.1) (fun d => some (d)) v0 v4 r0))
theorem en_laws_toStringS (a0 : List ByteArray) : evalF Try.prog ta_laws_toStringS pa_laws_toStringS sg_laws_toStringS Try.f106 L_laws_toStringS (a0, ()) = de_laws_toStringS a0 := by kernel_rfl
theorem si_laws_toStringS : SigsOk Try.prog ta_laws_toStringS := SigsOk.of fun f sd h => by
  try dsimp only [Tb.of, ta_laws_toStringS] at h
  cases h
theorem lk_laws_toStringS_4 {R : Type} : LoopOk Try.prog R 22 0 pa_laws_toStringS L_laws_toStringS co_laws_toStringS_4 :=
  loop_key (cfg := ⟨ta_laws_toStringS, 0, 22, pa_laws_toStringS⟩) (key := 4) (by kernel_rfl) (by kernel_rfl) si_laws_toStringS rfl rfl (fun d k r h => ⟨fu_laws_toStringS_4 d.1 d.2.1 d.2.2.1, (lp_laws_toStringS_4 _ d k).trans h⟩) (fun c hc => by rw [show loopsIn co_laws_toStringS_4 = [] from by kernel_rfl] at hc; cases hc)
theorem sn_laws_toStringS : Callable Try.prog 106 ∧ Sound Try.prog 106 sd_laws_toStringS.sg sd_laws_toStringS.den :=
  fn_loops (pat := pa_laws_toStringS) L_laws_toStringS (by kernel_rfl) si_laws_toStringS Try.func106 (by kernel_rfl) (by kernel_rfl) (fun c hc => by rw [show loopsIn (bodyOf Try.f106) = [co_laws_toStringS_4] from by kernel_rfl] at hc; simp only [List.mem_cons, List.not_mem_nil, or_false] at hc; rcases hc with rfl <;> first | exact lk_laws_toStringS_4) fun x r h => by
    obtain ⟨a0, ⟨⟩⟩ := x; obtain ⟨y, h1, h2⟩ := Option.bind_eq_some_iff.1 (show (m_laws_toStringS a0).bind (fun r => some ((r, ()), (()))) = some r from h); cases h2; exact (en_laws_toStringS a0).trans (eq_laws_toStringS a0 _ h1)
def m_laws_toWrite (a : Int × ByteArray × Unit) : Option (Int × ByteArray × Unit) := toM (.pair (.int .i64) (.pair .str .unit)) a
def sg_laws_toWrite : Sig := ⟨[.rd (.pair (.int .i64) (.pair .str .unit))], [some 2], [.rd (.pair (.int .i64) (.pair .str .unit))], [some 2]⟩
noncomputable def sd_laws_toWrite : SD := ⟨sg_laws_toWrite, fun x => (m_laws_toWrite x.1).bind fun r => some ((r, ()), (()))⟩
noncomputable def ta_laws_toWrite : Tb := Tb.of fun f => none
def pa_laws_toWrite : Nat → Pat × (Nat → Pat) := fun k => (⟨[], [], []⟩, fun _ => ⟨[], [], []⟩)
noncomputable def de_laws_toWrite (a0 : Int × ByteArray × Unit) : Option ((((Int × ByteArray × Unit) × Unit) × (Unit))) :=
  some (((a0.fst, a0.snd.fst, ()), ()), ())
theorem eq_laws_toWrite (a0 : Int × ByteArray × Unit) r (h : m_laws_toWrite a0 = some r) : de_laws_toWrite a0 = some ((r, ()), (())) := by
  obtain ⟨hc, rfl⟩ := toM_some (t := (.pair (.int .i64) (.pair .str .unit))) h
  · rfl
theorem en_laws_toWrite (a0 : Int × ByteArray × Unit) : evalF Try.prog ta_laws_toWrite pa_laws_toWrite sg_laws_toWrite Try.f178 noL (a0, ()) = de_laws_toWrite a0 := by kernel_rfl
theorem si_laws_toWrite : SigsOk Try.prog ta_laws_toWrite := SigsOk.of fun f sd h => by
  try dsimp only [Tb.of, ta_laws_toWrite] at h
  cases h
theorem sn_laws_toWrite : Callable Try.prog 178 ∧ Sound Try.prog 178 sd_laws_toWrite.sg sd_laws_toWrite.den :=
  fn_plain (pat := pa_laws_toWrite) (by kernel_rfl) si_laws_toWrite Try.func178 (by kernel_rfl) (by kernel_rfl) (by kernel_rfl) fun x r h => by
    obtain ⟨a0, ⟨⟩⟩ := x; obtain ⟨y, h1, h2⟩ := Option.bind_eq_some_iff.1 (show (m_laws_toWrite a0).bind (fun r => some ((r, ()), (()))) = some r from h); cases h2; exact (en_laws_toWrite a0).trans (eq_laws_toWrite a0 _ h1)
def m_laws_toWriteS (a : List (Int × ByteArray × Unit)) : Option (List (Int × ByteArray × Unit)) := toM (.sl (.pair (.int .i64) (.pair .str .unit))) a
def sg_laws_toWriteS : Sig := ⟨[.rd (.sl (.pair (.int .i64) (.pair .str .unit)))], [none], [.own 148 (.pair (.int .i64) (.pair .str .unit))], [none]⟩
noncomputable def sd_laws_toWriteS : SD := ⟨sg_laws_toWriteS, fun x => (m_laws_toWriteS x.1).bind fun r => some ((r, ()), (()))⟩
noncomputable def ta_laws_toWriteS : Tb := Tb.of fun f => if f = 178 then some sd_laws_toWrite else none
def pa_laws_toWriteS : Nat → Pat × (Nat → Pat) := fun k => if k = 4 then (⟨[.sl 0 0 (.pair (.int .i64) (.pair .str .unit)), .row 3 0 148 (.pair (.int .i64) (.pair .str .unit))], [(0, .lf (.d (.sl (.pair (.int .i64) (.pair .str .unit))))), (3, .lf (.row 0)), (4, .lf (.d (.int .i64)))], [.row 148 (.pair (.int .i64) (.pair .str .unit))]⟩, fun e => if e = 2 then ⟨[.row 3 0 148 (.pair (.int .i64) (.pair .str .unit))], [(3, .lf (.row 0))], [.row 148 (.pair (.int .i64) (.pair .str .unit))]⟩ else ⟨[], [], []⟩) else (⟨[], [], []⟩, fun _ => ⟨[], [], []⟩)
noncomputable def co_laws_toWriteS_4 : Code := (loopsIn (bodyOf Try.f107)).getD 0 .skip
def fu_laws_toWriteS_4 (v0 : List (Int × ByteArray × Unit)) (v4 : Int) (r0 : List (Int × ByteArray × Unit)) : Nat := ((v0.length : Int) - v4).toNat + 1
noncomputable def tr_laws_toWriteS_4 {R : Type}  (NX : ((List (Int × ByteArray × Unit)) × (Int) × (List (Int × ByteArray × Unit)) × Unit) → Option R) (X2 : ((List (Int × ByteArray × Unit)) × Unit) → Option R) (v0 : List (Int × ByteArray × Unit)) (v4 : Int) (r0 : List (Int × ByteArray × Unit)) : Option R :=
  bif decide (v4 < nI (List.length v0)) then
    bif decide (0 ≤ v4) then
      bif decide (v4 < nI (List.length v0)) then
        bif decide (0 ≤ v4) then
          bif decide (v4 < nI (List.length r0)) then
            bif decide (Int.toNat v4 < List.length r0) then
              NX
                (v0, IntKind.wrap IntKind.i64 (v4 + 1),
                  List.set r0 (Int.toNat v4) ((List.getD v0 (Int.toNat v4) (0, ByteArray.mk #[], ())).fst, (List.getD v0 (Int.toNat v4) (0, ByteArray.mk #[], ())).snd.fst, ()), ())
            else none
          else none
        else none
      else none
    else none
  else X2 (r0, ())
noncomputable def lo_laws_toWriteS_4 : Nat → (List (Int × ByteArray × Unit)) → (Int) → (List (Int × ByteArray × Unit)) →  Option ((List (Int × ByteArray × Unit)) × Unit)
  | 0, _, _, _ => none
  | m + 1, v0, v4, r0 => tr_laws_toWriteS_4  (fun d => lo_laws_toWriteS_4 m d.1 d.2.1 d.2.2.1) (fun d => some (d)) v0 v4 r0
theorem na_laws_toWriteS_4 {R S : Type}  (NX : ((List (Int × ByteArray × Unit)) × (Int) × (List (Int × ByteArray × Unit)) × Unit) → Option R) (X2 : ((List (Int × ByteArray × Unit)) × Unit) → Option R) (v0 : List (Int × ByteArray × Unit)) (v4 : Int) (r0 : List (Int × ByteArray × Unit)) (f : R → Option S) : tr_laws_toWriteS_4  (fun d => (NX d).bind f) (fun d => (X2 d).bind f) v0 v4 r0 = (tr_laws_toWriteS_4  NX X2 v0 v4 r0).bind f := by
  unfold tr_laws_toWriteS_4
  simp only [cond_bind, ite_bind, onSum_bind, Option.bind_assoc, Option.bind_none, Option.bind_some]
noncomputable def de_laws_toWriteS (a0 : List (Int × ByteArray × Unit)) : Option ((((List (Int × ByteArray × Unit)) × Unit) × (Unit))) :=
  bif decide (nI (List.length a0) = nI (List.length a0)) then
    bif decide (Int.toNat (nI (List.length a0)) * 24 ≤ 140737488355328) then
      Option.bind ((fun d => lo_laws_toWriteS_4 (fu_laws_toWriteS_4 d.1 d.2.1 d.2.2.1) d.1 d.2.1 d.2.2.1) (a0, 0, List.replicate (Int.toNat (nI (List.length a0))) (0, ByteArray.mk #[], ()), ())) fun val => some ((val.fst, ()), ())
    else none
  else none
theorem eq_laws_toWriteS (a0 : List (Int × ByteArray × Unit)) r (h : m_laws_toWriteS a0 = some r) : de_laws_toWriteS a0 = some ((r, ()), (())) := by
  obtain ⟨hc, rfl⟩ := toM_some (t := .sl (.pair (.int .i64) (.pair .str .unit))) h
  obtain ⟨hl0, hall⟩ := smallB_sl hc
  have hl : a0.length ≤ 1048576 := hl0
  clear hl0 hc h
  · unfold de_laws_toWriteS
    have e : Int.toNat (nI a0.length) = a0.length := by simp [nI]
    have hL := to_loop (xs := a0) (0, (ByteArray.mk #[]), ()) (g := fun m i r => lo_laws_toWriteS_4 m a0 i r) (ok := fun r => (r, ())) (fun m i r hi hr => by
      show lo_laws_toWriteS_4 (m + 1) a0 i r = _
      simp only [lo_laws_toWriteS_4, tr_laws_toWriteS_4]
      have hir : i < r.length := by omega
      rw [cLt hi, cLe0, cLt hir, wI (by omega)]
      simp only [cond_true, Int.toNat_natCast]
      rw [cLtN hir]
      rfl) (fun m r => by
      show lo_laws_toWriteS_4 (m + 1) a0 a0.length r = _
      simp only [lo_laws_toWriteS_4, tr_laws_toWriteS_4]
      rw [cLtF]
      rfl) (fu_laws_toWriteS_4 a0 0 (List.replicate a0.length (0, (ByteArray.mk #[]), ()))) 0 (List.replicate a0.length (0, (ByteArray.mk #[]), ())) (by omega) (by simp [fu_laws_toWriteS_4]) (by simp)
    have c1 : decide (Int.toNat (nI a0.length) * 24 ≤ 140737488355328) = true := by rw [e]; simp; omega
    rw [c1, decide_eq_true rfl, e]
    have hL' : lo_laws_toWriteS_4 (fu_laws_toWriteS_4 a0 0 (List.replicate a0.length (0, (ByteArray.mk #[]), ()))) a0 0 (List.replicate a0.length (0, (ByteArray.mk #[]), ())) = _ := hL
    show (lo_laws_toWriteS_4 (fu_laws_toWriteS_4 a0 0 (List.replicate a0.length (0, (ByteArray.mk #[]), ()))) a0 0 (List.replicate a0.length (0, (ByteArray.mk #[]), ()))).bind _ = _
    rw [hL']
    rfl
noncomputable def ou_laws_toWriteS_4 {R : Type} (k : Kt R) : ((List (Int × ByteArray × Unit)) × Unit) → Option R := (fun d => k (.exit 0) (((pa_laws_toWriteS 4).2 2).st d) (((pa_laws_toWriteS 4).2 2).nid))
noncomputable def L_laws_toWriteS {R : Type} : Lt R pa_laws_toWriteS := (addL (pat := pa_laws_toWriteS) 4 (fun d k => (lo_laws_toWriteS_4 (fu_laws_toWriteS_4 d.1 d.2.1 d.2.2.1) d.1 d.2.1 d.2.2.1).bind (ou_laws_toWriteS_4 k)) noL)
theorem rd_laws_toWriteS_4 {R : Type} (nx : (pa_laws_toWriteS 4).1.D → Kt R → Option R) (k : Kt R) (v0 : List (Int × ByteArray × Unit)) (v4 : Int) (r0 : List (Int × ByteArray × Unit)) : ev Try.prog ⟨ta_laws_toWriteS, 0, 23, pa_laws_toWriteS⟩ L_laws_toWriteS co_laws_toWriteS_4 ((pa_laws_toWriteS 4).1.st (v0, v4, r0, ())) (pa_laws_toWriteS 4).1.nid (roundK 0 (pa_laws_toWriteS 4) nx k) = tr_laws_toWriteS_4  (fun d => nx d k) (fun d => k (.exit 0) (((pa_laws_toWriteS 4).2 2).st d) (((pa_laws_toWriteS 4).2 2).nid)) v0 v4 r0 := by kernel_rfl
theorem lp_laws_toWriteS_4 {R : Type} : ∀ (m : Nat) (d : (pa_laws_toWriteS 4).1.D) (k : Kt R), loopN 0 (pa_laws_toWriteS 4) (fun s nid k => ev Try.prog ⟨ta_laws_toWriteS, 0, 23, pa_laws_toWriteS⟩ L_laws_toWriteS co_laws_toWriteS_4 s nid k) m d k = (lo_laws_toWriteS_4 m d.1 d.2.1 d.2.2.1).bind (ou_laws_toWriteS_4 k)
  | 0, _, _ => rfl
  | m + 1, ⟨v0, v4, r0, ⟨⟩⟩, k => (rd_laws_toWriteS_4 _ k v0 v4 r0).trans ((congrArg (fun F => tr_laws_toWriteS_4  F (fun d => k (.exit 0) (((pa_laws_toWriteS 4).2 2).st d) (((pa_laws_toWriteS 4).2 2).nid)) v0 v4 r0) (funext fun d => lp_laws_toWriteS_4 m d k)).trans (na_laws_toWriteS_4 (f := ou_laws_toWriteS_4 k)  (fun d => lo_laws_toWriteS_4 m d.1 d.2.1 d.2.2.1) (fun d => some (d)) v0 v4 r0))
theorem en_laws_toWriteS (a0 : List (Int × ByteArray × Unit)) : evalF Try.prog ta_laws_toWriteS pa_laws_toWriteS sg_laws_toWriteS Try.f107 L_laws_toWriteS (a0, ()) = de_laws_toWriteS a0 := by kernel_rfl
theorem si_laws_toWriteS : SigsOk Try.prog ta_laws_toWriteS := SigsOk.of fun f sd h => by
  try dsimp only [Tb.of, ta_laws_toWriteS] at h
  split at h
  · rename_i e; subst e; cases h; exact sn_laws_toWrite
  cases h
theorem lk_laws_toWriteS_4 {R : Type} : LoopOk Try.prog R 23 0 pa_laws_toWriteS L_laws_toWriteS co_laws_toWriteS_4 :=
  loop_key (cfg := ⟨ta_laws_toWriteS, 0, 23, pa_laws_toWriteS⟩) (key := 4) (by kernel_rfl) (by kernel_rfl) si_laws_toWriteS rfl rfl (fun d k r h => ⟨fu_laws_toWriteS_4 d.1 d.2.1 d.2.2.1, (lp_laws_toWriteS_4 _ d k).trans h⟩) (fun c hc => by rw [show loopsIn co_laws_toWriteS_4 = [] from by kernel_rfl] at hc; cases hc)
theorem sn_laws_toWriteS : Callable Try.prog 107 ∧ Sound Try.prog 107 sd_laws_toWriteS.sg sd_laws_toWriteS.den :=
  fn_loops (pat := pa_laws_toWriteS) L_laws_toWriteS (by kernel_rfl) si_laws_toWriteS Try.func107 (by kernel_rfl) (by kernel_rfl) (fun c hc => by rw [show loopsIn (bodyOf Try.f107) = [co_laws_toWriteS_4] from by kernel_rfl] at hc; simp only [List.mem_cons, List.not_mem_nil, or_false] at hc; rcases hc with rfl <;> first | exact lk_laws_toWriteS_4) fun x r h => by
    obtain ⟨a0, ⟨⟩⟩ := x; obtain ⟨y, h1, h2⟩ := Option.bind_eq_some_iff.1 (show (m_laws_toWriteS a0).bind (fun r => some ((r, ()), (()))) = some r from h); cases h2; exact (en_laws_toWriteS a0).trans (eq_laws_toWriteS a0 _ h1)
def m_laws_toDisk (a : (List ByteArray) × (List (Int × ByteArray × Unit)) × Unit) : Option ((List ByteArray) × (List (Int × ByteArray × Unit)) × Unit) := toM (.pair (.sl .str) (.pair (.sl (.pair (.int .i64) (.pair .str .unit))) .unit)) a
def sg_laws_toDisk : Sig := ⟨[.rd (.pair (.sl .str) (.pair (.sl (.pair (.int .i64) (.pair .str .unit))) .unit))], [some 2], [.own 9 .str, .own 148 (.pair (.int .i64) (.pair .str .unit))], [some 2]⟩
noncomputable def sd_laws_toDisk : SD := ⟨sg_laws_toDisk, fun x => (m_laws_toDisk x.1).bind fun r => some ((r.1, r.2.1, ()), (()))⟩
noncomputable def ta_laws_toDisk : Tb := Tb.of fun f => if f = 106 then some sd_laws_toStringS else if f = 107 then some sd_laws_toWriteS else none
def pa_laws_toDisk : Nat → Pat × (Nat → Pat) := fun k => (⟨[], [], []⟩, fun _ => ⟨[], [], []⟩)
noncomputable def de_laws_toDisk (a0 : (List ByteArray) × (List (Int × ByteArray × Unit)) × Unit) : Option ((((List ByteArray) × (List (Int × ByteArray × Unit)) × Unit) × (Unit))) :=
  Option.bind (Option.bind (m_laws_toStringS a0.fst) fun val => some ((val, ()), ())) fun val =>
    Option.bind (Option.bind (m_laws_toWriteS a0.snd.fst) fun val => some ((val, ()), ())) fun val_1 => some ((val.fst.fst, val_1.fst.fst, ()), ())
theorem eq_laws_toDisk (a0 : (List ByteArray) × (List (Int × ByteArray × Unit)) × Unit) r (h : m_laws_toDisk a0 = some r) : de_laws_toDisk a0 = some ((r.1, r.2.1, ()), (())) := by
  obtain ⟨hc, rfl⟩ := toM_some (t := (.pair (.sl .str) (.pair (.sl (.pair (.int .i64) (.pair .str .unit))) .unit))) h
  · obtain ⟨s0, s1, _⟩ : smallB (.sl .str) a0.1 = true ∧ smallB (.sl (.pair (.int .i64) (.pair .str .unit))) a0.2.1 = true ∧ True := by
      have s := hc
      obtain ⟨h0, s⟩ := smallB_pair s
      obtain ⟨h1, s⟩ := smallB_pair s
      exact ⟨h0, h1, trivial⟩
    unfold de_laws_toDisk
    have e0 : m_laws_toStringS a0.1 = some a0.1 := toM_is (t := (.sl .str)) s0
    have e1 : m_laws_toWriteS a0.2.1 = some a0.2.1 := toM_is (t := (.sl (.pair (.int .i64) (.pair .str .unit)))) s1
    simp only [e0, e1]
    rfl
theorem en_laws_toDisk (a0 : (List ByteArray) × (List (Int × ByteArray × Unit)) × Unit) : evalF Try.prog ta_laws_toDisk pa_laws_toDisk sg_laws_toDisk Try.f29 noL (a0, ()) = de_laws_toDisk a0 := by kernel_rfl
theorem si_laws_toDisk : SigsOk Try.prog ta_laws_toDisk := SigsOk.of fun f sd h => by
  try dsimp only [Tb.of, ta_laws_toDisk] at h
  split at h
  · rename_i e; subst e; cases h; exact sn_laws_toStringS
  split at h
  · rename_i e; subst e; cases h; exact sn_laws_toWriteS
  cases h
theorem sn_laws_toDisk : Callable Try.prog 29 ∧ Sound Try.prog 29 sd_laws_toDisk.sg sd_laws_toDisk.den :=
  fn_plain (pat := pa_laws_toDisk) (by kernel_rfl) si_laws_toDisk Try.func29 (by kernel_rfl) (by kernel_rfl) (by kernel_rfl) fun x r h => by
    obtain ⟨a0, ⟨⟩⟩ := x; obtain ⟨y, h1, h2⟩ := Option.bind_eq_some_iff.1 (show (m_laws_toDisk a0).bind (fun r => some ((r.1, r.2.1, ()), (()))) = some r from h); cases h2; exact (en_laws_toDisk a0).trans (eq_laws_toDisk a0 _ h1)
def m_laws_eqStringS (a b : List ByteArray) : Option Bool := eqM (.sl .str) a b
def sg_laws_eqStringS : Sig := ⟨[.rd (.sl .str), .rd (.sl .str)], [none, none], [.rd .bool], [none]⟩
noncomputable def sd_laws_eqStringS : SD := ⟨sg_laws_eqStringS, fun x => (m_laws_eqStringS x.1 x.2.1).bind fun r => some ((r, ()), (()))⟩
noncomputable def ta_laws_eqStringS : Tb := Tb.of fun f => none
def pa_laws_eqStringS : Nat → Pat × (Nat → Pat) := fun k => if k = 5 then (⟨[.sl 0 0 .str, .sl 1 0 .str], [(0, .lf (.d (.sl .str))), (1, .lf (.d (.sl .str))), (5, .lf (.d (.int .i64)))], []⟩, fun e => if e = 1 then ⟨[], [(4, .lf (.d .bool))], []⟩ else if e = 2 then ⟨[], [], []⟩ else ⟨[], [], []⟩) else (⟨[], [], []⟩, fun _ => ⟨[], [], []⟩)
noncomputable def co_laws_eqStringS_5 : Code := (loopsIn (bodyOf Try.f111)).getD 0 .skip
def fu_laws_eqStringS_5 (v0 : List ByteArray) (v1 : List ByteArray) (v5 : Int) : Nat := ((v0.length : Int) - v5).toNat + 1
noncomputable def tr_laws_eqStringS_5 {R : Type}  (NX : ((List ByteArray) × (List ByteArray) × (Int) × Unit) → Option R) (X2 : (Unit) → Option R) (X1 : ((Bool) × Unit) → Option R) (v0 : List ByteArray) (v1 : List ByteArray) (v5 : Int) : Option R :=
  bif decide (v5 < nI (List.length v0)) then
    bif decide (0 ≤ v5) then
      bif decide (v5 < nI (List.length v0)) then
        bif decide (0 ≤ v5) then
          bif decide (v5 < nI (List.length v1)) then
            bif !ByteArray.toList (List.getD v0 (Int.toNat v5) (ByteArray.mk #[])) == ByteArray.toList (List.getD v1 (Int.toNat v5) (ByteArray.mk #[])) then X1 (false, ())
            else NX (v0, v1, IntKind.wrap IntKind.i64 (v5 + 1), ())
          else none
        else none
      else none
    else none
  else X2 PUnit.unit
noncomputable def lo_laws_eqStringS_5 : Nat → (List ByteArray) → (List ByteArray) → (Int) →  Option ((Unit) ⊕ ((Bool) × Unit))
  | 0, _, _, _ => none
  | m + 1, v0, v1, v5 => tr_laws_eqStringS_5  (fun d => lo_laws_eqStringS_5 m d.1 d.2.1 d.2.2.1) (fun d => some (.inl (d))) (fun d => some (.inr (d))) v0 v1 v5
theorem na_laws_eqStringS_5 {R S : Type}  (NX : ((List ByteArray) × (List ByteArray) × (Int) × Unit) → Option R) (X2 : (Unit) → Option R) (X1 : ((Bool) × Unit) → Option R) (v0 : List ByteArray) (v1 : List ByteArray) (v5 : Int) (f : R → Option S) : tr_laws_eqStringS_5  (fun d => (NX d).bind f) (fun d => (X2 d).bind f) (fun d => (X1 d).bind f) v0 v1 v5 = (tr_laws_eqStringS_5  NX X2 X1 v0 v1 v5).bind f := by
  unfold tr_laws_eqStringS_5
  simp only [cond_bind, ite_bind, onSum_bind, Option.bind_assoc, Option.bind_none, Option.bind_some]
noncomputable def de_laws_eqStringS (a0 : List ByteArray) (a1 : List ByteArray) : Option ((((Bool) × Unit) × (Unit))) :=
  bif nI (List.length a0) != nI (List.length a1) then some ((false, ()), ())
  else Option.bind ((fun d => lo_laws_eqStringS_5 (fu_laws_eqStringS_5 d.1 d.2.1 d.2.2.1) d.1 d.2.1 d.2.2.1) (a0, a1, 0, ())) fun val => onSum (fun val => some ((true, ()), ())) (fun val => some ((val.fst, ()), ())) val
theorem eq_laws_eqStringS (a0 : List ByteArray) (a1 : List ByteArray) r (h : m_laws_eqStringS a0 a1 = some r) : de_laws_eqStringS a0 a1 = some ((r, ()), (())) := by
  obtain ⟨hc, hd, rfl⟩ := eqM_some (t := .sl .str) h
  obtain ⟨hlx0, hx⟩ := fineB_sl hc
  obtain ⟨hly0, hy⟩ := fineB_sl hd
  have hlx : a0.length < 1152921504606846976 := hlx0
  have hly : a1.length < 1152921504606846976 := hly0
  clear hlx0 hly0 hc hd h
  · unfold de_laws_eqStringS
    by_cases hl : a1.length = a0.length
    · have c1 : (nI a0.length != nI a1.length) = false := by simp [nI, hl]
      have hL := eq_loop (xs := a0) (ys := a1) (ByteArray.mk #[]) eqS (g := fun m i => lo_laws_eqStringS_5 m a0 a1 i) (ok := .inl ()) (bad := .inr (false, ())) hl (fun m i hi => by
        show lo_laws_eqStringS_5 (m + 1) a0 a1 i = _
        simp only [lo_laws_eqStringS_5, tr_laws_eqStringS_5]
        rw [cLt hi, cLe0, cLt (show i < a1.length by omega), wI (by omega)]
        simp only [cond_true, Int.toNat_natCast]
        show (bif !(ByteArray.toList (List.getD (α := ByteArray) a0 i (ByteArray.mk #[])) == ByteArray.toList (List.getD (α := ByteArray) a1 i (ByteArray.mk #[]))) then _ else _) = bif (ByteArray.toList (List.getD (α := ByteArray) a0 i (ByteArray.mk #[])) == ByteArray.toList (List.getD (α := ByteArray) a1 i (ByteArray.mk #[]))) then _ else _
        cases (ByteArray.toList (List.getD (α := ByteArray) a0 i (ByteArray.mk #[])) == ByteArray.toList (List.getD (α := ByteArray) a1 i (ByteArray.mk #[]))) <;> rfl) (fun m => by
        show lo_laws_eqStringS_5 (m + 1) a0 a1 a0.length = _
        simp only [lo_laws_eqStringS_5, tr_laws_eqStringS_5]
        rw [cLtF]
        rfl) (fu_laws_eqStringS_5 a0 a1 0) 0 (by omega) (by simp [fu_laws_eqStringS_5])
      rw [c1]
      have hL' : lo_laws_eqStringS_5 (fu_laws_eqStringS_5 a0 a1 0) a0 a1 0 = _ := hL
      show (lo_laws_eqStringS_5 (fu_laws_eqStringS_5 a0 a1 0) a0 a1 0).bind _ = some ((eqL (α := ByteArray) eqS a0 a1, ()), ())
      rw [hL', List.drop_zero, List.drop_zero]
      cases eqL (α := ByteArray) eqS a0 a1 <;> rfl
    · have c1 : (nI a0.length != nI a1.length) = true := by simp [nI]; omega
      rw [c1]
      show _ = some ((eqL (α := ByteArray) eqS a0 a1, ()), ())
      rw [eqL_len (fun q => hl q.symm)]
      rfl
noncomputable def ou_laws_eqStringS_5 {R : Type} (k : Kt R) : ((Unit) ⊕ ((Bool) × Unit)) → Option R := (onSum (fun d => k (.exit 0) (((pa_laws_eqStringS 5).2 2).st d) (((pa_laws_eqStringS 5).2 2).nid)) (fun d => k .ret (((pa_laws_eqStringS 5).2 1).st d) (((pa_laws_eqStringS 5).2 1).nid)))
noncomputable def L_laws_eqStringS {R : Type} : Lt R pa_laws_eqStringS := (addL (pat := pa_laws_eqStringS) 5 (fun d k => (lo_laws_eqStringS_5 (fu_laws_eqStringS_5 d.1 d.2.1 d.2.2.1) d.1 d.2.1 d.2.2.1).bind (ou_laws_eqStringS_5 k)) noL)
theorem rd_laws_eqStringS_5 {R : Type} (nx : (pa_laws_eqStringS 5).1.D → Kt R → Option R) (k : Kt R) (v0 : List ByteArray) (v1 : List ByteArray) (v5 : Int) : ev Try.prog ⟨ta_laws_eqStringS, 0, 26, pa_laws_eqStringS⟩ L_laws_eqStringS co_laws_eqStringS_5 ((pa_laws_eqStringS 5).1.st (v0, v1, v5, ())) (pa_laws_eqStringS 5).1.nid (roundK 0 (pa_laws_eqStringS 5) nx k) = tr_laws_eqStringS_5  (fun d => nx d k) (fun d => k (.exit 0) (((pa_laws_eqStringS 5).2 2).st d) (((pa_laws_eqStringS 5).2 2).nid)) (fun d => k .ret (((pa_laws_eqStringS 5).2 1).st d) (((pa_laws_eqStringS 5).2 1).nid)) v0 v1 v5 := by kernel_rfl
theorem lp_laws_eqStringS_5 {R : Type} : ∀ (m : Nat) (d : (pa_laws_eqStringS 5).1.D) (k : Kt R), loopN 0 (pa_laws_eqStringS 5) (fun s nid k => ev Try.prog ⟨ta_laws_eqStringS, 0, 26, pa_laws_eqStringS⟩ L_laws_eqStringS co_laws_eqStringS_5 s nid k) m d k = (lo_laws_eqStringS_5 m d.1 d.2.1 d.2.2.1).bind (ou_laws_eqStringS_5 k)
  | 0, _, _ => rfl
  | m + 1, ⟨v0, v1, v5, ⟨⟩⟩, k => (rd_laws_eqStringS_5 _ k v0 v1 v5).trans ((congrArg (fun F => tr_laws_eqStringS_5  F (fun d => k (.exit 0) (((pa_laws_eqStringS 5).2 2).st d) (((pa_laws_eqStringS 5).2 2).nid)) (fun d => k .ret (((pa_laws_eqStringS 5).2 1).st d) (((pa_laws_eqStringS 5).2 1).nid)) v0 v1 v5) (funext fun d => lp_laws_eqStringS_5 m d k)).trans (na_laws_eqStringS_5 (f := ou_laws_eqStringS_5 k)  (fun d => lo_laws_eqStringS_5 m d.1 d.2.1 d.2.2.1) (fun d => some (.inl (d))) (fun d => some (.inr (d))) v0 v1 v5))
theorem en_laws_eqStringS (a0 : List ByteArray) (a1 : List ByteArray) : evalF Try.prog ta_laws_eqStringS pa_laws_eqStringS sg_laws_eqStringS Try.f111 L_laws_eqStringS (a0, a1, ()) = de_laws_eqStringS a0 a1 := by kernel_rfl
theorem si_laws_eqStringS : SigsOk Try.prog ta_laws_eqStringS := SigsOk.of fun f sd h => by
  try dsimp only [Tb.of, ta_laws_eqStringS] at h
  cases h
theorem lk_laws_eqStringS_5 {R : Type} : LoopOk Try.prog R 26 0 pa_laws_eqStringS L_laws_eqStringS co_laws_eqStringS_5 :=
  loop_key (cfg := ⟨ta_laws_eqStringS, 0, 26, pa_laws_eqStringS⟩) (key := 5) (by kernel_rfl) (by kernel_rfl) si_laws_eqStringS rfl rfl (fun d k r h => ⟨fu_laws_eqStringS_5 d.1 d.2.1 d.2.2.1, (lp_laws_eqStringS_5 _ d k).trans h⟩) (fun c hc => by rw [show loopsIn co_laws_eqStringS_5 = [] from by kernel_rfl] at hc; cases hc)
theorem sn_laws_eqStringS : Callable Try.prog 111 ∧ Sound Try.prog 111 sd_laws_eqStringS.sg sd_laws_eqStringS.den :=
  fn_loops (pat := pa_laws_eqStringS) L_laws_eqStringS (by kernel_rfl) si_laws_eqStringS Try.func111 (by kernel_rfl) (by kernel_rfl) (fun c hc => by rw [show loopsIn (bodyOf Try.f111) = [co_laws_eqStringS_5] from by kernel_rfl] at hc; simp only [List.mem_cons, List.not_mem_nil, or_false] at hc; rcases hc with rfl <;> first | exact lk_laws_eqStringS_5) fun x r h => by
    obtain ⟨a0, a1, ⟨⟩⟩ := x; obtain ⟨y, h1, h2⟩ := Option.bind_eq_some_iff.1 (show (m_laws_eqStringS a0 a1).bind (fun r => some ((r, ()), (()))) = some r from h); cases h2; exact (en_laws_eqStringS a0 a1).trans (eq_laws_eqStringS a0 a1 _ h1)
def m_laws_eqWrite (a b : Int × ByteArray × Unit) : Option Bool := eqM (.pair (.int .i64) (.pair .str .unit)) a b
def sg_laws_eqWrite : Sig := ⟨[.rd (.pair (.int .i64) (.pair .str .unit)), .rd (.pair (.int .i64) (.pair .str .unit))], [some 2, some 2], [.rd .bool], [none]⟩
noncomputable def sd_laws_eqWrite : SD := ⟨sg_laws_eqWrite, fun x => (m_laws_eqWrite x.1 x.2.1).bind fun r => some ((r, ()), (()))⟩
noncomputable def ta_laws_eqWrite : Tb := Tb.of fun f => none
def pa_laws_eqWrite : Nat → Pat × (Nat → Pat) := fun k => (⟨[], [], []⟩, fun _ => ⟨[], [], []⟩)
noncomputable def de_laws_eqWrite (a0 : Int × ByteArray × Unit) (a1 : Int × ByteArray × Unit) : Option ((((Bool) × Unit) × (Unit))) :=
  bif a0.fst != a1.fst then some ((false, ()), ()) else bif !ByteArray.toList a0.snd.fst == ByteArray.toList a1.snd.fst then some ((false, ()), ()) else some ((true, ()), ())
theorem eq_laws_eqWrite (a0 : Int × ByteArray × Unit) (a1 : Int × ByteArray × Unit) r (h : m_laws_eqWrite a0 a1 = some r) : de_laws_eqWrite a0 a1 = some ((r, ()), (())) := by
  obtain ⟨hc, hd, rfl⟩ := eqM_some (t := (.pair (.int .i64) (.pair .str .unit))) h
  obtain ⟨hc0, hc1, _⟩ : fineB (.int .i64) a0.1 = true ∧ fineB .str a0.2.1 = true ∧ True := by
    have s := hc
    obtain ⟨h0, s⟩ := fineB_pair s
    obtain ⟨h1, s⟩ := fineB_pair s
    exact ⟨h0, h1, trivial⟩
  obtain ⟨hd0, hd1, _⟩ : fineB (.int .i64) a1.1 = true ∧ fineB .str a1.2.1 = true ∧ True := by
    have s := hd
    obtain ⟨h0, s⟩ := fineB_pair s
    obtain ⟨h1, s⟩ := fineB_pair s
    exact ⟨h0, h1, trivial⟩
  unfold de_laws_eqWrite
  have e0 : (a0.1 != a1.1) = !eqI a0.1 a1.1 := bneI _ _
  have e1 : (!(ByteArray.toList a0.2.1 == ByteArray.toList a1.2.1)) = !eqS a0.2.1 a1.2.1 := rfl
  simp only [e0, e1, Option.bind_some]
  show _ = some (((eqI a0.1 a1.1 && (eqS a0.2.1 a1.2.1 && true)), ()), ())
  generalize eqI a0.1 a1.1 = p0
  generalize eqS a0.2.1 a1.2.1 = p1
  cases p0 <;> cases p1 <;> rfl
theorem en_laws_eqWrite (a0 : Int × ByteArray × Unit) (a1 : Int × ByteArray × Unit) : evalF Try.prog ta_laws_eqWrite pa_laws_eqWrite sg_laws_eqWrite Try.f179 noL (a0, a1, ()) = de_laws_eqWrite a0 a1 := by kernel_rfl
theorem si_laws_eqWrite : SigsOk Try.prog ta_laws_eqWrite := SigsOk.of fun f sd h => by
  try dsimp only [Tb.of, ta_laws_eqWrite] at h
  cases h
theorem sn_laws_eqWrite : Callable Try.prog 179 ∧ Sound Try.prog 179 sd_laws_eqWrite.sg sd_laws_eqWrite.den :=
  fn_plain (pat := pa_laws_eqWrite) (by kernel_rfl) si_laws_eqWrite Try.func179 (by kernel_rfl) (by kernel_rfl) (by kernel_rfl) fun x r h => by
    obtain ⟨a0, a1, ⟨⟩⟩ := x; obtain ⟨y, h1, h2⟩ := Option.bind_eq_some_iff.1 (show (m_laws_eqWrite a0 a1).bind (fun r => some ((r, ()), (()))) = some r from h); cases h2; exact (en_laws_eqWrite a0 a1).trans (eq_laws_eqWrite a0 a1 _ h1)
def m_laws_eqWriteS (a b : List (Int × ByteArray × Unit)) : Option Bool := eqM (.sl (.pair (.int .i64) (.pair .str .unit))) a b
def sg_laws_eqWriteS : Sig := ⟨[.rd (.sl (.pair (.int .i64) (.pair .str .unit))), .rd (.sl (.pair (.int .i64) (.pair .str .unit)))], [none, none], [.rd .bool], [none]⟩
noncomputable def sd_laws_eqWriteS : SD := ⟨sg_laws_eqWriteS, fun x => (m_laws_eqWriteS x.1 x.2.1).bind fun r => some ((r, ()), (()))⟩
noncomputable def ta_laws_eqWriteS : Tb := Tb.of fun f => if f = 179 then some sd_laws_eqWrite else none
def pa_laws_eqWriteS : Nat → Pat × (Nat → Pat) := fun k => if k = 5 then (⟨[.sl 0 0 (.pair (.int .i64) (.pair .str .unit)), .sl 1 0 (.pair (.int .i64) (.pair .str .unit))], [(0, .lf (.d (.sl (.pair (.int .i64) (.pair .str .unit))))), (1, .lf (.d (.sl (.pair (.int .i64) (.pair .str .unit))))), (5, .lf (.d (.int .i64)))], []⟩, fun e => if e = 1 then ⟨[], [(4, .lf (.d .bool))], []⟩ else if e = 2 then ⟨[], [], []⟩ else ⟨[], [], []⟩) else (⟨[], [], []⟩, fun _ => ⟨[], [], []⟩)
noncomputable def co_laws_eqWriteS_5 : Code := (loopsIn (bodyOf Try.f112)).getD 0 .skip
def fu_laws_eqWriteS_5 (v0 : List (Int × ByteArray × Unit)) (v1 : List (Int × ByteArray × Unit)) (v5 : Int) : Nat := ((v0.length : Int) - v5).toNat + 1
noncomputable def tr_laws_eqWriteS_5 {R : Type}  (NX : ((List (Int × ByteArray × Unit)) × (List (Int × ByteArray × Unit)) × (Int) × Unit) → Option R) (X2 : (Unit) → Option R) (X1 : ((Bool) × Unit) → Option R) (v0 : List (Int × ByteArray × Unit)) (v1 : List (Int × ByteArray × Unit)) (v5 : Int) : Option R :=
  bif decide (v5 < nI (List.length v0)) then
    bif decide (0 ≤ v5) then
      bif decide (v5 < nI (List.length v0)) then
        bif decide (0 ≤ v5) then
          bif decide (v5 < nI (List.length v1)) then
            Option.bind
              (Option.bind
                (m_laws_eqWrite ((List.getD v0 (Int.toNat v5) (0, ByteArray.mk #[], ())).fst, (List.getD v0 (Int.toNat v5) (0, ByteArray.mk #[], ())).snd.fst, ())
                  ((List.getD v1 (Int.toNat v5) (0, ByteArray.mk #[], ())).fst, (List.getD v1 (Int.toNat v5) (0, ByteArray.mk #[], ())).snd.fst, ()))
                fun val => some ((val, ()), ()))
              fun val => bif !val.fst.fst then X1 (false, ()) else NX (v0, v1, IntKind.wrap IntKind.i64 (v5 + 1), ())
          else none
        else none
      else none
    else none
  else X2 PUnit.unit
noncomputable def lo_laws_eqWriteS_5 : Nat → (List (Int × ByteArray × Unit)) → (List (Int × ByteArray × Unit)) → (Int) →  Option ((Unit) ⊕ ((Bool) × Unit))
  | 0, _, _, _ => none
  | m + 1, v0, v1, v5 => tr_laws_eqWriteS_5  (fun d => lo_laws_eqWriteS_5 m d.1 d.2.1 d.2.2.1) (fun d => some (.inl (d))) (fun d => some (.inr (d))) v0 v1 v5
theorem na_laws_eqWriteS_5 {R S : Type}  (NX : ((List (Int × ByteArray × Unit)) × (List (Int × ByteArray × Unit)) × (Int) × Unit) → Option R) (X2 : (Unit) → Option R) (X1 : ((Bool) × Unit) → Option R) (v0 : List (Int × ByteArray × Unit)) (v1 : List (Int × ByteArray × Unit)) (v5 : Int) (f : R → Option S) : tr_laws_eqWriteS_5  (fun d => (NX d).bind f) (fun d => (X2 d).bind f) (fun d => (X1 d).bind f) v0 v1 v5 = (tr_laws_eqWriteS_5  NX X2 X1 v0 v1 v5).bind f := by
  unfold tr_laws_eqWriteS_5
  simp only [cond_bind, ite_bind, onSum_bind, Option.bind_assoc, Option.bind_none, Option.bind_some]
noncomputable def de_laws_eqWriteS (a0 : List (Int × ByteArray × Unit)) (a1 : List (Int × ByteArray × Unit)) : Option ((((Bool) × Unit) × (Unit))) :=
  bif nI (List.length a0) != nI (List.length a1) then some ((false, ()), ())
  else Option.bind ((fun d => lo_laws_eqWriteS_5 (fu_laws_eqWriteS_5 d.1 d.2.1 d.2.2.1) d.1 d.2.1 d.2.2.1) (a0, a1, 0, ())) fun val => onSum (fun val => some ((true, ()), ())) (fun val => some ((val.fst, ()), ())) val
theorem eq_laws_eqWriteS (a0 : List (Int × ByteArray × Unit)) (a1 : List (Int × ByteArray × Unit)) r (h : m_laws_eqWriteS a0 a1 = some r) : de_laws_eqWriteS a0 a1 = some ((r, ()), (())) := by
  obtain ⟨hc, hd, rfl⟩ := eqM_some (t := .sl (.pair (.int .i64) (.pair .str .unit))) h
  obtain ⟨hlx0, hx⟩ := fineB_sl hc
  obtain ⟨hly0, hy⟩ := fineB_sl hd
  have hlx : a0.length < 1152921504606846976 := hlx0
  have hly : a1.length < 1152921504606846976 := hly0
  clear hlx0 hly0 hc hd h
  · unfold de_laws_eqWriteS
    by_cases hl : a1.length = a0.length
    · have c1 : (nI a0.length != nI a1.length) = false := by simp [nI, hl]
      have hL := eq_loop (xs := a0) (ys := a1) (0, (ByteArray.mk #[]), ()) (fun x y : Int × ByteArray × Unit => eqB (.pair (.int .i64) (.pair .str .unit)) x y) (g := fun m i => lo_laws_eqWriteS_5 m a0 a1 i) (ok := .inl ()) (bad := .inr (false, ())) hl (fun m i hi => by
        show lo_laws_eqWriteS_5 (m + 1) a0 a1 i = _
        simp only [lo_laws_eqWriteS_5, tr_laws_eqWriteS_5]
        rw [cLt hi, cLe0, cLt (show i < a1.length by omega), wI (by omega)]
        simp only [cond_true, Int.toNat_natCast]
        have f1 : fineB (.pair (.int .i64) (.pair .str .unit)) (List.getD (α := Int × ByteArray × Unit) a0 i (0, (ByteArray.mk #[]), ())) = true := hx _ (getD_mem (0, (ByteArray.mk #[]), ()) hi)
        have f2 : fineB (.pair (.int .i64) (.pair .str .unit)) (List.getD (α := Int × ByteArray × Unit) a1 i (0, (ByteArray.mk #[]), ())) = true := hy _ (getD_mem (0, (ByteArray.mk #[]), ()) (by omega))
        have hE : m_laws_eqWrite ((List.getD (α := Int × ByteArray × Unit) a0 i (0, (ByteArray.mk #[]), ())).fst, (List.getD (α := Int × ByteArray × Unit) a0 i (0, (ByteArray.mk #[]), ())).snd.fst, ()) ((List.getD (α := Int × ByteArray × Unit) a1 i (0, (ByteArray.mk #[]), ())).fst, (List.getD (α := Int × ByteArray × Unit) a1 i (0, (ByteArray.mk #[]), ())).snd.fst, ()) = some (eqB (.pair (.int .i64) (.pair .str .unit)) (List.getD (α := Int × ByteArray × Unit) a0 i (0, (ByteArray.mk #[]), ())) (List.getD (α := Int × ByteArray × Unit) a1 i (0, (ByteArray.mk #[]), ()))) := by
          exact eqM_is (t := (.pair (.int .i64) (.pair .str .unit))) (x := (List.getD (α := Int × ByteArray × Unit) a0 i (0, (ByteArray.mk #[]), ()))) (y := (List.getD (α := Int × ByteArray × Unit) a1 i (0, (ByteArray.mk #[]), ()))) f1 f2
        rw [hE]
        cases q : eqB (.pair (.int .i64) (.pair .str .unit)) (List.getD (α := Int × ByteArray × Unit) a0 i (0, (ByteArray.mk #[]), ())) (List.getD (α := Int × ByteArray × Unit) a1 i (0, (ByteArray.mk #[]), ())) <;> simp only [Option.bind_some, q] <;> rfl) (fun m => by
        show lo_laws_eqWriteS_5 (m + 1) a0 a1 a0.length = _
        simp only [lo_laws_eqWriteS_5, tr_laws_eqWriteS_5]
        rw [cLtF]
        rfl) (fu_laws_eqWriteS_5 a0 a1 0) 0 (by omega) (by simp [fu_laws_eqWriteS_5])
      rw [c1]
      have hL' : lo_laws_eqWriteS_5 (fu_laws_eqWriteS_5 a0 a1 0) a0 a1 0 = _ := hL
      show (lo_laws_eqWriteS_5 (fu_laws_eqWriteS_5 a0 a1 0) a0 a1 0).bind _ = some ((eqL (α := Int × ByteArray × Unit) (fun x y : Int × ByteArray × Unit => eqB (.pair (.int .i64) (.pair .str .unit)) x y) a0 a1, ()), ())
      rw [hL', List.drop_zero, List.drop_zero]
      cases eqL (α := Int × ByteArray × Unit) (fun x y : Int × ByteArray × Unit => eqB (.pair (.int .i64) (.pair .str .unit)) x y) a0 a1 <;> rfl
    · have c1 : (nI a0.length != nI a1.length) = true := by simp [nI]; omega
      rw [c1]
      show _ = some ((eqL (α := Int × ByteArray × Unit) (fun x y : Int × ByteArray × Unit => eqB (.pair (.int .i64) (.pair .str .unit)) x y) a0 a1, ()), ())
      rw [eqL_len (fun q => hl q.symm)]
      rfl
noncomputable def ou_laws_eqWriteS_5 {R : Type} (k : Kt R) : ((Unit) ⊕ ((Bool) × Unit)) → Option R := (onSum (fun d => k (.exit 0) (((pa_laws_eqWriteS 5).2 2).st d) (((pa_laws_eqWriteS 5).2 2).nid)) (fun d => k .ret (((pa_laws_eqWriteS 5).2 1).st d) (((pa_laws_eqWriteS 5).2 1).nid)))
noncomputable def L_laws_eqWriteS {R : Type} : Lt R pa_laws_eqWriteS := (addL (pat := pa_laws_eqWriteS) 5 (fun d k => (lo_laws_eqWriteS_5 (fu_laws_eqWriteS_5 d.1 d.2.1 d.2.2.1) d.1 d.2.1 d.2.2.1).bind (ou_laws_eqWriteS_5 k)) noL)
theorem rd_laws_eqWriteS_5 {R : Type} (nx : (pa_laws_eqWriteS 5).1.D → Kt R → Option R) (k : Kt R) (v0 : List (Int × ByteArray × Unit)) (v1 : List (Int × ByteArray × Unit)) (v5 : Int) : ev Try.prog ⟨ta_laws_eqWriteS, 0, 27, pa_laws_eqWriteS⟩ L_laws_eqWriteS co_laws_eqWriteS_5 ((pa_laws_eqWriteS 5).1.st (v0, v1, v5, ())) (pa_laws_eqWriteS 5).1.nid (roundK 0 (pa_laws_eqWriteS 5) nx k) = tr_laws_eqWriteS_5  (fun d => nx d k) (fun d => k (.exit 0) (((pa_laws_eqWriteS 5).2 2).st d) (((pa_laws_eqWriteS 5).2 2).nid)) (fun d => k .ret (((pa_laws_eqWriteS 5).2 1).st d) (((pa_laws_eqWriteS 5).2 1).nid)) v0 v1 v5 := by kernel_rfl
theorem lp_laws_eqWriteS_5 {R : Type} : ∀ (m : Nat) (d : (pa_laws_eqWriteS 5).1.D) (k : Kt R), loopN 0 (pa_laws_eqWriteS 5) (fun s nid k => ev Try.prog ⟨ta_laws_eqWriteS, 0, 27, pa_laws_eqWriteS⟩ L_laws_eqWriteS co_laws_eqWriteS_5 s nid k) m d k = (lo_laws_eqWriteS_5 m d.1 d.2.1 d.2.2.1).bind (ou_laws_eqWriteS_5 k)
  | 0, _, _ => rfl
  | m + 1, ⟨v0, v1, v5, ⟨⟩⟩, k => (rd_laws_eqWriteS_5 _ k v0 v1 v5).trans ((congrArg (fun F => tr_laws_eqWriteS_5  F (fun d => k (.exit 0) (((pa_laws_eqWriteS 5).2 2).st d) (((pa_laws_eqWriteS 5).2 2).nid)) (fun d => k .ret (((pa_laws_eqWriteS 5).2 1).st d) (((pa_laws_eqWriteS 5).2 1).nid)) v0 v1 v5) (funext fun d => lp_laws_eqWriteS_5 m d k)).trans (na_laws_eqWriteS_5 (f := ou_laws_eqWriteS_5 k)  (fun d => lo_laws_eqWriteS_5 m d.1 d.2.1 d.2.2.1) (fun d => some (.inl (d))) (fun d => some (.inr (d))) v0 v1 v5))
theorem en_laws_eqWriteS (a0 : List (Int × ByteArray × Unit)) (a1 : List (Int × ByteArray × Unit)) : evalF Try.prog ta_laws_eqWriteS pa_laws_eqWriteS sg_laws_eqWriteS Try.f112 L_laws_eqWriteS (a0, a1, ()) = de_laws_eqWriteS a0 a1 := by kernel_rfl
theorem si_laws_eqWriteS : SigsOk Try.prog ta_laws_eqWriteS := SigsOk.of fun f sd h => by
  try dsimp only [Tb.of, ta_laws_eqWriteS] at h
  split at h
  · rename_i e; subst e; cases h; exact sn_laws_eqWrite
  cases h
theorem lk_laws_eqWriteS_5 {R : Type} : LoopOk Try.prog R 27 0 pa_laws_eqWriteS L_laws_eqWriteS co_laws_eqWriteS_5 :=
  loop_key (cfg := ⟨ta_laws_eqWriteS, 0, 27, pa_laws_eqWriteS⟩) (key := 5) (by kernel_rfl) (by kernel_rfl) si_laws_eqWriteS rfl rfl (fun d k r h => ⟨fu_laws_eqWriteS_5 d.1 d.2.1 d.2.2.1, (lp_laws_eqWriteS_5 _ d k).trans h⟩) (fun c hc => by rw [show loopsIn co_laws_eqWriteS_5 = [] from by kernel_rfl] at hc; cases hc)
theorem sn_laws_eqWriteS : Callable Try.prog 112 ∧ Sound Try.prog 112 sd_laws_eqWriteS.sg sd_laws_eqWriteS.den :=
  fn_loops (pat := pa_laws_eqWriteS) L_laws_eqWriteS (by kernel_rfl) si_laws_eqWriteS Try.func112 (by kernel_rfl) (by kernel_rfl) (fun c hc => by rw [show loopsIn (bodyOf Try.f112) = [co_laws_eqWriteS_5] from by kernel_rfl] at hc; simp only [List.mem_cons, List.not_mem_nil, or_false] at hc; rcases hc with rfl <;> first | exact lk_laws_eqWriteS_5) fun x r h => by
    obtain ⟨a0, a1, ⟨⟩⟩ := x; obtain ⟨y, h1, h2⟩ := Option.bind_eq_some_iff.1 (show (m_laws_eqWriteS a0 a1).bind (fun r => some ((r, ()), (()))) = some r from h); cases h2; exact (en_laws_eqWriteS a0 a1).trans (eq_laws_eqWriteS a0 a1 _ h1)
def m_laws_eqDisk (a b : (List ByteArray) × (List (Int × ByteArray × Unit)) × Unit) : Option Bool := eqM (.pair (.sl .str) (.pair (.sl (.pair (.int .i64) (.pair .str .unit))) .unit)) a b
def sg_laws_eqDisk : Sig := ⟨[.rd (.pair (.sl .str) (.pair (.sl (.pair (.int .i64) (.pair .str .unit))) .unit)), .rd (.pair (.sl .str) (.pair (.sl (.pair (.int .i64) (.pair .str .unit))) .unit))], [some 2, some 2], [.rd .bool], [none]⟩
noncomputable def sd_laws_eqDisk : SD := ⟨sg_laws_eqDisk, fun x => (m_laws_eqDisk x.1 x.2.1).bind fun r => some ((r, ()), (()))⟩
noncomputable def ta_laws_eqDisk : Tb := Tb.of fun f => if f = 111 then some sd_laws_eqStringS else if f = 112 then some sd_laws_eqWriteS else none
def pa_laws_eqDisk : Nat → Pat × (Nat → Pat) := fun k => (⟨[], [], []⟩, fun _ => ⟨[], [], []⟩)
noncomputable def de_laws_eqDisk (a0 : (List ByteArray) × (List (Int × ByteArray × Unit)) × Unit) (a1 : (List ByteArray) × (List (Int × ByteArray × Unit)) × Unit) : Option ((((Bool) × Unit) × (Unit))) :=
  Option.bind (Option.bind (m_laws_eqStringS a0.fst a1.fst) fun val => some ((val, ()), ())) fun val =>
    bif !val.fst.fst then some ((false, ()), ())
    else Option.bind (Option.bind (m_laws_eqWriteS a0.snd.fst a1.snd.fst) fun val => some ((val, ()), ())) fun val => bif !val.fst.fst then some ((false, ()), ()) else some ((true, ()), ())
theorem eq_laws_eqDisk (a0 : (List ByteArray) × (List (Int × ByteArray × Unit)) × Unit) (a1 : (List ByteArray) × (List (Int × ByteArray × Unit)) × Unit) r (h : m_laws_eqDisk a0 a1 = some r) : de_laws_eqDisk a0 a1 = some ((r, ()), (())) := by
  obtain ⟨hc, hd, rfl⟩ := eqM_some (t := (.pair (.sl .str) (.pair (.sl (.pair (.int .i64) (.pair .str .unit))) .unit))) h
  obtain ⟨hc0, hc1, _⟩ : fineB (.sl .str) a0.1 = true ∧ fineB (.sl (.pair (.int .i64) (.pair .str .unit))) a0.2.1 = true ∧ True := by
    have s := hc
    obtain ⟨h0, s⟩ := fineB_pair s
    obtain ⟨h1, s⟩ := fineB_pair s
    exact ⟨h0, h1, trivial⟩
  obtain ⟨hd0, hd1, _⟩ : fineB (.sl .str) a1.1 = true ∧ fineB (.sl (.pair (.int .i64) (.pair .str .unit))) a1.2.1 = true ∧ True := by
    have s := hd
    obtain ⟨h0, s⟩ := fineB_pair s
    obtain ⟨h1, s⟩ := fineB_pair s
    exact ⟨h0, h1, trivial⟩
  unfold de_laws_eqDisk
  have e0 : m_laws_eqStringS a0.1 a1.1 = some (eqB (.sl .str) a0.1 a1.1) := eqM_is (t := (.sl .str)) hc0 hd0
  have e1 : m_laws_eqWriteS a0.2.1 a1.2.1 = some (eqB (.sl (.pair (.int .i64) (.pair .str .unit))) a0.2.1 a1.2.1) := eqM_is (t := (.sl (.pair (.int .i64) (.pair .str .unit)))) hc1 hd1
  simp only [e0, e1, Option.bind_some]
  show _ = some (((eqB (.sl .str) a0.1 a1.1 && (eqB (.sl (.pair (.int .i64) (.pair .str .unit))) a0.2.1 a1.2.1 && true)), ()), ())
  generalize eqB (.sl .str) a0.1 a1.1 = p0
  generalize eqB (.sl (.pair (.int .i64) (.pair .str .unit))) a0.2.1 a1.2.1 = p1
  cases p0 <;> cases p1 <;> rfl
theorem en_laws_eqDisk (a0 : (List ByteArray) × (List (Int × ByteArray × Unit)) × Unit) (a1 : (List ByteArray) × (List (Int × ByteArray × Unit)) × Unit) : evalF Try.prog ta_laws_eqDisk pa_laws_eqDisk sg_laws_eqDisk Try.f32 noL (a0, a1, ()) = de_laws_eqDisk a0 a1 := by kernel_rfl
theorem si_laws_eqDisk : SigsOk Try.prog ta_laws_eqDisk := SigsOk.of fun f sd h => by
  try dsimp only [Tb.of, ta_laws_eqDisk] at h
  split at h
  · rename_i e; subst e; cases h; exact sn_laws_eqStringS
  split at h
  · rename_i e; subst e; cases h; exact sn_laws_eqWriteS
  cases h
theorem sn_laws_eqDisk : Callable Try.prog 32 ∧ Sound Try.prog 32 sd_laws_eqDisk.sg sd_laws_eqDisk.den :=
  fn_plain (pat := pa_laws_eqDisk) (by kernel_rfl) si_laws_eqDisk Try.func32 (by kernel_rfl) (by kernel_rfl) (by kernel_rfl) fun x r h => by
    obtain ⟨a0, a1, ⟨⟩⟩ := x; obtain ⟨y, h1, h2⟩ := Option.bind_eq_some_iff.1 (show (m_laws_eqDisk a0 a1).bind (fun r => some ((r, ()), (()))) = some r from h); cases h2; exact (en_laws_eqDisk a0 a1).trans (eq_laws_eqDisk a0 a1 _ h1)
def m_laws_markText (k : Int) : Option ByteArray := if k ≤ 36028797018963968 then some (mkT k) else none
def fu_laws_markText_5 (v0 : Int) (v3 : ByteArray) : Nat := 21
def sg_laws_markText : Sig := ⟨[.rd (.int .i64)], [none], [.rd .str], [none]⟩
noncomputable def sd_laws_markText : SD := ⟨sg_laws_markText, fun x => (m_laws_markText x.1).bind fun r => some ((r, ()), (()))⟩
noncomputable def ta_laws_markText : Tb := Tb.of fun f => none
def pa_laws_markText : Nat → Pat × (Nat → Pat) := fun k => if k = 5 then (⟨[], [(0, .lf (.d (.int .i64))), (3, .lf (.d .str))], []⟩, fun e => if e = 2 then ⟨[], [(3, .lf (.d .str))], []⟩ else ⟨[], [], []⟩) else (⟨[], [], []⟩, fun _ => ⟨[], [], []⟩)
noncomputable def co_laws_markText_5 : Code := (loopsIn (bodyOf Try.f116)).getD 0 .skip
noncomputable def tr_laws_markText_5 {R : Type}  (NX : ((Int) × (ByteArray) × Unit) → Option R) (X2 : ((ByteArray) × Unit) → Option R) (v0 : Int) (v3 : ByteArray) : Option R :=
  bif decide (v0 > 0) then
    bif decide (ByteArray.size (strOfNums [IntKind.wrap IntKind.u8 (IntKind.wrap IntKind.i64 (48 + Int.tmod v0 10))]) + ByteArray.size v3 ≤ 9223372036854775807) then
      NX (IntKind.wrap IntKind.i64 (Int.tdiv v0 10), strOfNums [IntKind.wrap IntKind.u8 (IntKind.wrap IntKind.i64 (48 + Int.tmod v0 10))] ++ v3, ())
    else none
  else X2 (v3, ())
noncomputable def lo_laws_markText_5 : Nat → (Int) → (ByteArray) →  Option ((ByteArray) × Unit)
  | 0, _, _ => none
  | m + 1, v0, v3 => tr_laws_markText_5  (fun d => lo_laws_markText_5 m d.1 d.2.1) (fun d => some (d)) v0 v3
theorem na_laws_markText_5 {R S : Type}  (NX : ((Int) × (ByteArray) × Unit) → Option R) (X2 : ((ByteArray) × Unit) → Option R) (v0 : Int) (v3 : ByteArray) (f : R → Option S) : tr_laws_markText_5  (fun d => (NX d).bind f) (fun d => (X2 d).bind f) v0 v3 = (tr_laws_markText_5  NX X2 v0 v3).bind f := by
  unfold tr_laws_markText_5
  simp only [cond_bind, ite_bind, onSum_bind, Option.bind_assoc, Option.bind_none, Option.bind_some]
noncomputable def de_laws_markText (a0 : Int) : Option ((((ByteArray) × Unit) × (Unit))) :=
  bif decide (a0 ≤ 0) then some ((ByteArray.mk #[109, 48], ()), ())
  else
    Option.bind ((fun d => lo_laws_markText_5 (fu_laws_markText_5 d.1 d.2.1) d.1 d.2.1) (a0, ByteArray.mk #[], ())) fun val =>
      bif decide (ByteArray.size (ByteArray.mk #[109]) + ByteArray.size val.fst ≤ 9223372036854775807) then some ((ByteArray.mk #[109] ++ val.fst, ()), ()) else none
theorem digit_byte {k : Int} (h : 0 ≤ k) : IntKind.wrap .u8 (IntKind.wrap .i64 (48 + Int.tmod k 10)) = 48 + k % 10 := by
  rw [Int.tmod_eq_emod_of_nonneg h]
  have h1 : 0 ≤ k % 10 := Int.emod_nonneg _ (by omega)
  have h2 : k % 10 < 10 := Int.emod_lt_of_pos _ (by omega)
  have e1 : IntKind.wrap .i64 (48 + k % 10) = 48 + k % 10 := wrap_ok (by omega) (by omega)
  rw [e1]
  simp [IntKind.wrap, IntKind.bits, IntKind.signed]
  omega
theorem lo_laws_markText : ∀ (m : Nat) (k : Int) (out : ByteArray), 0 ≤ k → k ≤ 36028797018963968 → k < 10 ^ m → out.size + m ≤ 100 → lo_laws_markText_5 (m + 1) k out = some (digsGo m k out, ())
  | 0, k, out, h0, hb, h1, _ => by
    simp only [lo_laws_markText_5, tr_laws_markText_5]
    have : ¬ k > 0 := by simp at h1; omega
    rw [decide_eq_false this]
    rfl
  | m + 1, k, out, h0, hb, h1, h2 => by
    rw [lo_laws_markText_5]
    simp only [tr_laws_markText_5, digsGo]
    by_cases h : k > 0
    · have e : IntKind.wrap .i64 (Int.tdiv k 10) = k / 10 := by
        rw [Int.tdiv_eq_ediv_of_nonneg h0]
        exact wrap_ok (by omega) (by omega)
      have hs : ByteArray.size (strOfNums [48 + k % 10]) = 1 := strOfNums_size _
      have h3 : k / 10 < 10 ^ m := Int.ediv_lt_of_lt_mul (by omega) (by rw [Int.pow_succ] at h1; exact h1)
      have c : ByteArray.size (strOfNums [48 + k % 10]) + ByteArray.size out ≤ 9223372036854775807 := by rw [hs]; omega
      have ih := lo_laws_markText m (k / 10) (strOfNums [48 + k % 10] ++ out) (by omega) (by omega) h3 (by rw [ByteArray.size_append, hs]; omega)
      rw [digit_byte h0, decide_eq_true h, if_pos h, e, decide_eq_true c]
      exact ih
    · rw [decide_eq_false h, if_neg h]
      rfl
theorem digsGo_size : ∀ (m : Nat) (k : Int) (out : ByteArray), (digsGo m k out).size ≤ out.size + m
  | 0, k, out => Nat.le_refl _
  | m + 1, k, out => by
    simp only [digsGo]
    split
    · have := digsGo_size m (k / 10) (strOfNums [48 + k % 10] ++ out)
      rw [ByteArray.size_append, strOfNums_size] at this
      simp at this
      omega
    · omega
theorem eq_laws_markText (a0 : Int) r (h : m_laws_markText a0 = some r) : de_laws_markText a0 = some ((r, ()), (())) := by
  unfold m_laws_markText at h
  split at h
  · rename_i hc
    cases h
    unfold de_laws_markText mkT
    by_cases q : a0 ≤ 0
    · rw [decide_eq_true q, if_pos q]; rfl
    · rw [decide_eq_false q, if_neg q]
      have hL := lo_laws_markText 20 a0 ⟨#[]⟩ (by omega) hc (by omega) (by decide)
      have hL' : lo_laws_markText_5 (fu_laws_markText_5 a0 ⟨#[]⟩) a0 ⟨#[]⟩ = _ := hL
      show (lo_laws_markText_5 (fu_laws_markText_5 a0 ⟨#[]⟩) a0 ⟨#[]⟩).bind _ = _
      rw [hL']
      have := digsGo_size 20 a0 ⟨#[]⟩
      have h0 : ByteArray.size ⟨#[]⟩ = 0 := rfl
      have h1 : ByteArray.size ⟨#[109]⟩ = 1 := rfl
      have c : ByteArray.size ⟨#[109]⟩ + ByteArray.size (digsGo 20 a0 ⟨#[]⟩) ≤ 9223372036854775807 := by omega
      show (bif decide (ByteArray.size ⟨#[109]⟩ + ByteArray.size (digsGo 20 a0 ⟨#[]⟩) ≤ 9223372036854775807) then _ else _) = _
      rw [decide_eq_true c]
      rfl
  · cases h
noncomputable def ou_laws_markText_5 {R : Type} (k : Kt R) : ((ByteArray) × Unit) → Option R := (fun d => k (.exit 0) (((pa_laws_markText 5).2 2).st d) (((pa_laws_markText 5).2 2).nid))
noncomputable def L_laws_markText {R : Type} : Lt R pa_laws_markText := (addL (pat := pa_laws_markText) 5 (fun d k => (lo_laws_markText_5 (fu_laws_markText_5 d.1 d.2.1) d.1 d.2.1).bind (ou_laws_markText_5 k)) noL)
theorem rd_laws_markText_5 {R : Type} (nx : (pa_laws_markText 5).1.D → Kt R → Option R) (k : Kt R) (v0 : Int) (v3 : ByteArray) : ev Try.prog ⟨ta_laws_markText, 0, 20, pa_laws_markText⟩ L_laws_markText co_laws_markText_5 ((pa_laws_markText 5).1.st (v0, v3, ())) (pa_laws_markText 5).1.nid (roundK 0 (pa_laws_markText 5) nx k) = tr_laws_markText_5  (fun d => nx d k) (fun d => k (.exit 0) (((pa_laws_markText 5).2 2).st d) (((pa_laws_markText 5).2 2).nid)) v0 v3 := by kernel_rfl
theorem lp_laws_markText_5 {R : Type} : ∀ (m : Nat) (d : (pa_laws_markText 5).1.D) (k : Kt R), loopN 0 (pa_laws_markText 5) (fun s nid k => ev Try.prog ⟨ta_laws_markText, 0, 20, pa_laws_markText⟩ L_laws_markText co_laws_markText_5 s nid k) m d k = (lo_laws_markText_5 m d.1 d.2.1).bind (ou_laws_markText_5 k)
  | 0, _, _ => rfl
  | m + 1, ⟨v0, v3, ⟨⟩⟩, k => (rd_laws_markText_5 _ k v0 v3).trans ((congrArg (fun F => tr_laws_markText_5  F (fun d => k (.exit 0) (((pa_laws_markText 5).2 2).st d) (((pa_laws_markText 5).2 2).nid)) v0 v3) (funext fun d => lp_laws_markText_5 m d k)).trans (na_laws_markText_5 (f := ou_laws_markText_5 k)  (fun d => lo_laws_markText_5 m d.1 d.2.1) (fun d => some (d)) v0 v3))
theorem en_laws_markText (a0 : Int) : evalF Try.prog ta_laws_markText pa_laws_markText sg_laws_markText Try.f116 L_laws_markText (a0, ()) = de_laws_markText a0 := by kernel_rfl
theorem si_laws_markText : SigsOk Try.prog ta_laws_markText := SigsOk.of fun f sd h => by
  try dsimp only [Tb.of, ta_laws_markText] at h
  cases h
theorem lk_laws_markText_5 {R : Type} : LoopOk Try.prog R 20 0 pa_laws_markText L_laws_markText co_laws_markText_5 :=
  loop_key (cfg := ⟨ta_laws_markText, 0, 20, pa_laws_markText⟩) (key := 5) (by kernel_rfl) (by kernel_rfl) si_laws_markText rfl rfl (fun d k r h => ⟨fu_laws_markText_5 d.1 d.2.1, (lp_laws_markText_5 _ d k).trans h⟩) (fun c hc => by rw [show loopsIn co_laws_markText_5 = [] from by kernel_rfl] at hc; cases hc)
theorem sn_laws_markText : Callable Try.prog 116 ∧ Sound Try.prog 116 sd_laws_markText.sg sd_laws_markText.den :=
  fn_loops (pat := pa_laws_markText) L_laws_markText (by kernel_rfl) si_laws_markText Try.func116 (by kernel_rfl) (by kernel_rfl) (fun c hc => by rw [show loopsIn (bodyOf Try.f116) = [co_laws_markText_5] from by kernel_rfl] at hc; simp only [List.mem_cons, List.not_mem_nil, or_false] at hc; rcases hc with rfl <;> first | exact lk_laws_markText_5) fun x r h => by
    obtain ⟨a0, ⟨⟩⟩ := x; obtain ⟨y, h1, h2⟩ := Option.bind_eq_some_iff.1 (show (m_laws_markText a0).bind (fun r => some ((r, ()), (()))) = some r from h); cases h2; exact (en_laws_markText a0).trans (eq_laws_markText a0 _ h1)
def m_laws_markStringS (a : List ByteArray) (k : Int) : Option (Int × (List ByteArray)) := markM .str a k
def sg_laws_markStringS : Sig := ⟨[.mu 9 .str, .rd (.int .i64)], [none, none], [.rd (.int .i64)], [none]⟩
noncomputable def sd_laws_markStringS : SD := ⟨sg_laws_markStringS, fun x => (m_laws_markStringS x.1 x.2.1).bind fun r => some ((r.1, ()), (r.2, ()))⟩
noncomputable def ta_laws_markStringS : Tb := Tb.of fun f => if f = 116 then some sd_laws_markText else none
def pa_laws_markStringS : Nat → Pat × (Nat → Pat) := fun k => if k = 3 then (⟨[], [(0, .lf (.row 0)), (1, .lf (.d (.int .i64))), (5, .lf (.d (.int .i64)))], [.row 9 .str]⟩, fun e => if e = 2 then ⟨[], [(1, .lf (.d (.int .i64)))], [.row 9 .str]⟩ else ⟨[], [], []⟩) else (⟨[], [], []⟩, fun _ => ⟨[], [], []⟩)
noncomputable def co_laws_markStringS_3 : Code := (loopsIn (bodyOf Try.f114)).getD 0 .skip
def fu_laws_markStringS_3 (v1 : Int) (v5 : Int) (r0 : List ByteArray) : Nat := ((r0.length : Int) - v5).toNat + 1
noncomputable def tr_laws_markStringS_3 {R : Type}  (NX : ((Int) × (Int) × (List ByteArray) × Unit) → Option R) (X2 : ((Int) × (List ByteArray) × Unit) → Option R) (v1 : Int) (v5 : Int) (r0 : List ByteArray) : Option R :=
  bif decide (v5 < nI (List.length r0)) then
    Option.bind (Option.bind (m_laws_markText v1) fun val => some ((val, ()), ())) fun val =>
      bif decide (0 ≤ v5) then
        bif decide (v5 < nI (List.length r0)) then
          bif decide (Int.toNat v5 < List.length r0) then NX (IntKind.wrap IntKind.i64 (v1 + 1), IntKind.wrap IntKind.i64 (v5 + 1), List.set r0 (Int.toNat v5) val.fst.fst, ()) else none
        else none
      else none
  else X2 (v1, r0, ())
noncomputable def lo_laws_markStringS_3 : Nat → (Int) → (Int) → (List ByteArray) →  Option ((Int) × (List ByteArray) × Unit)
  | 0, _, _, _ => none
  | m + 1, v1, v5, r0 => tr_laws_markStringS_3  (fun d => lo_laws_markStringS_3 m d.1 d.2.1 d.2.2.1) (fun d => some (d)) v1 v5 r0
theorem na_laws_markStringS_3 {R S : Type}  (NX : ((Int) × (Int) × (List ByteArray) × Unit) → Option R) (X2 : ((Int) × (List ByteArray) × Unit) → Option R) (v1 : Int) (v5 : Int) (r0 : List ByteArray) (f : R → Option S) : tr_laws_markStringS_3  (fun d => (NX d).bind f) (fun d => (X2 d).bind f) v1 v5 r0 = (tr_laws_markStringS_3  NX X2 v1 v5 r0).bind f := by
  unfold tr_laws_markStringS_3
  simp only [cond_bind, ite_bind, onSum_bind, Option.bind_assoc, Option.bind_none, Option.bind_some]
noncomputable def de_laws_markStringS (a0 : List ByteArray) (a1 : Int) : Option ((((Int) × Unit) × ((List ByteArray) × Unit))) :=
  Option.bind ((fun d => lo_laws_markStringS_3 (fu_laws_markStringS_3 d.1 d.2.1 d.2.2.1) d.1 d.2.1 d.2.2.1) (a1, 0, a0, ())) fun val => some ((val.fst, ()), val.snd.fst, ())
theorem eq_laws_markStringS (a0 : List ByteArray) (a1 : Int) r (h : m_laws_markStringS a0 a1 = some r) : de_laws_markStringS a0 a1 = some ((r.1, ()), (r.2, ())) := by
  obtain ⟨g0, g1, hl0, rfl⟩ := markM_some (t := .str) h
  have hl : a0.length ≤ 1125899906842624 := hl0
  have hEE : (fun k : Int => (show ByteArray from (mkE .str k).1)) = (fun k : Int => mkT (k)) := funext fun k => by
    show mkT (k) = mkT (k)
    try simp only [Int.add_assoc, Int.add_zero]
    try rfl
  show _ = some ((a1 + (a0.length : Int) * 1, ()), (gL (fun k : Int => (show ByteArray from (mkE .str k).1)) 1 a0.length a1, ()))
  rw [hEE]
  unfold de_laws_markStringS
  have hL := mark_loop (fun k : Int => mkT (k)) 1 (n := a0.length) (K := 36028797018963000) (g := fun m k i r => lo_laws_markStringS_3 m k i r) (ok := fun k r => (k, r, ())) (fun m i k r hi hr h1 hK => by
    show lo_laws_markStringS_3 (m + 1) k i r = _
    have hK1 : k + 1 ≤ 36028797018963000 := by
      have : (1 : Int) ≤ (a0.length - i : Nat) := by omega
      omega
    rw [show lo_laws_markStringS_3 (m + 1) k i r = lo_laws_markStringS_3 (m + 1) (k + 0) i r from by rw [Int.add_zero]]
    have k0 : k = k + 0 := (Int.add_zero k).symm
    have t0 : m_laws_markText (k + 0) = some (mkT (k + 0)) := if_pos (by omega)
    have w0 : IntKind.wrap IntKind.i64 (k + 0 + 1) = k + 1 := by rw [wrap_ok (by omega) (by omega)]; omega
    have hir : i < r.length := by omega
    simp only [lo_laws_markStringS_3, tr_laws_markStringS_3]
    simp only [t0,  Option.bind_some, w0,  List.length_set, List.set_set, cLt hir, cLe0, cLtN hir, wI (show i < 4611686018427387904 by omega), cond_true, Int.toNat_natCast, getD_set hir]
    first | rfl | (rw [Int.add_zero]; rfl) | (simp only [Int.add_zero]; rfl)) (fun m k r hr => by
    show lo_laws_markStringS_3 (m + 1) k a0.length r = _
    simp only [lo_laws_markStringS_3, tr_laws_markStringS_3, hr]
    rw [cLtF]
    rfl) (fu_laws_markStringS_3 a1 0 a0) 0 a1 a0 (by omega) (by simp [fu_laws_markStringS_3]) rfl g0 (by omega)
  have hL' : lo_laws_markStringS_3 (fu_laws_markStringS_3 a1 0 a0) a1 0 a0 = _ := hL
  show (lo_laws_markStringS_3 (fu_laws_markStringS_3 a1 0 a0) a1 0 a0).bind _ = _
  rw [hL']
  rfl
noncomputable def ou_laws_markStringS_3 {R : Type} (k : Kt R) : ((Int) × (List ByteArray) × Unit) → Option R := (fun d => k (.exit 0) (((pa_laws_markStringS 3).2 2).st d) (((pa_laws_markStringS 3).2 2).nid))
noncomputable def L_laws_markStringS {R : Type} : Lt R pa_laws_markStringS := (addL (pat := pa_laws_markStringS) 3 (fun d k => (lo_laws_markStringS_3 (fu_laws_markStringS_3 d.1 d.2.1 d.2.2.1) d.1 d.2.1 d.2.2.1).bind (ou_laws_markStringS_3 k)) noL)
theorem rd_laws_markStringS_3 {R : Type} (nx : (pa_laws_markStringS 3).1.D → Kt R → Option R) (k : Kt R) (v1 : Int) (v5 : Int) (r0 : List ByteArray) : ev Try.prog ⟨ta_laws_markStringS, 1, 20, pa_laws_markStringS⟩ L_laws_markStringS co_laws_markStringS_3 ((pa_laws_markStringS 3).1.st (v1, v5, r0, ())) (pa_laws_markStringS 3).1.nid (roundK 1 (pa_laws_markStringS 3) nx k) = tr_laws_markStringS_3  (fun d => nx d k) (fun d => k (.exit 0) (((pa_laws_markStringS 3).2 2).st d) (((pa_laws_markStringS 3).2 2).nid)) v1 v5 r0 := by kernel_rfl
theorem lp_laws_markStringS_3 {R : Type} : ∀ (m : Nat) (d : (pa_laws_markStringS 3).1.D) (k : Kt R), loopN 1 (pa_laws_markStringS 3) (fun s nid k => ev Try.prog ⟨ta_laws_markStringS, 1, 20, pa_laws_markStringS⟩ L_laws_markStringS co_laws_markStringS_3 s nid k) m d k = (lo_laws_markStringS_3 m d.1 d.2.1 d.2.2.1).bind (ou_laws_markStringS_3 k)
  | 0, _, _ => rfl
  | m + 1, ⟨v1, v5, r0, ⟨⟩⟩, k => (rd_laws_markStringS_3 _ k v1 v5 r0).trans ((congrArg (fun F => tr_laws_markStringS_3  F (fun d => k (.exit 0) (((pa_laws_markStringS 3).2 2).st d) (((pa_laws_markStringS 3).2 2).nid)) v1 v5 r0) (funext fun d => lp_laws_markStringS_3 m d k)).trans (na_laws_markStringS_3 (f := ou_laws_markStringS_3 k)  (fun d => lo_laws_markStringS_3 m d.1 d.2.1 d.2.2.1) (fun d => some (d)) v1 v5 r0))
theorem en_laws_markStringS (a0 : List ByteArray) (a1 : Int) : evalF Try.prog ta_laws_markStringS pa_laws_markStringS sg_laws_markStringS Try.f114 L_laws_markStringS (a0, a1, ()) = de_laws_markStringS a0 a1 := by kernel_rfl
theorem si_laws_markStringS : SigsOk Try.prog ta_laws_markStringS := SigsOk.of fun f sd h => by
  try dsimp only [Tb.of, ta_laws_markStringS] at h
  split at h
  · rename_i e; subst e; cases h; exact sn_laws_markText
  cases h
theorem lk_laws_markStringS_3 {R : Type} : LoopOk Try.prog R 20 1 pa_laws_markStringS L_laws_markStringS co_laws_markStringS_3 :=
  loop_key (cfg := ⟨ta_laws_markStringS, 1, 20, pa_laws_markStringS⟩) (key := 3) (by kernel_rfl) (by kernel_rfl) si_laws_markStringS rfl rfl (fun d k r h => ⟨fu_laws_markStringS_3 d.1 d.2.1 d.2.2.1, (lp_laws_markStringS_3 _ d k).trans h⟩) (fun c hc => by rw [show loopsIn co_laws_markStringS_3 = [] from by kernel_rfl] at hc; cases hc)
theorem sn_laws_markStringS : Callable Try.prog 114 ∧ Sound Try.prog 114 sd_laws_markStringS.sg sd_laws_markStringS.den :=
  fn_loops (pat := pa_laws_markStringS) L_laws_markStringS (by kernel_rfl) si_laws_markStringS Try.func114 (by kernel_rfl) (by kernel_rfl) (fun c hc => by rw [show loopsIn (bodyOf Try.f114) = [co_laws_markStringS_3] from by kernel_rfl] at hc; simp only [List.mem_cons, List.not_mem_nil, or_false] at hc; rcases hc with rfl <;> first | exact lk_laws_markStringS_3) fun x r h => by
    obtain ⟨a0, a1, ⟨⟩⟩ := x; obtain ⟨y, h1, h2⟩ := Option.bind_eq_some_iff.1 (show (m_laws_markStringS a0 a1).bind (fun r => some ((r.1, ()), (r.2, ()))) = some r from h); cases h2; exact (en_laws_markStringS a0 a1).trans (eq_laws_markStringS a0 a1 _ h1)
def m_laws_markWriteS (a : List (Int × ByteArray × Unit)) (k : Int) : Option (Int × (List (Int × ByteArray × Unit))) := markM (.pair (.int .i64) (.pair .str .unit)) a k
def sg_laws_markWriteS : Sig := ⟨[.mu 148 (.pair (.int .i64) (.pair .str .unit)), .rd (.int .i64)], [none, none], [.rd (.int .i64)], [none]⟩
noncomputable def sd_laws_markWriteS : SD := ⟨sg_laws_markWriteS, fun x => (m_laws_markWriteS x.1 x.2.1).bind fun r => some ((r.1, ()), (r.2, ()))⟩
noncomputable def ta_laws_markWriteS : Tb := Tb.of fun f => if f = 116 then some sd_laws_markText else none
def pa_laws_markWriteS : Nat → Pat × (Nat → Pat) := fun k => if k = 3 then (⟨[], [(0, .lf (.row 0)), (1, .lf (.d (.int .i64))), (5, .lf (.d (.int .i64)))], [.row 148 (.pair (.int .i64) (.pair .str .unit))]⟩, fun e => if e = 2 then ⟨[], [(1, .lf (.d (.int .i64)))], [.row 148 (.pair (.int .i64) (.pair .str .unit))]⟩ else ⟨[], [], []⟩) else (⟨[], [], []⟩, fun _ => ⟨[], [], []⟩)
noncomputable def co_laws_markWriteS_3 : Code := (loopsIn (bodyOf Try.f115)).getD 0 .skip
def fu_laws_markWriteS_3 (v1 : Int) (v5 : Int) (r0 : List (Int × ByteArray × Unit)) : Nat := ((r0.length : Int) - v5).toNat + 1
noncomputable def tr_laws_markWriteS_3 {R : Type}  (NX : ((Int) × (Int) × (List (Int × ByteArray × Unit)) × Unit) → Option R) (X2 : ((Int) × (List (Int × ByteArray × Unit)) × Unit) → Option R) (v1 : Int) (v5 : Int) (r0 : List (Int × ByteArray × Unit)) : Option R :=
  bif decide (v5 < nI (List.length r0)) then
    bif decide (0 ≤ v5) then
      bif decide (v5 < nI (List.length r0)) then
        bif decide (Int.toNat v5 < List.length r0) then
          Option.bind (Option.bind (m_laws_markText (IntKind.wrap IntKind.i64 (v1 + 1))) fun val => some ((val, ()), ())) fun val =>
            bif decide (0 ≤ v5) then
              bif decide (v5 < nI (List.length (List.set r0 (Int.toNat v5) (v1, (List.getD r0 (Int.toNat v5) (0, ByteArray.mk #[], ())).snd.fst, ())))) then
                bif decide (Int.toNat v5 < List.length (List.set r0 (Int.toNat v5) (v1, (List.getD r0 (Int.toNat v5) (0, ByteArray.mk #[], ())).snd.fst, ()))) then
                  NX
                    (IntKind.wrap IntKind.i64 (IntKind.wrap IntKind.i64 (v1 + 1) + 1), IntKind.wrap IntKind.i64 (v5 + 1),
                      List.set (List.set r0 (Int.toNat v5) (v1, (List.getD r0 (Int.toNat v5) (0, ByteArray.mk #[], ())).snd.fst, ())) (Int.toNat v5)
                        ((List.getD (List.set r0 (Int.toNat v5) (v1, (List.getD r0 (Int.toNat v5) (0, ByteArray.mk #[], ())).snd.fst, ())) (Int.toNat v5) (0, ByteArray.mk #[], ())).fst, val.fst.fst,
                          ()),
                      ())
                else none
              else none
            else none
        else none
      else none
    else none
  else X2 (v1, r0, ())
noncomputable def lo_laws_markWriteS_3 : Nat → (Int) → (Int) → (List (Int × ByteArray × Unit)) →  Option ((Int) × (List (Int × ByteArray × Unit)) × Unit)
  | 0, _, _, _ => none
  | m + 1, v1, v5, r0 => tr_laws_markWriteS_3  (fun d => lo_laws_markWriteS_3 m d.1 d.2.1 d.2.2.1) (fun d => some (d)) v1 v5 r0
theorem na_laws_markWriteS_3 {R S : Type}  (NX : ((Int) × (Int) × (List (Int × ByteArray × Unit)) × Unit) → Option R) (X2 : ((Int) × (List (Int × ByteArray × Unit)) × Unit) → Option R) (v1 : Int) (v5 : Int) (r0 : List (Int × ByteArray × Unit)) (f : R → Option S) : tr_laws_markWriteS_3  (fun d => (NX d).bind f) (fun d => (X2 d).bind f) v1 v5 r0 = (tr_laws_markWriteS_3  NX X2 v1 v5 r0).bind f := by
  unfold tr_laws_markWriteS_3
  simp only [cond_bind, ite_bind, onSum_bind, Option.bind_assoc, Option.bind_none, Option.bind_some]
noncomputable def de_laws_markWriteS (a0 : List (Int × ByteArray × Unit)) (a1 : Int) : Option ((((Int) × Unit) × ((List (Int × ByteArray × Unit)) × Unit))) :=
  Option.bind ((fun d => lo_laws_markWriteS_3 (fu_laws_markWriteS_3 d.1 d.2.1 d.2.2.1) d.1 d.2.1 d.2.2.1) (a1, 0, a0, ())) fun val => some ((val.fst, ()), val.snd.fst, ())
theorem eq_laws_markWriteS (a0 : List (Int × ByteArray × Unit)) (a1 : Int) r (h : m_laws_markWriteS a0 a1 = some r) : de_laws_markWriteS a0 a1 = some ((r.1, ()), (r.2, ())) := by
  obtain ⟨g0, g1, hl0, rfl⟩ := markM_some (t := (.pair (.int .i64) (.pair .str .unit))) h
  have hl : a0.length ≤ 1125899906842624 := hl0
  have hEE : (fun k : Int => (show Int × ByteArray × Unit from (mkE (.pair (.int .i64) (.pair .str .unit)) k).1)) = (fun k : Int => (k, mkT (k + 1), ())) := funext fun k => by
    show (k, mkT (k + 1), ()) = (k, mkT (k + 1), ())
    try simp only [Int.add_assoc, Int.add_zero]
    try rfl
  show _ = some ((a1 + (a0.length : Int) * 2, ()), (gL (fun k : Int => (show Int × ByteArray × Unit from (mkE (.pair (.int .i64) (.pair .str .unit)) k).1)) 2 a0.length a1, ()))
  rw [hEE]
  unfold de_laws_markWriteS
  have hL := mark_loop (fun k : Int => (k, mkT (k + 1), ())) 2 (n := a0.length) (K := 36028797018963000) (g := fun m k i r => lo_laws_markWriteS_3 m k i r) (ok := fun k r => (k, r, ())) (fun m i k r hi hr h1 hK => by
    show lo_laws_markWriteS_3 (m + 1) k i r = _
    have hK1 : k + 2 ≤ 36028797018963000 := by
      have : (1 : Int) ≤ (a0.length - i : Nat) := by omega
      omega
    rw [show lo_laws_markWriteS_3 (m + 1) k i r = lo_laws_markWriteS_3 (m + 1) (k + 0) i r from by rw [Int.add_zero]]
    have k0 : k = k + 0 := (Int.add_zero k).symm
    have t1 : m_laws_markText (k + 1) = some (mkT (k + 1)) := if_pos (by omega)
    have w0 : IntKind.wrap IntKind.i64 (k + 0 + 1) = k + 1 := by rw [wrap_ok (by omega) (by omega)]; omega
    have w1 : IntKind.wrap IntKind.i64 (k + 1 + 1) = k + 2 := by rw [wrap_ok (by omega) (by omega)]; omega
    have hir : i < r.length := by omega
    simp only [lo_laws_markWriteS_3, tr_laws_markWriteS_3]
    simp only [t1,  Option.bind_some, w0, w1,  List.length_set, List.set_set, cLt hir, cLe0, cLtN hir, wI (show i < 4611686018427387904 by omega), cond_true, Int.toNat_natCast, getD_set hir]
    first | rfl | (rw [Int.add_zero]; rfl) | (simp only [Int.add_zero]; rfl)) (fun m k r hr => by
    show lo_laws_markWriteS_3 (m + 1) k a0.length r = _
    simp only [lo_laws_markWriteS_3, tr_laws_markWriteS_3, hr]
    rw [cLtF]
    rfl) (fu_laws_markWriteS_3 a1 0 a0) 0 a1 a0 (by omega) (by simp [fu_laws_markWriteS_3]) rfl g0 (by omega)
  have hL' : lo_laws_markWriteS_3 (fu_laws_markWriteS_3 a1 0 a0) a1 0 a0 = _ := hL
  show (lo_laws_markWriteS_3 (fu_laws_markWriteS_3 a1 0 a0) a1 0 a0).bind _ = _
  rw [hL']
  rfl
noncomputable def ou_laws_markWriteS_3 {R : Type} (k : Kt R) : ((Int) × (List (Int × ByteArray × Unit)) × Unit) → Option R := (fun d => k (.exit 0) (((pa_laws_markWriteS 3).2 2).st d) (((pa_laws_markWriteS 3).2 2).nid))
noncomputable def L_laws_markWriteS {R : Type} : Lt R pa_laws_markWriteS := (addL (pat := pa_laws_markWriteS) 3 (fun d k => (lo_laws_markWriteS_3 (fu_laws_markWriteS_3 d.1 d.2.1 d.2.2.1) d.1 d.2.1 d.2.2.1).bind (ou_laws_markWriteS_3 k)) noL)
theorem rd_laws_markWriteS_3 {R : Type} (nx : (pa_laws_markWriteS 3).1.D → Kt R → Option R) (k : Kt R) (v1 : Int) (v5 : Int) (r0 : List (Int × ByteArray × Unit)) : ev Try.prog ⟨ta_laws_markWriteS, 1, 28, pa_laws_markWriteS⟩ L_laws_markWriteS co_laws_markWriteS_3 ((pa_laws_markWriteS 3).1.st (v1, v5, r0, ())) (pa_laws_markWriteS 3).1.nid (roundK 1 (pa_laws_markWriteS 3) nx k) = tr_laws_markWriteS_3  (fun d => nx d k) (fun d => k (.exit 0) (((pa_laws_markWriteS 3).2 2).st d) (((pa_laws_markWriteS 3).2 2).nid)) v1 v5 r0 := by kernel_rfl
theorem lp_laws_markWriteS_3 {R : Type} : ∀ (m : Nat) (d : (pa_laws_markWriteS 3).1.D) (k : Kt R), loopN 1 (pa_laws_markWriteS 3) (fun s nid k => ev Try.prog ⟨ta_laws_markWriteS, 1, 28, pa_laws_markWriteS⟩ L_laws_markWriteS co_laws_markWriteS_3 s nid k) m d k = (lo_laws_markWriteS_3 m d.1 d.2.1 d.2.2.1).bind (ou_laws_markWriteS_3 k)
  | 0, _, _ => rfl
  | m + 1, ⟨v1, v5, r0, ⟨⟩⟩, k => (rd_laws_markWriteS_3 _ k v1 v5 r0).trans ((congrArg (fun F => tr_laws_markWriteS_3  F (fun d => k (.exit 0) (((pa_laws_markWriteS 3).2 2).st d) (((pa_laws_markWriteS 3).2 2).nid)) v1 v5 r0) (funext fun d => lp_laws_markWriteS_3 m d k)).trans (na_laws_markWriteS_3 (f := ou_laws_markWriteS_3 k)  (fun d => lo_laws_markWriteS_3 m d.1 d.2.1 d.2.2.1) (fun d => some (d)) v1 v5 r0))
theorem en_laws_markWriteS (a0 : List (Int × ByteArray × Unit)) (a1 : Int) : evalF Try.prog ta_laws_markWriteS pa_laws_markWriteS sg_laws_markWriteS Try.f115 L_laws_markWriteS (a0, a1, ()) = de_laws_markWriteS a0 a1 := by kernel_rfl
theorem si_laws_markWriteS : SigsOk Try.prog ta_laws_markWriteS := SigsOk.of fun f sd h => by
  try dsimp only [Tb.of, ta_laws_markWriteS] at h
  split at h
  · rename_i e; subst e; cases h; exact sn_laws_markText
  cases h
theorem lk_laws_markWriteS_3 {R : Type} : LoopOk Try.prog R 28 1 pa_laws_markWriteS L_laws_markWriteS co_laws_markWriteS_3 :=
  loop_key (cfg := ⟨ta_laws_markWriteS, 1, 28, pa_laws_markWriteS⟩) (key := 3) (by kernel_rfl) (by kernel_rfl) si_laws_markWriteS rfl rfl (fun d k r h => ⟨fu_laws_markWriteS_3 d.1 d.2.1 d.2.2.1, (lp_laws_markWriteS_3 _ d k).trans h⟩) (fun c hc => by rw [show loopsIn co_laws_markWriteS_3 = [] from by kernel_rfl] at hc; cases hc)
theorem sn_laws_markWriteS : Callable Try.prog 115 ∧ Sound Try.prog 115 sd_laws_markWriteS.sg sd_laws_markWriteS.den :=
  fn_loops (pat := pa_laws_markWriteS) L_laws_markWriteS (by kernel_rfl) si_laws_markWriteS Try.func115 (by kernel_rfl) (by kernel_rfl) (fun c hc => by rw [show loopsIn (bodyOf Try.f115) = [co_laws_markWriteS_3] from by kernel_rfl] at hc; simp only [List.mem_cons, List.not_mem_nil, or_false] at hc; rcases hc with rfl <;> first | exact lk_laws_markWriteS_3) fun x r h => by
    obtain ⟨a0, a1, ⟨⟩⟩ := x; obtain ⟨y, h1, h2⟩ := Option.bind_eq_some_iff.1 (show (m_laws_markWriteS a0 a1).bind (fun r => some ((r.1, ()), (r.2, ()))) = some r from h); cases h2; exact (en_laws_markWriteS a0 a1).trans (eq_laws_markWriteS a0 a1 _ h1)
def m_laws_markDisk (a : (List ByteArray) × (List (Int × ByteArray × Unit)) × Unit) (k : Int) : Option (Int × (List ByteArray) × (List (Int × ByteArray × Unit))) := (markM .str a.1 k).bind fun r0 => (markM (.pair (.int .i64) (.pair .str .unit)) a.2.1 r0.1).bind fun r1 =>  some (r1.1, r0.2, r1.2)
def sg_laws_markDisk : Sig := ⟨[.mu 9 .str, .mu 148 (.pair (.int .i64) (.pair .str .unit)), .rd (.int .i64)], [some 2, none], [.rd (.int .i64)], [none]⟩
noncomputable def sd_laws_markDisk : SD := ⟨sg_laws_markDisk, fun x => (m_laws_markDisk (x.1, x.2.1, ()) x.2.2.1).bind fun r => some ((r.1, ()), (r.2.1, r.2.2, ()))⟩
noncomputable def ta_laws_markDisk : Tb := Tb.of fun f => if f = 114 then some sd_laws_markStringS else if f = 115 then some sd_laws_markWriteS else none
def pa_laws_markDisk : Nat → Pat × (Nat → Pat) := fun k => (⟨[], [], []⟩, fun _ => ⟨[], [], []⟩)
noncomputable def de_laws_markDisk (a0 : List ByteArray) (a1 : List (Int × ByteArray × Unit)) (a2 : Int) : Option ((((Int) × Unit) × ((List ByteArray) × (List (Int × ByteArray × Unit)) × Unit))) :=
  Option.bind (Option.bind (m_laws_markStringS a0 a2) fun val => some ((val.fst, ()), val.snd, ())) fun val =>
    Option.bind (Option.bind (m_laws_markWriteS a1 val.fst.fst) fun val => some ((val.fst, ()), val.snd, ())) fun val_1 => some ((val_1.fst.fst, ()), val.snd.fst, val_1.snd.fst, ())
theorem eq_laws_markDisk (a0 : List ByteArray) (a1 : List (Int × ByteArray × Unit)) (a2 : Int) r (h : m_laws_markDisk (a0, a1, ()) a2 = some r) : de_laws_markDisk a0 a1 a2 = some ((r.1, ()), (r.2.1, r.2.2, ())) := by
  unfold m_laws_markDisk at h
  obtain ⟨⟨k0, x0⟩, e0, h⟩ := Option.bind_eq_some_iff.1 h
  have e0 : markM .str a0 a2 = some (k0, x0) := e0
  obtain ⟨⟨k1, x1⟩, e1, h⟩ := Option.bind_eq_some_iff.1 h
  have e1 : markM (.pair (.int .i64) (.pair .str .unit)) a1 k0 = some (k1, x1) := e1
  cases h
  unfold de_laws_markDisk
  have c0 : m_laws_markStringS a0 a2 = (some (k0, x0) : Option (Int × (List ByteArray))) := e0
  rw [c0]
  simp only [Option.bind_some]
  have c1 : m_laws_markWriteS a1 k0 = (some (k1, x1) : Option (Int × (List (Int × ByteArray × Unit)))) := e1
  rw [c1]
  simp only [Option.bind_some]
  try rfl
theorem en_laws_markDisk (a0 : List ByteArray) (a1 : List (Int × ByteArray × Unit)) (a2 : Int) : evalF Try.prog ta_laws_markDisk pa_laws_markDisk sg_laws_markDisk Try.f34 noL (a0, a1, a2, ()) = de_laws_markDisk a0 a1 a2 := by kernel_rfl
theorem si_laws_markDisk : SigsOk Try.prog ta_laws_markDisk := SigsOk.of fun f sd h => by
  try dsimp only [Tb.of, ta_laws_markDisk] at h
  split at h
  · rename_i e; subst e; cases h; exact sn_laws_markStringS
  split at h
  · rename_i e; subst e; cases h; exact sn_laws_markWriteS
  cases h
theorem sn_laws_markDisk : Callable Try.prog 34 ∧ Sound Try.prog 34 sd_laws_markDisk.sg sd_laws_markDisk.den :=
  fn_plain (pat := pa_laws_markDisk) (by kernel_rfl) si_laws_markDisk Try.func34 (by kernel_rfl) (by kernel_rfl) (by kernel_rfl) fun x r h => by
    obtain ⟨a0, a1, a2, ⟨⟩⟩ := x; obtain ⟨y, h1, h2⟩ := Option.bind_eq_some_iff.1 (show (m_laws_markDisk (a0, a1, ()) a2).bind (fun r => some ((r.1, ()), (r.2.1, r.2.2, ()))) = some r from h); cases h2; exact (en_laws_markDisk a0 a1 a2).trans (eq_laws_markDisk a0 a1 a2 _ h1)
def sg_spec_l1Width : Sig := ⟨[.rd (.int .i64)], [none], [.rd .bool], [none]⟩
noncomputable def ta_spec_l1Width : Tb := Tb.of fun f => none
def pa_spec_l1Width : Nat → Pat × (Nat → Pat) := fun k => (⟨[], [], []⟩, fun _ => ⟨[], [], []⟩)
noncomputable def de_spec_l1Width (a0 : Int) : Option ((((Bool) × Unit) × (Unit))) :=
  bif decide (a0 ≥ 1) then some ((decide (a0 ≤ 8), ()), ()) else some ((false, ()), ())
noncomputable def sd_spec_l1Width : SD := ⟨sg_spec_l1Width, fun x => de_spec_l1Width x.1⟩
theorem en_spec_l1Width (a0 : Int) : evalF Try.prog ta_spec_l1Width pa_spec_l1Width sg_spec_l1Width Try.f120 noL (a0, ()) = de_spec_l1Width a0 := by kernel_rfl
theorem si_spec_l1Width : SigsOk Try.prog ta_spec_l1Width := SigsOk.of fun f sd h => by
  try dsimp only [Tb.of, ta_spec_l1Width] at h
  cases h
theorem sn_spec_l1Width : Callable Try.prog 120 ∧ Sound Try.prog 120 sd_spec_l1Width.sg sd_spec_l1Width.den :=
  fn_plain (pat := pa_spec_l1Width) (by kernel_rfl) si_spec_l1Width Try.func120 (by kernel_rfl) (by kernel_rfl) (by kernel_rfl) fun x r h => by
    obtain ⟨a0, ⟨⟩⟩ := x; exact (en_spec_l1Width a0).trans h
def sg_spec_l1Part : Sig := ⟨[.rd (.int .i64)], [none], [.rd (.int .i64)], [none]⟩
noncomputable def ta_spec_l1Part : Tb := Tb.of fun f => none
def pa_spec_l1Part : Nat → Pat × (Nat → Pat) := fun k => (⟨[], [], []⟩, fun _ => ⟨[], [], []⟩)
noncomputable def de_spec_l1Part (a0 : Int) : Option ((((Int) × Unit) × (Unit))) :=
  some ((IntKind.wrap IntKind.i64 (IntKind.wrap IntKind.i64 (64 - a0) - 8), ()), ())
noncomputable def sd_spec_l1Part : SD := ⟨sg_spec_l1Part, fun x => de_spec_l1Part x.1⟩
theorem en_spec_l1Part (a0 : Int) : evalF Try.prog ta_spec_l1Part pa_spec_l1Part sg_spec_l1Part Try.f162 noL (a0, ()) = de_spec_l1Part a0 := by kernel_rfl
theorem si_spec_l1Part : SigsOk Try.prog ta_spec_l1Part := SigsOk.of fun f sd h => by
  try dsimp only [Tb.of, ta_spec_l1Part] at h
  cases h
theorem sn_spec_l1Part : Callable Try.prog 162 ∧ Sound Try.prog 162 sd_spec_l1Part.sg sd_spec_l1Part.den :=
  fn_plain (pat := pa_spec_l1Part) (by kernel_rfl) si_spec_l1Part Try.func162 (by kernel_rfl) (by kernel_rfl) (by kernel_rfl) fun x r h => by
    obtain ⟨a0, ⟨⟩⟩ := x; exact (en_spec_l1Part a0).trans h
def m_spec_l1Ok (p : Pg) (w : Int) : Bool := pageOk p w
def sg_spec_l1Ok : Sig := ⟨[.rd (.pair (.int .i64) (.pair (.int .i64) (.pair (.int .i64) (.pair .str .unit)))), .rd (.int .i64)], [some 4, none], [.rd .bool], [none]⟩
noncomputable def sd_spec_l1Ok : SD := ⟨sg_spec_l1Ok, fun x => some (((m_spec_l1Ok x.1 x.2.1), ()), (()))⟩
noncomputable def ta_spec_l1Ok : Tb := Tb.of fun f => if f = 120 then some sd_spec_l1Width else if f = 162 then some sd_spec_l1Part else none
def pa_spec_l1Ok : Nat → Pat × (Nat → Pat) := fun k => (⟨[], [], []⟩, fun _ => ⟨[], [], []⟩)
noncomputable def de_spec_l1Ok (a0 : Int × Int × Int × ByteArray × Unit) (a1 : Int) : Option ((((Bool) × Unit) × (Unit))) :=
  Option.bind (bif decide (a1 ≥ 1) then some ((decide (a1 ≤ 8), ()), ()) else some ((false, ()), ())) fun val =>
    bif !val.fst.fst then some ((false, ()), ())
    else
      bif decide (a0.fst < 1) then some ((false, ()), ())
      else
        bif decide (a0.fst > 4) then some ((false, ()), ())
        else
          bif decide (a0.snd.fst < 1) then some ((false, ()), ())
          else
            bif decide (a0.snd.fst > 60000) then some ((false, ()), ())
            else
              bif decide (a0.snd.snd.fst < 1) then some ((false, ()), ())
              else
                bif decide (a0.snd.snd.fst > 1000000000) then some ((false, ()), ())
                else
                  bif decide (nI (ByteArray.size a0.snd.snd.snd.fst) ≤ IntKind.wrap IntKind.i64 (IntKind.wrap IntKind.i64 (64 - a1) - 8)) then
                    bif a0.fst != 3 then some ((true, ()), ()) else some ((ByteArray.toList a0.snd.snd.snd.fst == ByteArray.toList (ByteArray.mk #[]), ()), ())
                  else some ((false, ()), ())
theorem eq_spec_l1Ok (a0 : Int × Int × Int × ByteArray × Unit) (a1 : Int) : de_spec_l1Ok a0 a1 = some (((m_spec_l1Ok a0 a1), ()), (())) := by
  unfold de_spec_l1Ok m_spec_l1Ok pageOk
  have tl : ByteArray.toList (ByteArray.mk #[]) = [] := by decide +kernel
  rw [tl]
  refine bi_ (wid a1) ?_
  show (bif !inB a1 1 8 then _ else _) = _
  cases hw : inB a1 1 8 with
  | false => rfl
  | true =>
    have k1 := of_decide_eq_true (and2 hw).1
    have k2 := of_decide_eq_true (and2 hw).2
    rw [wrap_ok (n := 64 - a1) (by omega) (by omega), wrap_ok (by omega) (by omega), show 64 - a1 - 8 = 56 - a1 by omega]
    have e : ∀ (x lo hi : Int) {ρ : Type} (f t : ρ), (bif decide (x < lo) then f else bif decide (x > hi) then f else t) = bif inB x lo hi then t else f := by
      intro x lo hi ρ f t
      unfold inB
      by_cases h1 : x < lo
      · rw [decide_eq_true h1, decide_eq_false (show ¬ lo ≤ x by omega)]; rfl
      · rw [decide_eq_false h1, decide_eq_true (show lo ≤ x by omega)]
        by_cases h2 : x > hi
        · rw [decide_eq_true h2, decide_eq_false (show ¬ x ≤ hi by omega)]; rfl
        · rw [decide_eq_false h2, decide_eq_true (show x ≤ hi by omega)]; rfl
    rw [e a0.1, e a0.2.1, e a0.2.2.1]
    cases inB a0.1 1 4 <;> cases inB a0.2.1 1 60000 <;> cases inB a0.2.2.1 1 1000000000 <;> try rfl
    show (bif decide ((ByteArray.size a0.2.2.2.1 : Int) ≤ 56 - a1) then _ else _) = _
    cases decide ((ByteArray.size a0.2.2.2.1 : Int) ≤ 56 - a1) <;> cases (a0.1 != 3) <;> rfl
theorem en_spec_l1Ok (a0 : Int × Int × Int × ByteArray × Unit) (a1 : Int) : evalF Try.prog ta_spec_l1Ok pa_spec_l1Ok sg_spec_l1Ok Try.f165 noL (a0, a1, ()) = de_spec_l1Ok a0 a1 := by kernel_rfl
theorem si_spec_l1Ok : SigsOk Try.prog ta_spec_l1Ok := SigsOk.of fun f sd h => by
  try dsimp only [Tb.of, ta_spec_l1Ok] at h
  split at h
  · rename_i e; subst e; cases h; exact sn_spec_l1Width
  split at h
  · rename_i e; subst e; cases h; exact sn_spec_l1Part
  cases h
theorem sn_spec_l1Ok : Callable Try.prog 165 ∧ Sound Try.prog 165 sd_spec_l1Ok.sg sd_spec_l1Ok.den :=
  fn_plain (pat := pa_spec_l1Ok) (by kernel_rfl) si_spec_l1Ok Try.func165 (by kernel_rfl) (by kernel_rfl) (by kernel_rfl) fun x r h => by
    obtain ⟨a0, a1, ⟨⟩⟩ := x; rw [← h]; exact (en_spec_l1Ok a0 a1).trans (eq_spec_l1Ok a0 a1)
theorem mx_spec_l1Number : ∃ f : Int → Int → Option ByteArray, f = fun v n => if 0 ≤ v ∧ v < 9223372036854775808 ∧ 0 ≤ n ∧ n ≤ 1000 then some (beS v n.toNat) else none := ⟨_, rfl⟩
noncomputable def m_spec_l1Number (v n : Int) : Option ByteArray := Classical.choose mx_spec_l1Number v n
theorem me_spec_l1Number (v n : Int) : m_spec_l1Number v n = if 0 ≤ v ∧ v < 9223372036854775808 ∧ 0 ≤ n ∧ n ≤ 1000 then some (beS v n.toNat) else none := by
  unfold m_spec_l1Number
  rw [Classical.choose_spec mx_spec_l1Number]
def fu_spec_l1Number_4 (v0 v1 : Int) (v5 : ByteArray) (v6 : Int) : Nat := (v1 - v6).toNat + 1
def sg_spec_l1Number : Sig := ⟨[.rd (.int .i64), .rd (.int .i64)], [none, none], [.rd .str], [none]⟩
noncomputable def sd_spec_l1Number : SD := ⟨sg_spec_l1Number, fun x => (m_spec_l1Number x.1 x.2.1).bind fun r => some ((r, ()), (()))⟩
noncomputable def ta_spec_l1Number : Tb := Tb.of fun f => none
def pa_spec_l1Number : Nat → Pat × (Nat → Pat) := fun k => if k = 4 then (⟨[], [(0, .lf (.d (.int .i64))), (1, .lf (.d (.int .i64))), (5, .lf (.d .str)), (6, .lf (.d (.int .i64)))], []⟩, fun e => if e = 2 then ⟨[], [(5, .lf (.d .str))], []⟩ else ⟨[], [], []⟩) else (⟨[], [], []⟩, fun _ => ⟨[], [], []⟩)
noncomputable def co_spec_l1Number_4 : Code := (loopsIn (bodyOf Try.f166)).getD 0 .skip
noncomputable def tr_spec_l1Number_4 {R : Type}  (NX : ((Int) × (Int) × (ByteArray) × (Int) × Unit) → Option R) (X2 : ((ByteArray) × Unit) → Option R) (v0 : Int) (v1 : Int) (v5 : ByteArray) (v6 : Int) : Option R :=
  bif decide (v6 < v1) then
    bif decide (ByteArray.size (strOfNums [IntKind.wrap IntKind.u8 (Int.tmod v0 256)]) + ByteArray.size v5 ≤ 9223372036854775807) then
      NX (IntKind.wrap IntKind.i64 (Int.tdiv v0 256), v1, strOfNums [IntKind.wrap IntKind.u8 (Int.tmod v0 256)] ++ v5, IntKind.wrap IntKind.i64 (v6 + 1), ())
    else none
  else X2 (v5, ())
noncomputable def lo_spec_l1Number_4 : Nat → (Int) → (Int) → (ByteArray) → (Int) →  Option ((ByteArray) × Unit)
  | 0, _, _, _, _ => none
  | m + 1, v0, v1, v5, v6 => tr_spec_l1Number_4  (fun d => lo_spec_l1Number_4 m d.1 d.2.1 d.2.2.1 d.2.2.2.1) (fun d => some (d)) v0 v1 v5 v6
theorem na_spec_l1Number_4 {R S : Type}  (NX : ((Int) × (Int) × (ByteArray) × (Int) × Unit) → Option R) (X2 : ((ByteArray) × Unit) → Option R) (v0 : Int) (v1 : Int) (v5 : ByteArray) (v6 : Int) (f : R → Option S) : tr_spec_l1Number_4  (fun d => (NX d).bind f) (fun d => (X2 d).bind f) v0 v1 v5 v6 = (tr_spec_l1Number_4  NX X2 v0 v1 v5 v6).bind f := by
  unfold tr_spec_l1Number_4
  simp only [cond_bind, ite_bind, onSum_bind, Option.bind_assoc, Option.bind_none, Option.bind_some]
noncomputable def de_spec_l1Number (a0 : Int) (a1 : Int) : Option ((((ByteArray) × Unit) × (Unit))) :=
  Option.bind ((fun d => lo_spec_l1Number_4 (fu_spec_l1Number_4 d.1 d.2.1 d.2.2.1 d.2.2.2.1) d.1 d.2.1 d.2.2.1 d.2.2.2.1) (a0, a1, ByteArray.mk #[], 0, ())) fun val => some ((val.fst, ()), ())
theorem l1Number_loop : ∀ (k m i : Nat) (v : Int) (out : ByteArray), i + k ≤ 1000 → k < m → out.size = i → 0 ≤ v → v < 9223372036854775808 → lo_spec_l1Number_4 m v ((i + k : Nat) : Int) out i = some (beS v k ++ out, ())
  | 0, m + 1, i, v, out, hi, hm, ho, h0, h1 => by
    simp only [lo_spec_l1Number_4, tr_spec_l1Number_4]
    rw [decide_eq_false (by omega), beS_zero]
    rfl
  | k + 1, m + 1, i, v, out, hi, hm, ho, h0, h1 => by
    simp only [lo_spec_l1Number_4, tr_spec_l1Number_4]
    have e1 : IntKind.wrap IntKind.u8 (Int.tmod v 256) = v % 256 := by
      rw [Int.tmod_eq_emod_of_nonneg h0]
      show v % 256 % 256 = v % 256
      omega
    have e2 : IntKind.wrap IntKind.i64 (Int.tdiv v 256) = v / 256 := by
      rw [Int.tdiv_eq_ediv_of_nonneg h0]
      exact wrap_ok (by omega) (by omega)
    rw [decide_eq_true (show (i : Int) < ((i + (k + 1) : Nat) : Int) by omega), e1, e2, decide_eq_true (show ByteArray.size (strOfNums [v % 256]) + ByteArray.size out ≤ 9223372036854775807 by rw [ho, size_strOfNums]; simp; omega), wI (show i < 4611686018427387904 by omega)]
    have hL := l1Number_loop k m (i + 1) (v / 256) (strOfNums [v % 256] ++ out) (by omega) (by omega) (by rw [ByteArray.size_append, ho, size_strOfNums]; simp; omega) (by omega) (by omega)
    rw [show i + 1 + k = i + (k + 1) by omega] at hL
    refine hL.trans ?_
    rw [← ByteArray.append_assoc, ← beS_succ]
theorem eq_spec_l1Number (a0 : Int) (a1 : Int) r (h : m_spec_l1Number a0 a1 = some r) : de_spec_l1Number a0 a1 = some ((r, ()), (())) := by
  rw [me_spec_l1Number] at h
  split at h
  · rename_i hc
    cases h
    obtain ⟨n, rfl⟩ : ∃ n : Nat, a1 = (n : Int) := ⟨a1.toNat, by omega⟩
    unfold de_spec_l1Number
    have hL := l1Number_loop n (fu_spec_l1Number_4 a0 n (ByteArray.mk #[]) 0) 0 a0 (ByteArray.mk #[]) (by omega) (by simp only [fu_spec_l1Number_4]; omega) rfl hc.1 hc.2.1
    rw [Nat.zero_add] at hL
    rw [app_z] at hL
    exact bi_ hL rfl
  · cases h
noncomputable def ou_spec_l1Number_4 {R : Type} (k : Kt R) : ((ByteArray) × Unit) → Option R := (fun d => k (.exit 0) (((pa_spec_l1Number 4).2 2).st d) (((pa_spec_l1Number 4).2 2).nid))
noncomputable def L_spec_l1Number {R : Type} : Lt R pa_spec_l1Number := (addL (pat := pa_spec_l1Number) 4 (fun d k => (lo_spec_l1Number_4 (fu_spec_l1Number_4 d.1 d.2.1 d.2.2.1 d.2.2.2.1) d.1 d.2.1 d.2.2.1 d.2.2.2.1).bind (ou_spec_l1Number_4 k)) noL)
theorem rd_spec_l1Number_4 {R : Type} (nx : (pa_spec_l1Number 4).1.D → Kt R → Option R) (k : Kt R) (v0 : Int) (v1 : Int) (v5 : ByteArray) (v6 : Int) : ev Try.prog ⟨ta_spec_l1Number, 0, 22, pa_spec_l1Number⟩ L_spec_l1Number co_spec_l1Number_4 ((pa_spec_l1Number 4).1.st (v0, v1, v5, v6, ())) (pa_spec_l1Number 4).1.nid (roundK 0 (pa_spec_l1Number 4) nx k) = tr_spec_l1Number_4  (fun d => nx d k) (fun d => k (.exit 0) (((pa_spec_l1Number 4).2 2).st d) (((pa_spec_l1Number 4).2 2).nid)) v0 v1 v5 v6 := by kernel_rfl
theorem lp_spec_l1Number_4 {R : Type} : ∀ (m : Nat) (d : (pa_spec_l1Number 4).1.D) (k : Kt R), loopN 0 (pa_spec_l1Number 4) (fun s nid k => ev Try.prog ⟨ta_spec_l1Number, 0, 22, pa_spec_l1Number⟩ L_spec_l1Number co_spec_l1Number_4 s nid k) m d k = (lo_spec_l1Number_4 m d.1 d.2.1 d.2.2.1 d.2.2.2.1).bind (ou_spec_l1Number_4 k)
  | 0, _, _ => rfl
  | m + 1, ⟨v0, v1, v5, v6, ⟨⟩⟩, k => (rd_spec_l1Number_4 _ k v0 v1 v5 v6).trans ((congrArg (fun F => tr_spec_l1Number_4  F (fun d => k (.exit 0) (((pa_spec_l1Number 4).2 2).st d) (((pa_spec_l1Number 4).2 2).nid)) v0 v1 v5 v6) (funext fun d => lp_spec_l1Number_4 m d k)).trans (na_spec_l1Number_4 (f := ou_spec_l1Number_4 k)  (fun d => lo_spec_l1Number_4 m d.1 d.2.1 d.2.2.1 d.2.2.2.1) (fun d => some (d)) v0 v1 v5 v6))
theorem en_spec_l1Number (a0 : Int) (a1 : Int) : evalF Try.prog ta_spec_l1Number pa_spec_l1Number sg_spec_l1Number Try.f166 L_spec_l1Number (a0, a1, ()) = de_spec_l1Number a0 a1 := by kernel_rfl
theorem si_spec_l1Number : SigsOk Try.prog ta_spec_l1Number := SigsOk.of fun f sd h => by
  try dsimp only [Tb.of, ta_spec_l1Number] at h
  cases h
theorem lk_spec_l1Number_4 {R : Type} : LoopOk Try.prog R 22 0 pa_spec_l1Number L_spec_l1Number co_spec_l1Number_4 :=
  loop_key (cfg := ⟨ta_spec_l1Number, 0, 22, pa_spec_l1Number⟩) (key := 4) (by kernel_rfl) (by kernel_rfl) si_spec_l1Number rfl rfl (fun d k r h => ⟨fu_spec_l1Number_4 d.1 d.2.1 d.2.2.1 d.2.2.2.1, (lp_spec_l1Number_4 _ d k).trans h⟩) (fun c hc => by rw [show loopsIn co_spec_l1Number_4 = [] from by kernel_rfl] at hc; cases hc)
theorem sn_spec_l1Number : Callable Try.prog 166 ∧ Sound Try.prog 166 sd_spec_l1Number.sg sd_spec_l1Number.den :=
  fn_loops (pat := pa_spec_l1Number) L_spec_l1Number (by kernel_rfl) si_spec_l1Number Try.func166 (by kernel_rfl) (by kernel_rfl) (fun c hc => by rw [show loopsIn (bodyOf Try.f166) = [co_spec_l1Number_4] from by kernel_rfl] at hc; simp only [List.mem_cons, List.not_mem_nil, or_false] at hc; rcases hc with rfl <;> first | exact lk_spec_l1Number_4) fun x r h => by
    obtain ⟨a0, a1, ⟨⟩⟩ := x; obtain ⟨y, h1, h2⟩ := Option.bind_eq_some_iff.1 (show (m_spec_l1Number a0 a1).bind (fun r => some ((r, ()), (()))) = some r from h); cases h2; exact (en_spec_l1Number a0 a1).trans (eq_spec_l1Number a0 a1 _ h1)
def m_spec_Sum (s : ByteArray) (w : Int) : Option ByteArray := if s.size < 4611686018427387904 then some (sumS s w) else none
def fu_spec_Sum_6 (v0 : ByteArray) (v1 v5 v6 : Int) : Nat := (nI v0.size - v6).toNat + 1
def fu_spec_Sum_11 (v1 v5 : Int) (v7 : ByteArray) (v8 : Int) : Nat := (v1 - v8).toNat + 1
def sg_spec_Sum : Sig := ⟨[.rd .str, .rd (.int .i64)], [none, none], [.rd .str], [none]⟩
noncomputable def sd_spec_Sum : SD := ⟨sg_spec_Sum, fun x => (m_spec_Sum x.1 x.2.1).bind fun r => some ((r, ()), (()))⟩
noncomputable def ta_spec_Sum : Tb := Tb.of fun f => if f = 120 then some sd_spec_l1Width else none
def pa_spec_Sum : Nat → Pat × (Nat → Pat) := fun k => if k = 6 then (⟨[], [(0, .lf (.d .str)), (1, .lf (.d (.int .i64))), (5, .lf (.d (.int .u64))), (6, .lf (.d (.int .i64)))], []⟩, fun e => if e = 2 then ⟨[], [(1, .lf (.d (.int .i64))), (5, .lf (.d (.int .u64)))], []⟩ else ⟨[], [], []⟩) else if k = 11 then (⟨[], [(1, .lf (.d (.int .i64))), (5, .lf (.d (.int .u64))), (7, .lf (.d .str)), (8, .lf (.d (.int .i64)))], []⟩, fun e => if e = 4 then ⟨[], [(7, .lf (.d .str))], []⟩ else ⟨[], [], []⟩) else (⟨[], [], []⟩, fun _ => ⟨[], [], []⟩)
noncomputable def co_spec_Sum_6 : Code := (loopsIn (bodyOf Try.f167)).getD 0 .skip
noncomputable def co_spec_Sum_11 : Code := (loopsIn (bodyOf Try.f167)).getD 1 .skip
noncomputable def tr_spec_Sum_11 {R : Type}  (NX : ((Int) × (Int) × (ByteArray) × (Int) × Unit) → Option R) (X4 : ((ByteArray) × Unit) → Option R) (v1 : Int) (v5 : Int) (v7 : ByteArray) (v8 : Int) : Option R :=
  bif decide (v8 < v1) then
    bif decide (ByteArray.size (strOfNums [IntKind.wrap IntKind.u8 (Int.tmod v5 256)]) + ByteArray.size v7 ≤ 9223372036854775807) then
      NX (v1, IntKind.wrap IntKind.u64 (Int.tdiv v5 256), strOfNums [IntKind.wrap IntKind.u8 (Int.tmod v5 256)] ++ v7, IntKind.wrap IntKind.i64 (v8 + 1), ())
    else none
  else X4 (v7, ())
noncomputable def lo_spec_Sum_11 : Nat → (Int) → (Int) → (ByteArray) → (Int) →  Option ((ByteArray) × Unit)
  | 0, _, _, _, _ => none
  | m + 1, v1, v5, v7, v8 => tr_spec_Sum_11  (fun d => lo_spec_Sum_11 m d.1 d.2.1 d.2.2.1 d.2.2.2.1) (fun d => some (d)) v1 v5 v7 v8
theorem na_spec_Sum_11 {R S : Type}  (NX : ((Int) × (Int) × (ByteArray) × (Int) × Unit) → Option R) (X4 : ((ByteArray) × Unit) → Option R) (v1 : Int) (v5 : Int) (v7 : ByteArray) (v8 : Int) (f : R → Option S) : tr_spec_Sum_11  (fun d => (NX d).bind f) (fun d => (X4 d).bind f) v1 v5 v7 v8 = (tr_spec_Sum_11  NX X4 v1 v5 v7 v8).bind f := by
  unfold tr_spec_Sum_11
  simp only [cond_bind, ite_bind, onSum_bind, Option.bind_assoc, Option.bind_none, Option.bind_some]
noncomputable def tr_spec_Sum_6 {R : Type}  (NX : ((ByteArray) × (Int) × (Int) × (Int) × Unit) → Option R) (X2 : ((Int) × (Int) × Unit) → Option R) (v0 : ByteArray) (v1 : Int) (v5 : Int) (v6 : Int) : Option R :=
  bif decide (v6 < nI (ByteArray.size v0)) then
    bif decide (0 ≤ v6) then
      bif decide (v6 < nI (ByteArray.size v0)) then
        NX
          (v0, v1, IntKind.wrap IntKind.u64 (IntKind.wrap IntKind.u64 (nI (BitVec.toNat (BitVec.ofInt 64 v5 ^^^ BitVec.ofInt 64 (IntKind.wrap IntKind.u64 (byteAt v0 v6))))) * 1099511628211),
            IntKind.wrap IntKind.i64 (v6 + 1), ())
      else none
    else none
  else X2 (v1, v5, ())
noncomputable def lo_spec_Sum_6 : Nat → (ByteArray) → (Int) → (Int) → (Int) →  Option ((Int) × (Int) × Unit)
  | 0, _, _, _, _ => none
  | m + 1, v0, v1, v5, v6 => tr_spec_Sum_6  (fun d => lo_spec_Sum_6 m d.1 d.2.1 d.2.2.1 d.2.2.2.1) (fun d => some (d)) v0 v1 v5 v6
theorem na_spec_Sum_6 {R S : Type}  (NX : ((ByteArray) × (Int) × (Int) × (Int) × Unit) → Option R) (X2 : ((Int) × (Int) × Unit) → Option R) (v0 : ByteArray) (v1 : Int) (v5 : Int) (v6 : Int) (f : R → Option S) : tr_spec_Sum_6  (fun d => (NX d).bind f) (fun d => (X2 d).bind f) v0 v1 v5 v6 = (tr_spec_Sum_6  NX X2 v0 v1 v5 v6).bind f := by
  unfold tr_spec_Sum_6
  simp only [cond_bind, ite_bind, onSum_bind, Option.bind_assoc, Option.bind_none, Option.bind_some]
noncomputable def de_spec_Sum (a0 : ByteArray) (a1 : Int) : Option ((((ByteArray) × Unit) × (Unit))) :=
  Option.bind (bif decide (a1 ≥ 1) then some ((decide (a1 ≤ 8), ()), ()) else some ((false, ()), ())) fun val =>
    bif !val.fst.fst then some ((ByteArray.mk #[], ()), ())
    else Option.bind ((fun d => lo_spec_Sum_6 (fu_spec_Sum_6 d.1 d.2.1 d.2.2.1 d.2.2.2.1) d.1 d.2.1 d.2.2.1 d.2.2.2.1) (a0, a1, 14695981039346656037, 0, ())) fun val => Option.bind ((fun d => lo_spec_Sum_11 (fu_spec_Sum_11 d.1 d.2.1 d.2.2.1 d.2.2.2.1) d.1 d.2.1 d.2.2.1 d.2.2.2.1) (val.fst, val.snd.fst, ByteArray.mk #[], 0, ())) fun val => some ((val.fst, ()), ())
theorem spSum_loop : ∀ (k m i : Nat) (v : Int) (out : ByteArray), i + k ≤ 1000 → k < m → out.size = i → U64 v → lo_spec_Sum_11 m ((i + k : Nat) : Int) v out i = some (beS v k ++ out, ())
  | 0, m + 1, i, v, out, hi, hm, ho, hv => by
    simp only [lo_spec_Sum_11, tr_spec_Sum_11]
    rw [decide_eq_false (by omega), beS_zero]
    rfl
  | k + 1, m + 1, i, v, out, hi, hm, ho, hv => by
    have h0 := hv.1
    have h1 := hv.2
    simp only [lo_spec_Sum_11, tr_spec_Sum_11]
    have e1 : IntKind.wrap IntKind.u8 (Int.tmod v 256) = v % 256 := by
      rw [Int.tmod_eq_emod_of_nonneg h0]
      show v % 256 % 256 = v % 256
      omega
    have e2 : IntKind.wrap IntKind.u64 (Int.tdiv v 256) = v / 256 := by
      rw [Int.tdiv_eq_ediv_of_nonneg h0, wrapU]
      omega
    rw [decide_eq_true (show (i : Int) < ((i + (k + 1) : Nat) : Int) by omega), e1, e2, decide_eq_true (show ByteArray.size (strOfNums [v % 256]) + ByteArray.size out ≤ 9223372036854775807 by rw [ho, size_strOfNums]; simp; omega), wI (show i < 4611686018427387904 by omega)]
    have hL := spSum_loop k m (i + 1) (v / 256) (strOfNums [v % 256] ++ out) (by omega) (by omega) (by rw [ByteArray.size_append, ho, size_strOfNums]; simp; omega) ⟨by omega, by omega⟩
    rw [show i + 1 + k = i + (k + 1) by omega] at hL
    refine hL.trans ?_
    rw [← ByteArray.append_assoc, ← beS_succ]
theorem eq_spec_Sum (a0 : ByteArray) (a1 : Int) r (h : m_spec_Sum a0 a1 = some r) : de_spec_Sum a0 a1 = some ((r, ()), (())) := by
  unfold m_spec_Sum at h
  split at h
  rotate_left
  · cases h
  rename_i hsz
  cases h
  unfold de_spec_Sum sumS
  generalize hC : (14695981039346656037 : Int) = C
  have h0 : U64 C := by rw [← hC]; exact ⟨by decide, by decide⟩
  refine bi_ (wid a1) ?_
  show (bif !inB a1 1 8 then _ else _) = _
  cases hw : inB a1 1 8 with
  | false => rfl
  | true =>
    have k1 := of_decide_eq_true (and2 hw).1
    have k2 := of_decide_eq_true (and2 hw).2
    · simp only [Bool.not_true, cond_false, cond_true]
      have hL := up_loop a0.size (fun _ _ => True) (fun i h => hashStep h (byteAt a0 i)) (g := fun m i h => lo_spec_Sum_6 m a0 a1 h i) (ok := fun h => (a1, h, ())) (fun m i h hi _ => by
        show lo_spec_Sum_6 (m + 1) a0 a1 h i = _
        simp only [lo_spec_Sum_6, tr_spec_Sum_6]
        have c1 : (i : Int) < nI a0.size := by simp only [nI]; omega
        rw [decide_eq_true c1, cLe0, wI (show i < 4611686018427387904 by omega)]
        rfl) (fun m h _ => by
        show lo_spec_Sum_6 (m + 1) a0 a1 h a0.size = _
        simp only [lo_spec_Sum_6, tr_spec_Sum_6]
        rw [decide_eq_false (show ¬ ((a0.size : Int) < nI a0.size) by simp only [nI]; omega)]
        rfl) (fun _ _ _ _ => trivial) a0.size (fu_spec_Sum_6 a0 a1 C 0) 0 C (by omega) (by simp only [fu_spec_Sum_6, nI]; omega) trivial
      rw [show ((0 : Nat) : Int) = 0 from rfl] at hL
      refine bi_ hL ?_
      obtain ⟨n, rfl⟩ : ∃ n : Nat, a1 = (n : Int) := ⟨a1.toNat, by omega⟩
      have hM := spSum_loop n (fu_spec_Sum_11 n (hashGo a0 a0.size 0 C) (ByteArray.mk #[]) 0) 0 (hashGo a0 a0.size 0 C) (ByteArray.mk #[]) (by omega) (by simp only [fu_spec_Sum_11]; omega) rfl (hash_in a0 _ _ h0)
      rw [Nat.zero_add, app_z] at hM
      exact bi_ hM rfl
noncomputable def ou_spec_Sum_6 {R : Type} (k : Kt R) : ((Int) × (Int) × Unit) → Option R := (fun d => k (.exit 0) (((pa_spec_Sum 6).2 2).st d) (((pa_spec_Sum 6).2 2).nid))
noncomputable def ou_spec_Sum_11 {R : Type} (k : Kt R) : ((ByteArray) × Unit) → Option R := (fun d => k (.exit 2) (((pa_spec_Sum 11).2 4).st d) (((pa_spec_Sum 11).2 4).nid))
noncomputable def L_spec_Sum {R : Type} : Lt R pa_spec_Sum := (addL (pat := pa_spec_Sum) 6 (fun d k => (lo_spec_Sum_6 (fu_spec_Sum_6 d.1 d.2.1 d.2.2.1 d.2.2.2.1) d.1 d.2.1 d.2.2.1 d.2.2.2.1).bind (ou_spec_Sum_6 k)) (addL (pat := pa_spec_Sum) 11 (fun d k => (lo_spec_Sum_11 (fu_spec_Sum_11 d.1 d.2.1 d.2.2.1 d.2.2.2.1) d.1 d.2.1 d.2.2.1 d.2.2.2.1).bind (ou_spec_Sum_11 k)) noL))
theorem rd_spec_Sum_11 {R : Type} (nx : (pa_spec_Sum 11).1.D → Kt R → Option R) (k : Kt R) (v1 : Int) (v5 : Int) (v7 : ByteArray) (v8 : Int) : ev Try.prog ⟨ta_spec_Sum, 0, 40, pa_spec_Sum⟩ L_spec_Sum co_spec_Sum_11 ((pa_spec_Sum 11).1.st (v1, v5, v7, v8, ())) (pa_spec_Sum 11).1.nid (roundK 0 (pa_spec_Sum 11) nx k) = tr_spec_Sum_11  (fun d => nx d k) (fun d => k (.exit 2) (((pa_spec_Sum 11).2 4).st d) (((pa_spec_Sum 11).2 4).nid)) v1 v5 v7 v8 := by kernel_rfl
theorem lp_spec_Sum_11 {R : Type} : ∀ (m : Nat) (d : (pa_spec_Sum 11).1.D) (k : Kt R), loopN 0 (pa_spec_Sum 11) (fun s nid k => ev Try.prog ⟨ta_spec_Sum, 0, 40, pa_spec_Sum⟩ L_spec_Sum co_spec_Sum_11 s nid k) m d k = (lo_spec_Sum_11 m d.1 d.2.1 d.2.2.1 d.2.2.2.1).bind (ou_spec_Sum_11 k)
  | 0, _, _ => rfl
  | m + 1, ⟨v1, v5, v7, v8, ⟨⟩⟩, k => (rd_spec_Sum_11 _ k v1 v5 v7 v8).trans ((congrArg (fun F => tr_spec_Sum_11  F (fun d => k (.exit 2) (((pa_spec_Sum 11).2 4).st d) (((pa_spec_Sum 11).2 4).nid)) v1 v5 v7 v8) (funext fun d => lp_spec_Sum_11 m d k)).trans (na_spec_Sum_11 (f := ou_spec_Sum_11 k)  (fun d => lo_spec_Sum_11 m d.1 d.2.1 d.2.2.1 d.2.2.2.1) (fun d => some (d)) v1 v5 v7 v8))
theorem rd_spec_Sum_6 {R : Type} (nx : (pa_spec_Sum 6).1.D → Kt R → Option R) (k : Kt R) (v0 : ByteArray) (v1 : Int) (v5 : Int) (v6 : Int) : ev Try.prog ⟨ta_spec_Sum, 0, 40, pa_spec_Sum⟩ L_spec_Sum co_spec_Sum_6 ((pa_spec_Sum 6).1.st (v0, v1, v5, v6, ())) (pa_spec_Sum 6).1.nid (roundK 0 (pa_spec_Sum 6) nx k) = tr_spec_Sum_6  (fun d => nx d k) (fun d => k (.exit 0) (((pa_spec_Sum 6).2 2).st d) (((pa_spec_Sum 6).2 2).nid)) v0 v1 v5 v6 := by kernel_rfl
theorem lp_spec_Sum_6 {R : Type} : ∀ (m : Nat) (d : (pa_spec_Sum 6).1.D) (k : Kt R), loopN 0 (pa_spec_Sum 6) (fun s nid k => ev Try.prog ⟨ta_spec_Sum, 0, 40, pa_spec_Sum⟩ L_spec_Sum co_spec_Sum_6 s nid k) m d k = (lo_spec_Sum_6 m d.1 d.2.1 d.2.2.1 d.2.2.2.1).bind (ou_spec_Sum_6 k)
  | 0, _, _ => rfl
  | m + 1, ⟨v0, v1, v5, v6, ⟨⟩⟩, k => (rd_spec_Sum_6 _ k v0 v1 v5 v6).trans ((congrArg (fun F => tr_spec_Sum_6  F (fun d => k (.exit 0) (((pa_spec_Sum 6).2 2).st d) (((pa_spec_Sum 6).2 2).nid)) v0 v1 v5 v6) (funext fun d => lp_spec_Sum_6 m d k)).trans (na_spec_Sum_6 (f := ou_spec_Sum_6 k)  (fun d => lo_spec_Sum_6 m d.1 d.2.1 d.2.2.1 d.2.2.2.1) (fun d => some (d)) v0 v1 v5 v6))
theorem en_spec_Sum (a0 : ByteArray) (a1 : Int) : evalF Try.prog ta_spec_Sum pa_spec_Sum sg_spec_Sum Try.f167 L_spec_Sum (a0, a1, ()) = de_spec_Sum a0 a1 := by kernel_rfl
theorem si_spec_Sum : SigsOk Try.prog ta_spec_Sum := SigsOk.of fun f sd h => by
  try dsimp only [Tb.of, ta_spec_Sum] at h
  split at h
  · rename_i e; subst e; cases h; exact sn_spec_l1Width
  cases h
theorem lk_spec_Sum_11 {R : Type} : LoopOk Try.prog R 40 0 pa_spec_Sum L_spec_Sum co_spec_Sum_11 :=
  loop_key (cfg := ⟨ta_spec_Sum, 0, 40, pa_spec_Sum⟩) (key := 11) (by kernel_rfl) (by kernel_rfl) si_spec_Sum rfl rfl (fun d k r h => ⟨fu_spec_Sum_11 d.1 d.2.1 d.2.2.1 d.2.2.2.1, (lp_spec_Sum_11 _ d k).trans h⟩) (fun c hc => by rw [show loopsIn co_spec_Sum_11 = [] from by kernel_rfl] at hc; cases hc)
theorem lk_spec_Sum_6 {R : Type} : LoopOk Try.prog R 40 0 pa_spec_Sum L_spec_Sum co_spec_Sum_6 :=
  loop_key (cfg := ⟨ta_spec_Sum, 0, 40, pa_spec_Sum⟩) (key := 6) (by kernel_rfl) (by kernel_rfl) si_spec_Sum rfl rfl (fun d k r h => ⟨fu_spec_Sum_6 d.1 d.2.1 d.2.2.1 d.2.2.2.1, (lp_spec_Sum_6 _ d k).trans h⟩) (fun c hc => by rw [show loopsIn co_spec_Sum_6 = [] from by kernel_rfl] at hc; cases hc)
theorem sn_spec_Sum : Callable Try.prog 167 ∧ Sound Try.prog 167 sd_spec_Sum.sg sd_spec_Sum.den :=
  fn_loops (pat := pa_spec_Sum) L_spec_Sum (by kernel_rfl) si_spec_Sum Try.func167 (by kernel_rfl) (by kernel_rfl) (fun c hc => by rw [show loopsIn (bodyOf Try.f167) = [co_spec_Sum_6, co_spec_Sum_11] from by kernel_rfl] at hc; simp only [List.mem_cons, List.not_mem_nil, or_false] at hc; rcases hc with rfl | rfl <;> first | exact lk_spec_Sum_6 | exact lk_spec_Sum_11) fun x r h => by
    obtain ⟨a0, a1, ⟨⟩⟩ := x; obtain ⟨y, h1, h2⟩ := Option.bind_eq_some_iff.1 (show (m_spec_Sum a0 a1).bind (fun r => some ((r, ()), (()))) = some r from h); cases h2; exact (en_spec_Sum a0 a1).trans (eq_spec_Sum a0 a1 _ h1)
def m_spec_FormPage (p : Pg) (w : Int) : ByteArray := pageS p w
def fu_spec_FormPage_5 (v1 : Int) (v5 : ByteArray) : Nat := (64 - v1 - nI v5.size).toNat + 1
def sg_spec_FormPage : Sig := ⟨[.rd (.pair (.int .i64) (.pair (.int .i64) (.pair (.int .i64) (.pair .str .unit)))), .rd (.int .i64)], [some 4, none], [.rd .str], [none]⟩
noncomputable def sd_spec_FormPage : SD := ⟨sg_spec_FormPage, fun x => some (((m_spec_FormPage x.1 x.2.1), ()), (()))⟩
noncomputable def ta_spec_FormPage : Tb := Tb.of fun f => if f = 165 then some sd_spec_l1Ok else if f = 166 then some sd_spec_l1Number else if f = 167 then some sd_spec_Sum else none
def pa_spec_FormPage : Nat → Pat × (Nat → Pat) := fun k => if k = 5 then (⟨[], [(1, .lf (.d (.int .i64))), (5, .lf (.d .str))], []⟩, fun e => if e = 2 then ⟨[], [(1, .lf (.d (.int .i64))), (5, .lf (.d .str))], []⟩ else ⟨[], [], []⟩) else (⟨[], [], []⟩, fun _ => ⟨[], [], []⟩)
noncomputable def co_spec_FormPage_5 : Code := (loopsIn (bodyOf Try.f79)).getD 0 .skip
noncomputable def tr_spec_FormPage_5 {R : Type}  (NX : ((Int) × (ByteArray) × Unit) → Option R) (X2 : ((Int) × (ByteArray) × Unit) → Option R) (v1 : Int) (v5 : ByteArray) : Option R :=
  bif decide (IntKind.wrap IntKind.i64 (nI (ByteArray.size v5) + v1) < 64) then
    bif decide (ByteArray.size v5 + ByteArray.size (ByteArray.mk #[0]) ≤ 9223372036854775807) then NX (v1, v5 ++ ByteArray.mk #[0], ()) else none
  else X2 (v1, v5, ())
noncomputable def lo_spec_FormPage_5 : Nat → (Int) → (ByteArray) →  Option ((Int) × (ByteArray) × Unit)
  | 0, _, _ => none
  | m + 1, v1, v5 => tr_spec_FormPage_5  (fun d => lo_spec_FormPage_5 m d.1 d.2.1) (fun d => some (d)) v1 v5
theorem na_spec_FormPage_5 {R S : Type}  (NX : ((Int) × (ByteArray) × Unit) → Option R) (X2 : ((Int) × (ByteArray) × Unit) → Option R) (v1 : Int) (v5 : ByteArray) (f : R → Option S) : tr_spec_FormPage_5  (fun d => (NX d).bind f) (fun d => (X2 d).bind f) v1 v5 = (tr_spec_FormPage_5  NX X2 v1 v5).bind f := by
  unfold tr_spec_FormPage_5
  simp only [cond_bind, ite_bind, onSum_bind, Option.bind_assoc, Option.bind_none, Option.bind_some]
noncomputable def de_spec_FormPage (a0 : Int × Int × Int × ByteArray × Unit) (a1 : Int) : Option ((((ByteArray) × Unit) × (Unit))) :=
  bif !m_spec_l1Ok (a0.fst, a0.snd.fst, a0.snd.snd.fst, a0.snd.snd.snd.fst, ()) a1 then some ((ByteArray.mk #[], ()), ())
  else
    Option.bind (Option.bind (m_spec_l1Number a0.fst 1) fun val => some ((val, ()), ())) fun val =>
      Option.bind (Option.bind (m_spec_l1Number a0.snd.fst 2) fun val => some ((val, ()), ())) fun val_1 =>
        bif decide (ByteArray.size val.fst.fst + ByteArray.size val_1.fst.fst ≤ 9223372036854775807) then
          Option.bind (Option.bind (m_spec_l1Number a0.snd.snd.fst 4) fun val => some ((val, ()), ())) fun val_2 =>
            bif decide (ByteArray.size (val.fst.fst ++ val_1.fst.fst) + ByteArray.size val_2.fst.fst ≤ 9223372036854775807) then
              Option.bind (Option.bind (m_spec_l1Number (nI (ByteArray.size a0.snd.snd.snd.fst)) 1) fun val => some ((val, ()), ())) fun val_3 =>
                bif decide (ByteArray.size (val.fst.fst ++ val_1.fst.fst ++ val_2.fst.fst) + ByteArray.size val_3.fst.fst ≤ 9223372036854775807) then
                  bif decide (ByteArray.size (val.fst.fst ++ val_1.fst.fst ++ val_2.fst.fst ++ val_3.fst.fst) + ByteArray.size a0.snd.snd.snd.fst ≤ 9223372036854775807) then
                    Option.bind ((fun d => lo_spec_FormPage_5 (fu_spec_FormPage_5 d.1 d.2.1) d.1 d.2.1) (a1, val.fst.fst ++ val_1.fst.fst ++ val_2.fst.fst ++ val_3.fst.fst ++ a0.snd.snd.snd.fst, ())) fun val =>
                      Option.bind (Option.bind (m_spec_Sum val.snd.fst val.fst) fun val => some ((val, ()), ())) fun val_4 =>
                        bif decide (ByteArray.size val_4.fst.fst + ByteArray.size val.snd.fst ≤ 9223372036854775807) then some ((val_4.fst.fst ++ val.snd.fst, ()), ()) else none
                  else none
                else none
            else none
        else none
theorem pad_loop (w : Int) : ∀ (k m : Nat) (b : ByteArray), (b.size : Int) + w + k = 64 → 0 ≤ w → k < m → lo_spec_FormPage_5 m w b = some (w, b ++ strOfNums (List.replicate k 0), ())
  | 0, m + 1, b, h, h0, hm => by
    simp only [lo_spec_FormPage_5, tr_spec_FormPage_5]
    rw [wrap_ok (by simp only [nI]; omega) (by simp only [nI]; omega), decide_eq_false (show ¬ (nI b.size + w < 64) by simp only [nI]; omega), show strOfNums (List.replicate 0 0) = ByteArray.mk #[] from rfl, app_z]
    rfl
  | k + 1, m + 1, b, h, h0, hm => by
    simp only [lo_spec_FormPage_5, tr_spec_FormPage_5]
    have hz : (ByteArray.mk #[0]).size = 1 := rfl
    rw [wrap_ok (by simp only [nI]; omega) (by simp only [nI]; omega), decide_eq_true (show nI b.size + w < 64 by simp only [nI]; omega), hz, decide_eq_true (show b.size + 1 ≤ 9223372036854775807 by omega)]
    have := pad_loop w k m (b ++ ByteArray.mk #[0]) (by rw [ByteArray.size_append, hz]; omega) h0 (by omega)
    refine this.trans ?_
    rw [ByteArray.append_assoc, show ByteArray.mk #[0] = strOfNums [0] from rfl, ← strOfNums_app]
    rfl
theorem eq_spec_FormPage (a0 : Int × Int × Int × ByteArray × Unit) (a1 : Int) : de_spec_FormPage a0 a1 = some (((m_spec_FormPage a0 a1), ()), (())) := by
  unfold de_spec_FormPage m_spec_FormPage pageS
  show (bif !pageOk a0 a1 then _ else _) = _
  cases hp : pageOk a0 a1 with
  | false => rfl
  | true =>
    obtain ⟨hw, k1, k2, kp⟩ := pageOk_w hp
    obtain ⟨r1, r2, r3⟩ := pageOk_r hp
    have n1 : m_spec_l1Number a0.1 1 = some (beS a0.1 1) := (me_spec_l1Number _ _).trans (if_pos (by omega))
    have n2 : m_spec_l1Number a0.2.1 2 = some (beS a0.2.1 2) := (me_spec_l1Number _ _).trans (if_pos (by omega))
    have n3 : m_spec_l1Number a0.2.2.1 4 = some (beS a0.2.2.1 4) := (me_spec_l1Number _ _).trans (if_pos (by omega))
    have n4 : m_spec_l1Number (nI a0.2.2.2.1.size) 1 = some (beS (nI a0.2.2.2.1.size) 1) := (me_spec_l1Number _ _).trans (if_pos (by simp only [nI]; omega))
    simp only [Bool.not_true, cond_false, cond_true, n1, n2, n3, n4, Option.bind_some]
    have hb : bodyS a0 a1 = beS a0.1 1 ++ beS a0.2.1 2 ++ beS a0.2.2.1 4 ++ beS (nI a0.2.2.2.1.size) 1 ++ a0.2.2.2.1 ++ strOfNums (List.replicate (56 - a1 - a0.2.2.2.1.size).toNat 0) := rfl
    have hs4 : (beS a0.1 1 ++ beS a0.2.1 2 ++ beS a0.2.2.1 4 ++ beS (nI a0.2.2.2.1.size) 1).size = 8 := by simp only [ByteArray.size_append, beS_size]
    have hs3 : (beS a0.1 1 ++ beS a0.2.1 2 ++ beS a0.2.2.1 4).size = 7 := by simp only [ByteArray.size_append, beS_size]
    have hs2 : (beS a0.1 1 ++ beS a0.2.1 2).size = 3 := by simp only [ByteArray.size_append, beS_size]
    have hs5 : (beS a0.1 1 ++ beS a0.2.1 2 ++ beS a0.2.2.1 4 ++ beS (nI a0.2.2.2.1.size) 1 ++ a0.2.2.2.1).size = 8 + a0.2.2.2.1.size := by rw [ByteArray.size_append, hs4]
    rw [hs4, hs3, hs2, beS_size, beS_size, beS_size, beS_size, decide_eq_true (show 1 + 2 ≤ 9223372036854775807 by decide), decide_eq_true (show 3 + 4 ≤ 9223372036854775807 by decide), decide_eq_true (show 7 + 1 ≤ 9223372036854775807 by decide), decide_eq_true (show 8 + a0.2.2.2.1.size ≤ 9223372036854775807 by omega)]
    simp only [cond_true]
    generalize hB : beS a0.1 1 ++ beS a0.2.1 2 ++ beS a0.2.2.1 4 ++ beS (nI a0.2.2.2.1.size) 1 ++ a0.2.2.2.1 = B at *
    have hL := pad_loop a1 (56 - a1 - a0.2.2.2.1.size).toNat (fu_spec_FormPage_5 a1 B) B (by rw [hs5]; omega) (by omega) (by simp only [fu_spec_FormPage_5, nI, hs5]; omega)
    have hz : (strOfNums (List.replicate (56 - a1 - a0.2.2.2.1.size).toNat 0)).size = (56 - a1 - a0.2.2.2.1.size).toNat := by rw [size_strOfNums, List.length_replicate]
    rw [← hb] at hL
    have hbs : (bodyS a0 a1).size ≤ 64 := by rw [hb, ByteArray.size_append, hs5, hz]; omega
    have hm : m_spec_Sum (bodyS a0 a1) a1 = some (sumS (bodyS a0 a1) a1) := if_pos (by omega)
    refine bi_ hL (bi_ (bi_ hm rfl) ?_)
    show (bif decide (ByteArray.size (sumS (bodyS a0 a1) a1) + ByteArray.size (bodyS a0 a1) ≤ 9223372036854775807) then some ((sumS (bodyS a0 a1) a1 ++ bodyS a0 a1, ()), ()) else none) = _
    rw [sumS_size hw, decide_eq_true (by omega)]
    rfl
noncomputable def ou_spec_FormPage_5 {R : Type} (k : Kt R) : ((Int) × (ByteArray) × Unit) → Option R := (fun d => k (.exit 0) (((pa_spec_FormPage 5).2 2).st d) (((pa_spec_FormPage 5).2 2).nid))
noncomputable def L_spec_FormPage {R : Type} : Lt R pa_spec_FormPage := (addL (pat := pa_spec_FormPage) 5 (fun d k => (lo_spec_FormPage_5 (fu_spec_FormPage_5 d.1 d.2.1) d.1 d.2.1).bind (ou_spec_FormPage_5 k)) noL)
theorem rd_spec_FormPage_5 {R : Type} (nx : (pa_spec_FormPage 5).1.D → Kt R → Option R) (k : Kt R) (v1 : Int) (v5 : ByteArray) : ev Try.prog ⟨ta_spec_FormPage, 0, 41, pa_spec_FormPage⟩ L_spec_FormPage co_spec_FormPage_5 ((pa_spec_FormPage 5).1.st (v1, v5, ())) (pa_spec_FormPage 5).1.nid (roundK 0 (pa_spec_FormPage 5) nx k) = tr_spec_FormPage_5  (fun d => nx d k) (fun d => k (.exit 0) (((pa_spec_FormPage 5).2 2).st d) (((pa_spec_FormPage 5).2 2).nid)) v1 v5 := by kernel_rfl
theorem lp_spec_FormPage_5 {R : Type} : ∀ (m : Nat) (d : (pa_spec_FormPage 5).1.D) (k : Kt R), loopN 0 (pa_spec_FormPage 5) (fun s nid k => ev Try.prog ⟨ta_spec_FormPage, 0, 41, pa_spec_FormPage⟩ L_spec_FormPage co_spec_FormPage_5 s nid k) m d k = (lo_spec_FormPage_5 m d.1 d.2.1).bind (ou_spec_FormPage_5 k)
  | 0, _, _ => rfl
  | m + 1, ⟨v1, v5, ⟨⟩⟩, k => (rd_spec_FormPage_5 _ k v1 v5).trans ((congrArg (fun F => tr_spec_FormPage_5  F (fun d => k (.exit 0) (((pa_spec_FormPage 5).2 2).st d) (((pa_spec_FormPage 5).2 2).nid)) v1 v5) (funext fun d => lp_spec_FormPage_5 m d k)).trans (na_spec_FormPage_5 (f := ou_spec_FormPage_5 k)  (fun d => lo_spec_FormPage_5 m d.1 d.2.1) (fun d => some (d)) v1 v5))
theorem en_spec_FormPage (a0 : Int × Int × Int × ByteArray × Unit) (a1 : Int) : evalF Try.prog ta_spec_FormPage pa_spec_FormPage sg_spec_FormPage Try.f79 L_spec_FormPage (a0, a1, ()) = de_spec_FormPage a0 a1 := by kernel_rfl
theorem si_spec_FormPage : SigsOk Try.prog ta_spec_FormPage := SigsOk.of fun f sd h => by
  try dsimp only [Tb.of, ta_spec_FormPage] at h
  split at h
  · rename_i e; subst e; cases h; exact sn_spec_l1Ok
  split at h
  · rename_i e; subst e; cases h; exact sn_spec_l1Number
  split at h
  · rename_i e; subst e; cases h; exact sn_spec_Sum
  cases h
theorem lk_spec_FormPage_5 {R : Type} : LoopOk Try.prog R 41 0 pa_spec_FormPage L_spec_FormPage co_spec_FormPage_5 :=
  loop_key (cfg := ⟨ta_spec_FormPage, 0, 41, pa_spec_FormPage⟩) (key := 5) (by kernel_rfl) (by kernel_rfl) si_spec_FormPage rfl rfl (fun d k r h => ⟨fu_spec_FormPage_5 d.1 d.2.1, (lp_spec_FormPage_5 _ d k).trans h⟩) (fun c hc => by rw [show loopsIn co_spec_FormPage_5 = [] from by kernel_rfl] at hc; cases hc)
theorem sn_spec_FormPage : Callable Try.prog 79 ∧ Sound Try.prog 79 sd_spec_FormPage.sg sd_spec_FormPage.den :=
  fn_loops (pat := pa_spec_FormPage) L_spec_FormPage (by kernel_rfl) si_spec_FormPage Try.func79 (by kernel_rfl) (by kernel_rfl) (fun c hc => by rw [show loopsIn (bodyOf Try.f79) = [co_spec_FormPage_5] from by kernel_rfl] at hc; simp only [List.mem_cons, List.not_mem_nil, or_false] at hc; rcases hc with rfl <;> first | exact lk_spec_FormPage_5) fun x r h => by
    obtain ⟨a0, a1, ⟨⟩⟩ := x; rw [← h]; exact (en_spec_FormPage a0 a1).trans (eq_spec_FormPage a0 a1)
def m_spec_l1Read (s : ByteArray) : Option Int := if s.size ≤ 7 then some (numS s) else none
def fu_spec_l1Read_4 (v0 : ByteArray) (v3 v4 : Int) : Nat := (nI v0.size - v4).toNat + 1
def sg_spec_l1Read : Sig := ⟨[.rd .str], [none], [.rd (.int .i64)], [none]⟩
noncomputable def sd_spec_l1Read : SD := ⟨sg_spec_l1Read, fun x => (m_spec_l1Read x.1).bind fun r => some ((r, ()), (()))⟩
noncomputable def ta_spec_l1Read : Tb := Tb.of fun f => none
def pa_spec_l1Read : Nat → Pat × (Nat → Pat) := fun k => if k = 4 then (⟨[], [(0, .lf (.d .str)), (3, .lf (.d (.int .i64))), (4, .lf (.d (.int .i64)))], []⟩, fun e => if e = 2 then ⟨[], [(3, .lf (.d (.int .i64)))], []⟩ else ⟨[], [], []⟩) else (⟨[], [], []⟩, fun _ => ⟨[], [], []⟩)
noncomputable def co_spec_l1Read_4 : Code := (loopsIn (bodyOf Try.f170)).getD 0 .skip
noncomputable def tr_spec_l1Read_4 {R : Type}  (NX : ((ByteArray) × (Int) × (Int) × Unit) → Option R) (X2 : ((Int) × Unit) → Option R) (v0 : ByteArray) (v3 : Int) (v4 : Int) : Option R :=
  bif decide (v4 < nI (ByteArray.size v0)) then
    bif decide (0 ≤ v4) then
      bif decide (v4 < nI (ByteArray.size v0)) then
        NX (v0, IntKind.wrap IntKind.i64 (IntKind.wrap IntKind.i64 (v3 * 256) + IntKind.wrap IntKind.i64 (byteAt v0 v4)), IntKind.wrap IntKind.i64 (v4 + 1), ())
      else none
    else none
  else X2 (v3, ())
noncomputable def lo_spec_l1Read_4 : Nat → (ByteArray) → (Int) → (Int) →  Option ((Int) × Unit)
  | 0, _, _, _ => none
  | m + 1, v0, v3, v4 => tr_spec_l1Read_4  (fun d => lo_spec_l1Read_4 m d.1 d.2.1 d.2.2.1) (fun d => some (d)) v0 v3 v4
theorem na_spec_l1Read_4 {R S : Type}  (NX : ((ByteArray) × (Int) × (Int) × Unit) → Option R) (X2 : ((Int) × Unit) → Option R) (v0 : ByteArray) (v3 : Int) (v4 : Int) (f : R → Option S) : tr_spec_l1Read_4  (fun d => (NX d).bind f) (fun d => (X2 d).bind f) v0 v3 v4 = (tr_spec_l1Read_4  NX X2 v0 v3 v4).bind f := by
  unfold tr_spec_l1Read_4
  simp only [cond_bind, ite_bind, onSum_bind, Option.bind_assoc, Option.bind_none, Option.bind_some]
noncomputable def de_spec_l1Read (a0 : ByteArray) : Option ((((Int) × Unit) × (Unit))) :=
  Option.bind ((fun d => lo_spec_l1Read_4 (fu_spec_l1Read_4 d.1 d.2.1 d.2.2.1) d.1 d.2.1 d.2.2.1) (a0, 0, 0, ())) fun val => some ((val.fst, ()), ())
theorem l1Read_loop (s : ByteArray) (hs : s.size ≤ 7) : ∀ (k m i : Nat) (v : Int), i + k = s.size → k < m → 0 ≤ v → v < 256 ^ i → lo_spec_l1Read_4 m s v i = some (numGo s k i v, ())
  | 0, m + 1, i, v, hi, hm, h0, h1 => by
    simp only [lo_spec_l1Read_4, tr_spec_l1Read_4]
    rw [decide_eq_false (show ¬ ((i : Int) < nI s.size) by simp only [nI]; omega)]
    rfl
  | k + 1, m + 1, i, v, hi, hm, h0, h1 => by
    obtain ⟨hb, hs', e⟩ := mul_step s i hi (by omega) h0 h1
    simp only [lo_spec_l1Read_4, tr_spec_l1Read_4]
    have c1 : (i : Int) < nI s.size := by simp only [nI]; omega
    rw [decide_eq_true c1, decide_eq_true (show (0 : Int) ≤ (i : Int) by omega), wI (show i < 4611686018427387904 by omega), e]
    exact l1Read_loop s hs k m (i + 1) _ (by omega) (by omega) hb hs'
theorem eq_spec_l1Read (a0 : ByteArray) r (h : m_spec_l1Read a0 = some r) : de_spec_l1Read a0 = some ((r, ()), (())) := by
  unfold m_spec_l1Read at h
  split at h
  · rename_i hc
    cases h
    unfold de_spec_l1Read
    have hL := l1Read_loop a0 hc a0.size (fu_spec_l1Read_4 a0 0 0) 0 0 (by omega) (by simp only [fu_spec_l1Read_4, nI]; omega) (by omega) (by decide)
    exact bi_ hL rfl
  · cases h
noncomputable def ou_spec_l1Read_4 {R : Type} (k : Kt R) : ((Int) × Unit) → Option R := (fun d => k (.exit 0) (((pa_spec_l1Read 4).2 2).st d) (((pa_spec_l1Read 4).2 2).nid))
noncomputable def L_spec_l1Read {R : Type} : Lt R pa_spec_l1Read := (addL (pat := pa_spec_l1Read) 4 (fun d k => (lo_spec_l1Read_4 (fu_spec_l1Read_4 d.1 d.2.1 d.2.2.1) d.1 d.2.1 d.2.2.1).bind (ou_spec_l1Read_4 k)) noL)
theorem rd_spec_l1Read_4 {R : Type} (nx : (pa_spec_l1Read 4).1.D → Kt R → Option R) (k : Kt R) (v0 : ByteArray) (v3 : Int) (v4 : Int) : ev Try.prog ⟨ta_spec_l1Read, 0, 19, pa_spec_l1Read⟩ L_spec_l1Read co_spec_l1Read_4 ((pa_spec_l1Read 4).1.st (v0, v3, v4, ())) (pa_spec_l1Read 4).1.nid (roundK 0 (pa_spec_l1Read 4) nx k) = tr_spec_l1Read_4  (fun d => nx d k) (fun d => k (.exit 0) (((pa_spec_l1Read 4).2 2).st d) (((pa_spec_l1Read 4).2 2).nid)) v0 v3 v4 := by kernel_rfl
theorem lp_spec_l1Read_4 {R : Type} : ∀ (m : Nat) (d : (pa_spec_l1Read 4).1.D) (k : Kt R), loopN 0 (pa_spec_l1Read 4) (fun s nid k => ev Try.prog ⟨ta_spec_l1Read, 0, 19, pa_spec_l1Read⟩ L_spec_l1Read co_spec_l1Read_4 s nid k) m d k = (lo_spec_l1Read_4 m d.1 d.2.1 d.2.2.1).bind (ou_spec_l1Read_4 k)
  | 0, _, _ => rfl
  | m + 1, ⟨v0, v3, v4, ⟨⟩⟩, k => (rd_spec_l1Read_4 _ k v0 v3 v4).trans ((congrArg (fun F => tr_spec_l1Read_4  F (fun d => k (.exit 0) (((pa_spec_l1Read 4).2 2).st d) (((pa_spec_l1Read 4).2 2).nid)) v0 v3 v4) (funext fun d => lp_spec_l1Read_4 m d k)).trans (na_spec_l1Read_4 (f := ou_spec_l1Read_4 k)  (fun d => lo_spec_l1Read_4 m d.1 d.2.1 d.2.2.1) (fun d => some (d)) v0 v3 v4))
theorem en_spec_l1Read (a0 : ByteArray) : evalF Try.prog ta_spec_l1Read pa_spec_l1Read sg_spec_l1Read Try.f170 L_spec_l1Read (a0, ()) = de_spec_l1Read a0 := by kernel_rfl
theorem si_spec_l1Read : SigsOk Try.prog ta_spec_l1Read := SigsOk.of fun f sd h => by
  try dsimp only [Tb.of, ta_spec_l1Read] at h
  cases h
theorem lk_spec_l1Read_4 {R : Type} : LoopOk Try.prog R 19 0 pa_spec_l1Read L_spec_l1Read co_spec_l1Read_4 :=
  loop_key (cfg := ⟨ta_spec_l1Read, 0, 19, pa_spec_l1Read⟩) (key := 4) (by kernel_rfl) (by kernel_rfl) si_spec_l1Read rfl rfl (fun d k r h => ⟨fu_spec_l1Read_4 d.1 d.2.1 d.2.2.1, (lp_spec_l1Read_4 _ d k).trans h⟩) (fun c hc => by rw [show loopsIn co_spec_l1Read_4 = [] from by kernel_rfl] at hc; cases hc)
theorem sn_spec_l1Read : Callable Try.prog 170 ∧ Sound Try.prog 170 sd_spec_l1Read.sg sd_spec_l1Read.den :=
  fn_loops (pat := pa_spec_l1Read) L_spec_l1Read (by kernel_rfl) si_spec_l1Read Try.func170 (by kernel_rfl) (by kernel_rfl) (fun c hc => by rw [show loopsIn (bodyOf Try.f170) = [co_spec_l1Read_4] from by kernel_rfl] at hc; simp only [List.mem_cons, List.not_mem_nil, or_false] at hc; rcases hc with rfl <;> first | exact lk_spec_l1Read_4) fun x r h => by
    obtain ⟨a0, ⟨⟩⟩ := x; obtain ⟨y, h1, h2⟩ := Option.bind_eq_some_iff.1 (show (m_spec_l1Read a0).bind (fun r => some ((r, ()), (()))) = some r from h); cases h2; exact (en_spec_l1Read a0).trans (eq_spec_l1Read a0 _ h1)
def m_spec_ReadPage (s : ByteArray) (w : Int) : Pg × Bool := readP s w
def sg_spec_ReadPage : Sig := ⟨[.rd .str, .rd (.int .i64)], [none, none], [.rd (.pair (.int .i64) (.pair (.int .i64) (.pair (.int .i64) (.pair .str .unit)))), .rd .bool], [some 4, none]⟩
noncomputable def sd_spec_ReadPage : SD := ⟨sg_spec_ReadPage, fun x => some (((m_spec_ReadPage x.1 x.2.1).1, (m_spec_ReadPage x.1 x.2.1).2, ()), (()))⟩
noncomputable def ta_spec_ReadPage : Tb := Tb.of fun f => if f = 79 then some sd_spec_FormPage else if f = 120 then some sd_spec_l1Width else if f = 162 then some sd_spec_l1Part else if f = 170 then some sd_spec_l1Read else none
def pa_spec_ReadPage : Nat → Pat × (Nat → Pat) := fun k => (⟨[], [], []⟩, fun _ => ⟨[], [], []⟩)
noncomputable def de_spec_ReadPage (a0 : ByteArray) (a1 : Int) : Option ((((Int × Int × Int × ByteArray × Unit) × (Bool) × Unit) × (Unit))) :=
  Option.bind (bif decide (a1 ≥ 1) then some ((decide (a1 ≤ 8), ()), ()) else some ((false, ()), ())) fun val =>
    bif !val.fst.fst then some (((0, 0, 0, ByteArray.mk #[], ()), false, ()), ())
    else
      bif nI (ByteArray.size a0) != 64 then some (((0, 0, 0, ByteArray.mk #[], ()), false, ()), ())
      else
        bif decide (0 ≤ a1) then
          bif decide (a1 ≤ nI (ByteArray.size a0)) then
            bif decide (7 < nI (ByteArray.size (cutOf a0 a1 (nI (ByteArray.size a0))))) then
              bif decide (IntKind.wrap IntKind.i64 (byteAt (cutOf a0 a1 (nI (ByteArray.size a0))) 7) > IntKind.wrap IntKind.i64 (IntKind.wrap IntKind.i64 (64 - a1) - 8)) then
                some (((0, 0, 0, ByteArray.mk #[], ()), false, ()), ())
              else
                bif decide (0 < nI (ByteArray.size (cutOf a0 a1 (nI (ByteArray.size a0))))) then
                  bif decide (3 ≤ nI (ByteArray.size (cutOf a0 a1 (nI (ByteArray.size a0))))) then
                    Option.bind (Option.bind (m_spec_l1Read (cutOf (cutOf a0 a1 (nI (ByteArray.size a0))) 1 3)) fun val => some ((val, ()), ())) fun val =>
                      bif decide (7 ≤ nI (ByteArray.size (cutOf a0 a1 (nI (ByteArray.size a0))))) then
                        Option.bind (Option.bind (m_spec_l1Read (cutOf (cutOf a0 a1 (nI (ByteArray.size a0))) 3 7)) fun val => some ((val, ()), ())) fun val_1 =>
                          bif decide (8 ≤ IntKind.wrap IntKind.i64 (8 + IntKind.wrap IntKind.i64 (byteAt (cutOf a0 a1 (nI (ByteArray.size a0))) 7))) then
                            bif
                                decide
                                  (IntKind.wrap IntKind.i64 (8 + IntKind.wrap IntKind.i64 (byteAt (cutOf a0 a1 (nI (ByteArray.size a0))) 7)) ≤
                                    nI (ByteArray.size (cutOf a0 a1 (nI (ByteArray.size a0))))) then
                              bif
                                  !ByteArray.toList
                                        (m_spec_FormPage
                                          (IntKind.wrap IntKind.i64 (byteAt (cutOf a0 a1 (nI (ByteArray.size a0))) 0), val.fst.fst, val_1.fst.fst,
                                            cutOf (cutOf a0 a1 (nI (ByteArray.size a0))) 8 (IntKind.wrap IntKind.i64 (8 + IntKind.wrap IntKind.i64 (byteAt (cutOf a0 a1 (nI (ByteArray.size a0))) 7))),
                                            ())
                                          a1) ==
                                      ByteArray.toList a0 then
                                some (((0, 0, 0, ByteArray.mk #[], ()), false, ()), ())
                              else
                                some
                                  (((IntKind.wrap IntKind.i64 (byteAt (cutOf a0 a1 (nI (ByteArray.size a0))) 0), val.fst.fst, val_1.fst.fst,
                                        cutOf (cutOf a0 a1 (nI (ByteArray.size a0))) 8 (IntKind.wrap IntKind.i64 (8 + IntKind.wrap IntKind.i64 (byteAt (cutOf a0 a1 (nI (ByteArray.size a0))) 7))), ()),
                                      true, ()),
                                    ())
                            else none
                          else none
                      else none
                  else none
                else none
            else none
          else none
        else none
theorem eq_spec_ReadPage (a0 : ByteArray) (a1 : Int) : de_spec_ReadPage a0 a1 = some (((m_spec_ReadPage a0 a1).1, (m_spec_ReadPage a0 a1).2, ()), (())) := by
  unfold de_spec_ReadPage m_spec_ReadPage readP
  refine bi_ (wid a1) ?_
  show (bif !inB a1 1 8 then _ else (bif nI a0.size != 64 then _ else _)) = _
  cases hz : nI a0.size != 64 with
  | true => cases inB a1 1 8 <;> rfl
  | false =>
      cases hw : inB a1 1 8 with
      | false => rfl
      | true =>
        have k1 := (inB_r hw).1
        have k2 := (inB_r hw).2
        have hs : a0.size = 64 := by
          by_cases q : nI a0.size = 64
          · simp only [nI] at q; omega
          · rw [(bne_iff_ne).2 q] at hz; cases hz
        have hb : (cutOf a0 a1 (nI a0.size)).size = (64 - a1).toNat := by rw [cutOf_size (by omega) (by simp only [nI]; omega) (by simp [nI])]; simp only [nI, hs]; omega
        simp only [Bool.not_true, cond_false, cond_true]
        rw [decide_eq_true (show (0 : Int) ≤ a1 by omega), decide_eq_true (show a1 ≤ nI a0.size by simp only [nI]; omega)]
        unfold rawP
        generalize cutOf a0 a1 (nI a0.size) = b at *
        obtain ⟨b0, b1⟩ := byteAt_in b 7
        obtain ⟨c0, c1⟩ := byteAt_in b 0
        have hB : nI b.size = 64 - a1 := by simp only [nI]; omega
        rw [hB, decide_eq_true (show (7 : Int) < 64 - a1 by omega), decide_eq_true (show (0 : Int) < 64 - a1 by omega), decide_eq_true (show (3 : Int) ≤ 64 - a1 by omega), decide_eq_true (show (7 : Int) ≤ 64 - a1 by omega), wrap_ok (n := byteAt b 7) (by omega) (by omega), wrap_ok (n := byteAt b 0) (by omega) (by omega), wrap_ok (n := 64 - a1) (by omega) (by omega), wrap_ok (n := 64 - a1 - 8) (by omega) (by omega), wrap_ok (n := 8 + byteAt b 7) (by omega) (by omega), show 64 - a1 - 8 = 56 - a1 by omega]
        by_cases q : byteAt b 7 > 56 - a1
        · rw [decide_eq_true q]; rfl
        · rw [decide_eq_false q]
          have n1 : m_spec_l1Read (cutOf b 1 3) = some (numS (cutOf b 1 3)) := if_pos (by rw [cutOf_size (by omega) (by omega) (by omega)]; decide)
          have n2 : m_spec_l1Read (cutOf b 3 7) = some (numS (cutOf b 3 7)) := if_pos (by rw [cutOf_size (by omega) (by omega) (by omega)]; decide)
          simp only [n1, n2, Option.bind_some, cond_true, cond_false]
          rw [decide_eq_true (show 8 ≤ 8 + byteAt b 7 by omega), decide_eq_true (show 8 + byteAt b 7 ≤ 64 - a1 by omega)]
          show (bif !(ByteArray.toList (pageS (rawB b) a1) == ByteArray.toList a0) then _ else _) = _
          cases (ByteArray.toList (pageS (rawB b) a1) == ByteArray.toList a0) <;> rfl
theorem en_spec_ReadPage (a0 : ByteArray) (a1 : Int) : evalF Try.prog ta_spec_ReadPage pa_spec_ReadPage sg_spec_ReadPage Try.f83 noL (a0, a1, ()) = de_spec_ReadPage a0 a1 := by kernel_rfl
theorem si_spec_ReadPage : SigsOk Try.prog ta_spec_ReadPage := SigsOk.of fun f sd h => by
  try dsimp only [Tb.of, ta_spec_ReadPage] at h
  split at h
  · rename_i e; subst e; cases h; exact sn_spec_FormPage
  split at h
  · rename_i e; subst e; cases h; exact sn_spec_l1Width
  split at h
  · rename_i e; subst e; cases h; exact sn_spec_l1Part
  split at h
  · rename_i e; subst e; cases h; exact sn_spec_l1Read
  cases h
theorem sn_spec_ReadPage : Callable Try.prog 83 ∧ Sound Try.prog 83 sd_spec_ReadPage.sg sd_spec_ReadPage.den :=
  fn_plain (pat := pa_spec_ReadPage) (by kernel_rfl) si_spec_ReadPage Try.func83 (by kernel_rfl) (by kernel_rfl) (by kernel_rfl) fun x r h => by
    obtain ⟨a0, a1, ⟨⟩⟩ := x; rw [← h]; exact (en_spec_ReadPage a0 a1).trans (eq_spec_ReadPage a0 a1)
def m_spec_l2WriteOk (d : Dk) (at_ : Int) (data : ByteArray) : Bool := okWr d.1.length (at_, data, ())
def sg_spec_l2WriteOk : Sig := ⟨[.rd (.pair (.sl .str) (.pair (.sl (.pair (.int .i64) (.pair .str .unit))) .unit)), .rd (.int .i64), .rd .str], [some 2, none, none], [.rd .bool], [none]⟩
noncomputable def sd_spec_l2WriteOk : SD := ⟨sg_spec_l2WriteOk, fun x => some (((m_spec_l2WriteOk x.1 x.2.1 x.2.2.1), ()), (()))⟩
noncomputable def ta_spec_l2WriteOk : Tb := Tb.of fun f => none
def pa_spec_l2WriteOk : Nat → Pat × (Nat → Pat) := fun k => (⟨[], [], []⟩, fun _ => ⟨[], [], []⟩)
noncomputable def de_spec_l2WriteOk (a0 : (List ByteArray) × (List (Int × ByteArray × Unit)) × Unit) (a1 : Int) (a2 : ByteArray) : Option ((((Bool) × Unit) × (Unit))) :=
  bif decide (a1 ≥ 0) then bif decide (a1 < nI (List.length a0.fst)) then some ((nI (ByteArray.size a2) == 64, ()), ()) else some ((false, ()), ()) else some ((false, ()), ())
theorem eq_spec_l2WriteOk (a0 : Dk) (a1 : Int) (a2 : ByteArray) : de_spec_l2WriteOk a0 a1 a2 = some ((m_spec_l2WriteOk a0 a1 a2, ()), ()) := by
  unfold de_spec_l2WriteOk m_spec_l2WriteOk okWr
  have e : (nI (ByteArray.size a2) == 64) = decide (a2.size = 64) := by
    have := ne64 a2.size 64
    simp only [bne] at this
    cases h : (nI (ByteArray.size a2) == ((64 : Nat) : Int)) <;> rw [h] at this <;> cases h2 : decide (a2.size = 64) <;> rw [h2] at this <;> first | (cases this; done) | exact h
  rw [e]
  by_cases h1 : a1 ≥ 0
  · have : decide (0 ≤ a1) = true := by simpa using h1
    rw [decide_eq_true h1]
    simp only [this, cond_true, Bool.true_and, nI]
    cases decide (a1 < (a0.1.length : Int)) <;> rfl
  · have : decide (0 ≤ a1) = false := by simpa using h1
    rw [decide_eq_false h1]
    simp only [this]
    rfl
theorem en_spec_l2WriteOk (a0 : (List ByteArray) × (List (Int × ByteArray × Unit)) × Unit) (a1 : Int) (a2 : ByteArray) : evalF Try.prog ta_spec_l2WriteOk pa_spec_l2WriteOk sg_spec_l2WriteOk Try.f105 noL (a0, a1, a2, ()) = de_spec_l2WriteOk a0 a1 a2 := by kernel_rfl
theorem si_spec_l2WriteOk : SigsOk Try.prog ta_spec_l2WriteOk := SigsOk.of fun f sd h => by
  try dsimp only [Tb.of, ta_spec_l2WriteOk] at h
  cases h
theorem sn_spec_l2WriteOk : Callable Try.prog 105 ∧ Sound Try.prog 105 sd_spec_l2WriteOk.sg sd_spec_l2WriteOk.den :=
  fn_plain (pat := pa_spec_l2WriteOk) (by kernel_rfl) si_spec_l2WriteOk Try.func105 (by kernel_rfl) (by kernel_rfl) (by kernel_rfl) fun x r h => by
    obtain ⟨a0, a1, a2, ⟨⟩⟩ := x; rw [← h]; exact (en_spec_l2WriteOk a0 a1 a2).trans (eq_spec_l2WriteOk a0 a1 a2)
def m_spec_ValidDisk (d : Dk) : Bool := validDisk d
def sg_spec_ValidDisk : Sig := ⟨[.rd (.pair (.sl .str) (.pair (.sl (.pair (.int .i64) (.pair .str .unit))) .unit))], [some 2], [.rd .bool], [none]⟩
noncomputable def sd_spec_ValidDisk : SD := ⟨sg_spec_ValidDisk, fun x => some (((m_spec_ValidDisk x.1), ()), (()))⟩
noncomputable def ta_spec_ValidDisk : Tb := Tb.of fun f => if f = 105 then some sd_spec_l2WriteOk else none
def pa_spec_ValidDisk : Nat → Pat × (Nat → Pat) := fun k => if k = 5 then (⟨[.boxSl 1 0 .str, .boxSl 1 1 (.pair (.int .i64) (.pair .str .unit))], [(1, .lf (.ptr 0 0)), (3, .lf (.d (.int .i64)))], [.box 47 [.d (.sl .str), .d (.sl (.pair (.int .i64) (.pair .str .unit)))]]⟩, fun e => if e = 1 then ⟨[], [(2, .lf (.d .bool))], []⟩ else if e = 2 then ⟨[.boxSl 1 0 .str, .boxSl 1 1 (.pair (.int .i64) (.pair .str .unit))], [(1, .lf (.ptr 0 0))], [.box 47 [.d (.sl .str), .d (.sl (.pair (.int .i64) (.pair .str .unit)))]]⟩ else ⟨[], [], []⟩) else if k = 10 then (⟨[.boxSl 1 0 .str, .boxSl 1 1 (.pair (.int .i64) (.pair .str .unit))], [(1, .lf (.ptr 0 0)), (4, .lf (.d (.int .i64)))], [.box 47 [.d (.sl .str), .d (.sl (.pair (.int .i64) (.pair .str .unit)))]]⟩, fun e => if e = 1 then ⟨[], [(2, .lf (.d .bool))], []⟩ else if e = 4 then ⟨[], [], []⟩ else ⟨[], [], []⟩) else (⟨[], [], []⟩, fun _ => ⟨[], [], []⟩)
noncomputable def co_spec_ValidDisk_5 : Code := (loopsIn (bodyOf Try.f102)).getD 0 .skip
noncomputable def co_spec_ValidDisk_10 : Code := (loopsIn (bodyOf Try.f102)).getD 1 .skip
def fu_spec_ValidDisk_10 (v4 : Int) (b0_0 : List ByteArray) (b0_1 : List (Int × ByteArray × Unit)) : Nat := ((b0_1.length : Int) - v4).toNat + 1
noncomputable def tr_spec_ValidDisk_10 {R : Type}  (NX : ((Int) × (List ByteArray) × (List (Int × ByteArray × Unit)) × Unit) → Option R) (X4 : (Unit) → Option R) (X1 : ((Bool) × Unit) → Option R) (v4 : Int) (b0_0 : List ByteArray) (b0_1 : List (Int × ByteArray × Unit)) : Option R :=
  bif decide (v4 < nI (List.length b0_1)) then
    bif decide (0 ≤ v4) then
      bif decide (v4 < nI (List.length b0_1)) then
        bif decide (0 ≤ v4) then
          bif decide (v4 < nI (List.length b0_1)) then
            bif !m_spec_l2WriteOk (b0_0, b0_1, ()) (List.getD b0_1 (Int.toNat v4) (0, ByteArray.mk #[], ())).fst (List.getD b0_1 (Int.toNat v4) (0, ByteArray.mk #[], ())).snd.fst then X1 (false, ())
            else NX (IntKind.wrap IntKind.i64 (v4 + 1), b0_0, b0_1, ())
          else none
        else none
      else none
    else none
  else X4 PUnit.unit
noncomputable def lo_spec_ValidDisk_10 : Nat → (Int) → (List ByteArray) → (List (Int × ByteArray × Unit)) →  Option ((Unit) ⊕ ((Bool) × Unit))
  | 0, _, _, _ => none
  | m + 1, v4, b0_0, b0_1 => tr_spec_ValidDisk_10  (fun d => lo_spec_ValidDisk_10 m d.1 d.2.1 d.2.2.1) (fun d => some (.inl (d))) (fun d => some (.inr (d))) v4 b0_0 b0_1
theorem na_spec_ValidDisk_10 {R S : Type}  (NX : ((Int) × (List ByteArray) × (List (Int × ByteArray × Unit)) × Unit) → Option R) (X4 : (Unit) → Option R) (X1 : ((Bool) × Unit) → Option R) (v4 : Int) (b0_0 : List ByteArray) (b0_1 : List (Int × ByteArray × Unit)) (f : R → Option S) : tr_spec_ValidDisk_10  (fun d => (NX d).bind f) (fun d => (X4 d).bind f) (fun d => (X1 d).bind f) v4 b0_0 b0_1 = (tr_spec_ValidDisk_10  NX X4 X1 v4 b0_0 b0_1).bind f := by
  unfold tr_spec_ValidDisk_10
  simp only [cond_bind, ite_bind, onSum_bind, Option.bind_assoc, Option.bind_none, Option.bind_some]
def fu_spec_ValidDisk_5 (v3 : Int) (b0_0 : List ByteArray) (b0_1 : List (Int × ByteArray × Unit)) : Nat := ((b0_0.length : Int) - v3).toNat + 1
noncomputable def tr_spec_ValidDisk_5 {R : Type}  (NX : ((Int) × (List ByteArray) × (List (Int × ByteArray × Unit)) × Unit) → Option R) (X2 : ((List ByteArray) × (List (Int × ByteArray × Unit)) × Unit) → Option R) (X1 : ((Bool) × Unit) → Option R) (v3 : Int) (b0_0 : List ByteArray) (b0_1 : List (Int × ByteArray × Unit)) : Option R :=
  bif decide (v3 < nI (List.length b0_0)) then
    bif decide (0 ≤ v3) then
      bif decide (v3 < nI (List.length b0_0)) then
        bif nI (ByteArray.size (List.getD b0_0 (Int.toNat v3) (ByteArray.mk #[]))) != 64 then X1 (false, ()) else NX (IntKind.wrap IntKind.i64 (v3 + 1), b0_0, b0_1, ())
      else none
    else none
  else X2 (b0_0, b0_1, ())
noncomputable def lo_spec_ValidDisk_5 : Nat → (Int) → (List ByteArray) → (List (Int × ByteArray × Unit)) →  Option (((List ByteArray) × (List (Int × ByteArray × Unit)) × Unit) ⊕ ((Bool) × Unit))
  | 0, _, _, _ => none
  | m + 1, v3, b0_0, b0_1 => tr_spec_ValidDisk_5  (fun d => lo_spec_ValidDisk_5 m d.1 d.2.1 d.2.2.1) (fun d => some (.inl (d))) (fun d => some (.inr (d))) v3 b0_0 b0_1
theorem na_spec_ValidDisk_5 {R S : Type}  (NX : ((Int) × (List ByteArray) × (List (Int × ByteArray × Unit)) × Unit) → Option R) (X2 : ((List ByteArray) × (List (Int × ByteArray × Unit)) × Unit) → Option R) (X1 : ((Bool) × Unit) → Option R) (v3 : Int) (b0_0 : List ByteArray) (b0_1 : List (Int × ByteArray × Unit)) (f : R → Option S) : tr_spec_ValidDisk_5  (fun d => (NX d).bind f) (fun d => (X2 d).bind f) (fun d => (X1 d).bind f) v3 b0_0 b0_1 = (tr_spec_ValidDisk_5  NX X2 X1 v3 b0_0 b0_1).bind f := by
  unfold tr_spec_ValidDisk_5
  simp only [cond_bind, ite_bind, onSum_bind, Option.bind_assoc, Option.bind_none, Option.bind_some]
noncomputable def de_spec_ValidDisk (a0 : (List ByteArray) × (List (Int × ByteArray × Unit)) × Unit) : Option ((((Bool) × Unit) × (Unit))) :=
  bif decide (nI (List.length a0.fst) < 8) then some ((false, ()), ())
  else
    bif decide (nI (List.length a0.fst) > 200) then some ((false, ()), ())
    else
      bif decide (nI (List.length a0.snd.fst) > 300) then some ((false, ()), ())
      else
        Option.bind ((fun d => lo_spec_ValidDisk_5 (fu_spec_ValidDisk_5 d.1 d.2.1 d.2.2.1) d.1 d.2.1 d.2.2.1) (0, a0.fst, a0.snd.fst, ())) fun val =>
          onSum (fun val => Option.bind ((fun d => lo_spec_ValidDisk_10 (fu_spec_ValidDisk_10 d.1 d.2.1 d.2.2.1) d.1 d.2.1 d.2.2.1) (0, val.fst, val.snd.fst, ())) fun val => onSum (fun val => some ((true, ()), ())) (fun val => some ((val.fst, ()), ())) val)
            (fun val => some ((val.fst, ()), ())) val
theorem eq_spec_ValidDisk (a0 : Dk) : de_spec_ValidDisk a0 = some ((m_spec_ValidDisk a0, ()), ()) := by
  unfold de_spec_ValidDisk m_spec_ValidDisk validDisk
  have c1 : decide (nI a0.2.1.length > 300) = !decide (a0.2.1.length ≤ 300) := gt100 _ 300
  have c2 : decide (nI a0.1.length > 200) = !decide ((a0.1.length : Int) ≤ 200) := by
    rw [show decide (nI a0.1.length > 200) = !decide (a0.1.length ≤ 200) from gt100 _ 200]
    congr 1
    exact decide_eq_decide.2 (by omega)
  have c3 : decide (nI a0.1.length < 8) = !decide (8 ≤ (a0.1.length : Int)) := by
    by_cases q : 8 ≤ (a0.1.length : Int)
    · rw [decide_eq_true q, decide_eq_false (by simp [nI]; omega)]; rfl
    · rw [decide_eq_false q, decide_eq_true (by simp [nI]; omega)]; rfl
  rw [c1, c2, c3]
  unfold inB
  by_cases h8 : 8 ≤ (a0.1.length : Int)
  · rw [decide_eq_true h8]
    by_cases h2 : (a0.1.length : Int) ≤ 200
    · rw [decide_eq_true h2]
      by_cases hp : a0.2.1.length ≤ 300
      · rw [decide_eq_true hp]
        have hL := all_loop (n := a0.1.length) (fun i => decide ((a0.1.getD i z0).size = 64)) (g := fun m i => lo_spec_ValidDisk_5 m i a0.1 a0.2.1) (ok := .inl (a0.1, a0.2.1, ())) (bad := .inr (false, ())) (fun m i hi => by
          show lo_spec_ValidDisk_5 (m + 1) i a0.1 a0.2.1 = _
          simp only [lo_spec_ValidDisk_5, tr_spec_ValidDisk_5]
          have g1 : (nI (ByteArray.size (List.getD a0.1 i (ByteArray.mk #[]))) != 64) = !decide ((a0.1.getD i z0).size = 64) := ne64 _ 64
          rw [cLt hi, cLe0, wI (show i < 4611686018427387904 by omega), Int.toNat_natCast, g1]
          cases decide ((a0.1.getD i z0).size = 64) <;> rfl) (fun m => by
          show lo_spec_ValidDisk_5 (m + 1) (a0.1.length : Int) a0.1 a0.2.1 = _
          simp only [lo_spec_ValidDisk_5, tr_spec_ValidDisk_5]
          rw [cLtF]
          rfl) (fu_spec_ValidDisk_5 0 a0.1 a0.2.1) 0 (by omega) (by simp [fu_spec_ValidDisk_5])
        have hL' : lo_spec_ValidDisk_5 (fu_spec_ValidDisk_5 0 a0.1 a0.2.1) 0 a0.1 a0.2.1 = _ := hL
        have hM := all_loop (n := a0.2.1.length) (fun i => okWr a0.1.length (a0.2.1.getD i zW)) (g := fun m i => lo_spec_ValidDisk_10 m i a0.1 a0.2.1) (ok := .inl ()) (bad := .inr (false, ())) (fun m i hi => by
          show lo_spec_ValidDisk_10 (m + 1) i a0.1 a0.2.1 = _
          simp only [lo_spec_ValidDisk_10, tr_spec_ValidDisk_10]
          rw [cLt hi, cLe0, wI (show i < 4611686018427387904 by omega), Int.toNat_natCast]
          show (bif !okWr a0.1.length (a0.2.1.getD i zW) then _ else _) = _
          cases okWr a0.1.length (a0.2.1.getD i zW) <;> rfl) (fun m => by
          show lo_spec_ValidDisk_10 (m + 1) (a0.2.1.length : Int) a0.1 a0.2.1 = _
          simp only [lo_spec_ValidDisk_10, tr_spec_ValidDisk_10]
          rw [cLtF]
          rfl) (fu_spec_ValidDisk_10 0 a0.1 a0.2.1) 0 (by omega) (by simp [fu_spec_ValidDisk_10])
        have hM' : lo_spec_ValidDisk_10 (fu_spec_ValidDisk_10 0 a0.1 a0.2.1) 0 a0.1 a0.2.1 = _ := hM
        show (lo_spec_ValidDisk_5 (fu_spec_ValidDisk_5 0 a0.1 a0.2.1) 0 a0.1 a0.2.1).bind _ = _
        rw [hL']
        rw [Nat.sub_zero] at hM' ⊢
        cases (List.range' 0 a0.1.length).all (fun i => decide ((a0.1.getD i z0).size = 64)) with
        | false => rfl
        | true =>
          show (lo_spec_ValidDisk_10 (fu_spec_ValidDisk_10 0 a0.1 a0.2.1) 0 a0.1 a0.2.1).bind _ = _
          rw [hM']
          cases (List.range' 0 a0.2.1.length).all (fun i => okWr a0.1.length (a0.2.1.getD i zW)) <;> rfl
      · rw [decide_eq_false hp]
        rfl
    · rw [decide_eq_false h2]
      rfl
  · rw [decide_eq_false h8]
    rfl
noncomputable def ou_spec_ValidDisk_5 {R : Type} (k : Kt R) : (((List ByteArray) × (List (Int × ByteArray × Unit)) × Unit) ⊕ ((Bool) × Unit)) → Option R := (onSum (fun d => k (.exit 0) (((pa_spec_ValidDisk 5).2 2).st d) (((pa_spec_ValidDisk 5).2 2).nid)) (fun d => k .ret (((pa_spec_ValidDisk 5).2 1).st d) (((pa_spec_ValidDisk 5).2 1).nid)))
noncomputable def ou_spec_ValidDisk_10 {R : Type} (k : Kt R) : ((Unit) ⊕ ((Bool) × Unit)) → Option R := (onSum (fun d => k (.exit 2) (((pa_spec_ValidDisk 10).2 4).st d) (((pa_spec_ValidDisk 10).2 4).nid)) (fun d => k .ret (((pa_spec_ValidDisk 10).2 1).st d) (((pa_spec_ValidDisk 10).2 1).nid)))
noncomputable def L_spec_ValidDisk {R : Type} : Lt R pa_spec_ValidDisk := (addL (pat := pa_spec_ValidDisk) 5 (fun d k => (lo_spec_ValidDisk_5 (fu_spec_ValidDisk_5 d.1 d.2.1 d.2.2.1) d.1 d.2.1 d.2.2.1).bind (ou_spec_ValidDisk_5 k)) (addL (pat := pa_spec_ValidDisk) 10 (fun d k => (lo_spec_ValidDisk_10 (fu_spec_ValidDisk_10 d.1 d.2.1 d.2.2.1) d.1 d.2.1 d.2.2.1).bind (ou_spec_ValidDisk_10 k)) noL))
theorem rd_spec_ValidDisk_10 {R : Type} (nx : (pa_spec_ValidDisk 10).1.D → Kt R → Option R) (k : Kt R) (v4 : Int) (b0_0 : List ByteArray) (b0_1 : List (Int × ByteArray × Unit)) : ev Try.prog ⟨ta_spec_ValidDisk, 0, 57, pa_spec_ValidDisk⟩ L_spec_ValidDisk co_spec_ValidDisk_10 ((pa_spec_ValidDisk 10).1.st (v4, b0_0, b0_1, ())) (pa_spec_ValidDisk 10).1.nid (roundK 0 (pa_spec_ValidDisk 10) nx k) = tr_spec_ValidDisk_10  (fun d => nx d k) (fun d => k (.exit 2) (((pa_spec_ValidDisk 10).2 4).st d) (((pa_spec_ValidDisk 10).2 4).nid)) (fun d => k .ret (((pa_spec_ValidDisk 10).2 1).st d) (((pa_spec_ValidDisk 10).2 1).nid)) v4 b0_0 b0_1 := by kernel_rfl
theorem lp_spec_ValidDisk_10 {R : Type} : ∀ (m : Nat) (d : (pa_spec_ValidDisk 10).1.D) (k : Kt R), loopN 0 (pa_spec_ValidDisk 10) (fun s nid k => ev Try.prog ⟨ta_spec_ValidDisk, 0, 57, pa_spec_ValidDisk⟩ L_spec_ValidDisk co_spec_ValidDisk_10 s nid k) m d k = (lo_spec_ValidDisk_10 m d.1 d.2.1 d.2.2.1).bind (ou_spec_ValidDisk_10 k)
  | 0, _, _ => rfl
  | m + 1, ⟨v4, b0_0, b0_1, ⟨⟩⟩, k => (rd_spec_ValidDisk_10 _ k v4 b0_0 b0_1).trans ((congrArg (fun F => tr_spec_ValidDisk_10  F (fun d => k (.exit 2) (((pa_spec_ValidDisk 10).2 4).st d) (((pa_spec_ValidDisk 10).2 4).nid)) (fun d => k .ret (((pa_spec_ValidDisk 10).2 1).st d) (((pa_spec_ValidDisk 10).2 1).nid)) v4 b0_0 b0_1) (funext fun d => lp_spec_ValidDisk_10 m d k)).trans (na_spec_ValidDisk_10 (f := ou_spec_ValidDisk_10 k)  (fun d => lo_spec_ValidDisk_10 m d.1 d.2.1 d.2.2.1) (fun d => some (.inl (d))) (fun d => some (.inr (d))) v4 b0_0 b0_1))
theorem rd_spec_ValidDisk_5 {R : Type} (nx : (pa_spec_ValidDisk 5).1.D → Kt R → Option R) (k : Kt R) (v3 : Int) (b0_0 : List ByteArray) (b0_1 : List (Int × ByteArray × Unit)) : ev Try.prog ⟨ta_spec_ValidDisk, 0, 57, pa_spec_ValidDisk⟩ L_spec_ValidDisk co_spec_ValidDisk_5 ((pa_spec_ValidDisk 5).1.st (v3, b0_0, b0_1, ())) (pa_spec_ValidDisk 5).1.nid (roundK 0 (pa_spec_ValidDisk 5) nx k) = tr_spec_ValidDisk_5  (fun d => nx d k) (fun d => k (.exit 0) (((pa_spec_ValidDisk 5).2 2).st d) (((pa_spec_ValidDisk 5).2 2).nid)) (fun d => k .ret (((pa_spec_ValidDisk 5).2 1).st d) (((pa_spec_ValidDisk 5).2 1).nid)) v3 b0_0 b0_1 := by kernel_rfl
theorem lp_spec_ValidDisk_5 {R : Type} : ∀ (m : Nat) (d : (pa_spec_ValidDisk 5).1.D) (k : Kt R), loopN 0 (pa_spec_ValidDisk 5) (fun s nid k => ev Try.prog ⟨ta_spec_ValidDisk, 0, 57, pa_spec_ValidDisk⟩ L_spec_ValidDisk co_spec_ValidDisk_5 s nid k) m d k = (lo_spec_ValidDisk_5 m d.1 d.2.1 d.2.2.1).bind (ou_spec_ValidDisk_5 k)
  | 0, _, _ => rfl
  | m + 1, ⟨v3, b0_0, b0_1, ⟨⟩⟩, k => (rd_spec_ValidDisk_5 _ k v3 b0_0 b0_1).trans ((congrArg (fun F => tr_spec_ValidDisk_5  F (fun d => k (.exit 0) (((pa_spec_ValidDisk 5).2 2).st d) (((pa_spec_ValidDisk 5).2 2).nid)) (fun d => k .ret (((pa_spec_ValidDisk 5).2 1).st d) (((pa_spec_ValidDisk 5).2 1).nid)) v3 b0_0 b0_1) (funext fun d => lp_spec_ValidDisk_5 m d k)).trans (na_spec_ValidDisk_5 (f := ou_spec_ValidDisk_5 k)  (fun d => lo_spec_ValidDisk_5 m d.1 d.2.1 d.2.2.1) (fun d => some (.inl (d))) (fun d => some (.inr (d))) v3 b0_0 b0_1))
theorem en_spec_ValidDisk (a0 : (List ByteArray) × (List (Int × ByteArray × Unit)) × Unit) : evalF Try.prog ta_spec_ValidDisk pa_spec_ValidDisk sg_spec_ValidDisk Try.f102 L_spec_ValidDisk (a0, ()) = de_spec_ValidDisk a0 := by kernel_rfl
theorem si_spec_ValidDisk : SigsOk Try.prog ta_spec_ValidDisk := SigsOk.of fun f sd h => by
  try dsimp only [Tb.of, ta_spec_ValidDisk] at h
  split at h
  · rename_i e; subst e; cases h; exact sn_spec_l2WriteOk
  cases h
theorem lk_spec_ValidDisk_10 {R : Type} : LoopOk Try.prog R 57 0 pa_spec_ValidDisk L_spec_ValidDisk co_spec_ValidDisk_10 :=
  loop_key (cfg := ⟨ta_spec_ValidDisk, 0, 57, pa_spec_ValidDisk⟩) (key := 10) (by kernel_rfl) (by kernel_rfl) si_spec_ValidDisk rfl rfl (fun d k r h => ⟨fu_spec_ValidDisk_10 d.1 d.2.1 d.2.2.1, (lp_spec_ValidDisk_10 _ d k).trans h⟩) (fun c hc => by rw [show loopsIn co_spec_ValidDisk_10 = [] from by kernel_rfl] at hc; cases hc)
theorem lk_spec_ValidDisk_5 {R : Type} : LoopOk Try.prog R 57 0 pa_spec_ValidDisk L_spec_ValidDisk co_spec_ValidDisk_5 :=
  loop_key (cfg := ⟨ta_spec_ValidDisk, 0, 57, pa_spec_ValidDisk⟩) (key := 5) (by kernel_rfl) (by kernel_rfl) si_spec_ValidDisk rfl rfl (fun d k r h => ⟨fu_spec_ValidDisk_5 d.1 d.2.1 d.2.2.1, (lp_spec_ValidDisk_5 _ d k).trans h⟩) (fun c hc => by rw [show loopsIn co_spec_ValidDisk_5 = [] from by kernel_rfl] at hc; cases hc)
theorem sn_spec_ValidDisk : Callable Try.prog 102 ∧ Sound Try.prog 102 sd_spec_ValidDisk.sg sd_spec_ValidDisk.den :=
  fn_loops (pat := pa_spec_ValidDisk) L_spec_ValidDisk (by kernel_rfl) si_spec_ValidDisk Try.func102 (by kernel_rfl) (by kernel_rfl) (fun c hc => by rw [show loopsIn (bodyOf Try.f102) = [co_spec_ValidDisk_5, co_spec_ValidDisk_10] from by kernel_rfl] at hc; simp only [List.mem_cons, List.not_mem_nil, or_false] at hc; rcases hc with rfl | rfl <;> first | exact lk_spec_ValidDisk_5 | exact lk_spec_ValidDisk_10) fun x r h => by
    obtain ⟨a0, ⟨⟩⟩ := x; rw [← h]; exact (en_spec_ValidDisk a0).trans (eq_spec_ValidDisk a0)
def m_spec_l2Copy (d : Dk) : Option Dk := if d.1.length ≤ 1099511627776 ∧ d.2.1.length ≤ 1099511627776 then some d else none
def sg_spec_l2Copy : Sig := ⟨[.rd (.pair (.sl .str) (.pair (.sl (.pair (.int .i64) (.pair .str .unit))) .unit))], [some 2], [.own 9 .str, .own 148 (.pair (.int .i64) (.pair .str .unit))], [some 2]⟩
noncomputable def sd_spec_l2Copy : SD := ⟨sg_spec_l2Copy, fun x => (m_spec_l2Copy x.1).bind fun r => some ((r.1, r.2.1, ()), (()))⟩
noncomputable def ta_spec_l2Copy : Tb := Tb.of fun f => none
def pa_spec_l2Copy : Nat → Pat × (Nat → Pat) := fun k => (⟨[], [], []⟩, fun _ => ⟨[], [], []⟩)
noncomputable def de_spec_l2Copy (a0 : (List ByteArray) × (List (Int × ByteArray × Unit)) × Unit) : Option ((((List ByteArray) × (List (Int × ByteArray × Unit)) × Unit) × (Unit))) :=
  bif decide ((0 + List.length a0.fst) * 16 ≤ 140737488355328) then
    bif decide ((0 + List.length a0.snd.fst) * 24 ≤ 140737488355328) then some (([] ++ a0.fst, [] ++ a0.snd.fst, ()), ()) else none
  else none
theorem eq_spec_l2Copy (a0 : Dk) r (h : m_spec_l2Copy a0 = some r) : de_spec_l2Copy a0 = some ((r.1, r.2.1, ()), (())) := by
  unfold m_spec_l2Copy at h
  split at h
  · rename_i hc
    cases h
    unfold de_spec_l2Copy
    have c1 : (0 + List.length a0.1) * 16 ≤ 140737488355328 := by omega
    have c2 : (0 + List.length a0.2.1) * 24 ≤ 140737488355328 := by omega
    rw [decide_eq_true c1, decide_eq_true c2]
    rfl
  · cases h
theorem en_spec_l2Copy (a0 : (List ByteArray) × (List (Int × ByteArray × Unit)) × Unit) : evalF Try.prog ta_spec_l2Copy pa_spec_l2Copy sg_spec_l2Copy Try.f103 noL (a0, ()) = de_spec_l2Copy a0 := by kernel_rfl
theorem si_spec_l2Copy : SigsOk Try.prog ta_spec_l2Copy := SigsOk.of fun f sd h => by
  try dsimp only [Tb.of, ta_spec_l2Copy] at h
  cases h
theorem sn_spec_l2Copy : Callable Try.prog 103 ∧ Sound Try.prog 103 sd_spec_l2Copy.sg sd_spec_l2Copy.den :=
  fn_plain (pat := pa_spec_l2Copy) (by kernel_rfl) si_spec_l2Copy Try.func103 (by kernel_rfl) (by kernel_rfl) (by kernel_rfl) fun x r h => by
    obtain ⟨a0, ⟨⟩⟩ := x; obtain ⟨y, h1, h2⟩ := Option.bind_eq_some_iff.1 (show (m_spec_l2Copy a0).bind (fun r => some ((r.1, r.2.1, ()), (()))) = some r from h); cases h2; exact (en_spec_l2Copy a0).trans (eq_spec_l2Copy a0 _ h1)
def m_spec_l2Sync (d : Dk) : Option Dk := if d.2.1.length ≤ 1099511627776 ∧ ∀ i, i < d.2.1.length → 0 ≤ (d.2.1.getD i zW).1 ∧ (d.2.1.getD i zW).1 < (d.1.length : Int) then some (syncD d) else none
def sg_spec_l2Sync : Sig := ⟨[.own 9 .str, .rd (.sl (.pair (.int .i64) (.pair .str .unit)))], [some 2], [.own 9 .str, .own 148 (.pair (.int .i64) (.pair .str .unit))], [some 2]⟩
noncomputable def sd_spec_l2Sync : SD := ⟨sg_spec_l2Sync, fun x => (m_spec_l2Sync (x.1, x.2.1, ())).bind fun r => some ((r.1, r.2.1, ()), (()))⟩
noncomputable def ta_spec_l2Sync : Tb := Tb.of fun f => none
def pa_spec_l2Sync : Nat → Pat × (Nat → Pat) := fun k => if k = 3 then (⟨[.boxSl 1 1 (.pair (.int .i64) (.pair .str .unit)), .boxRow 2 0 9 .str, .boxRow 2 1 148 (.pair (.int .i64) (.pair .str .unit))], [(1, .lf (.ptr 1 0)), (2, .lf (.ptr 2 0)), (3, .lf (.d (.int .i64)))], [.row 9 .str, .box 47 [.row 0, .d (.sl (.pair (.int .i64) (.pair .str .unit)))], .box 47 [.row 3, .row 4], .row 9 .str, .row 148 (.pair (.int .i64) (.pair .str .unit))]⟩, fun e => if e = 2 then ⟨[.boxSl 1 1 (.pair (.int .i64) (.pair .str .unit)), .boxRow 2 0 9 .str, .boxRow 2 1 148 (.pair (.int .i64) (.pair .str .unit))], [(1, .lf (.ptr 1 0)), (2, .lf (.ptr 2 0))], [.row 9 .str, .box 47 [.row 0, .d (.sl (.pair (.int .i64) (.pair .str .unit)))], .box 47 [.row 3, .row 4], .row 9 .str, .row 148 (.pair (.int .i64) (.pair .str .unit))]⟩ else ⟨[], [], []⟩) else (⟨[], [], []⟩, fun _ => ⟨[], [], []⟩)
noncomputable def co_spec_l2Sync_3 : Code := (loopsIn (bodyOf Try.f104)).getD 0 .skip
def fu_spec_l2Sync_3 (v3 : Int) (r0 : List ByteArray) (b1_1 : List (Int × ByteArray × Unit)) (r3 : List ByteArray) (r4 : List (Int × ByteArray × Unit)) : Nat := ((b1_1.length : Int) - v3).toNat + 1
noncomputable def tr_spec_l2Sync_3 {R : Type}  (NX : ((Int) × (List ByteArray) × (List (Int × ByteArray × Unit)) × (List ByteArray) × (List (Int × ByteArray × Unit)) × Unit) → Option R) (X2 : ((List ByteArray) × (List (Int × ByteArray × Unit)) × (List ByteArray) × (List (Int × ByteArray × Unit)) × Unit) → Option R) (v3 : Int) (r0 : List ByteArray) (b1_1 : List (Int × ByteArray × Unit)) (r3 : List ByteArray) (r4 : List (Int × ByteArray × Unit)) : Option R :=
  bif decide (v3 < nI (List.length b1_1)) then
    bif decide (0 ≤ v3) then
      bif decide (v3 < nI (List.length b1_1)) then
        bif decide (0 ≤ v3) then
          bif decide (v3 < nI (List.length b1_1)) then
            bif decide (0 ≤ (List.getD b1_1 (Int.toNat v3) (0, ByteArray.mk #[], ())).fst) then
              bif decide ((List.getD b1_1 (Int.toNat v3) (0, ByteArray.mk #[], ())).fst < nI (List.length r0)) then
                bif decide (Int.toNat (List.getD b1_1 (Int.toNat v3) (0, ByteArray.mk #[], ())).fst < List.length r0) then
                  NX
                    (IntKind.wrap IntKind.i64 (v3 + 1),
                      List.set r0 (Int.toNat (List.getD b1_1 (Int.toNat v3) (0, ByteArray.mk #[], ())).fst) (List.getD b1_1 (Int.toNat v3) (0, ByteArray.mk #[], ())).snd.fst, b1_1, r3, r4, ())
                else none
              else none
            else none
          else none
        else none
      else none
    else none
  else X2 (r0, b1_1, r3, r4, ())
noncomputable def lo_spec_l2Sync_3 : Nat → (Int) → (List ByteArray) → (List (Int × ByteArray × Unit)) → (List ByteArray) → (List (Int × ByteArray × Unit)) →  Option ((List ByteArray) × (List (Int × ByteArray × Unit)) × (List ByteArray) × (List (Int × ByteArray × Unit)) × Unit)
  | 0, _, _, _, _, _ => none
  | m + 1, v3, r0, b1_1, r3, r4 => tr_spec_l2Sync_3  (fun d => lo_spec_l2Sync_3 m d.1 d.2.1 d.2.2.1 d.2.2.2.1 d.2.2.2.2.1) (fun d => some (d)) v3 r0 b1_1 r3 r4
theorem na_spec_l2Sync_3 {R S : Type}  (NX : ((Int) × (List ByteArray) × (List (Int × ByteArray × Unit)) × (List ByteArray) × (List (Int × ByteArray × Unit)) × Unit) → Option R) (X2 : ((List ByteArray) × (List (Int × ByteArray × Unit)) × (List ByteArray) × (List (Int × ByteArray × Unit)) × Unit) → Option R) (v3 : Int) (r0 : List ByteArray) (b1_1 : List (Int × ByteArray × Unit)) (r3 : List ByteArray) (r4 : List (Int × ByteArray × Unit)) (f : R → Option S) : tr_spec_l2Sync_3  (fun d => (NX d).bind f) (fun d => (X2 d).bind f) v3 r0 b1_1 r3 r4 = (tr_spec_l2Sync_3  NX X2 v3 r0 b1_1 r3 r4).bind f := by
  unfold tr_spec_l2Sync_3
  simp only [cond_bind, ite_bind, onSum_bind, Option.bind_assoc, Option.bind_none, Option.bind_some]
noncomputable def de_spec_l2Sync (a0 : List ByteArray) (a1 : List (Int × ByteArray × Unit)) : Option ((((List ByteArray) × (List (Int × ByteArray × Unit)) × Unit) × (Unit))) :=
  Option.bind ((fun d => lo_spec_l2Sync_3 (fu_spec_l2Sync_3 d.1 d.2.1 d.2.2.1 d.2.2.2.1 d.2.2.2.2.1) d.1 d.2.1 d.2.2.1 d.2.2.2.1 d.2.2.2.2.1) (0, a0, a1, [], [], ())) fun val => some ((val.fst, [], ()), ())
theorem eq_spec_l2Sync (a0 : List ByteArray) (a1 : List Wr) r (h : m_spec_l2Sync (a0, a1, ()) = some r) : de_spec_l2Sync a0 a1 = some ((r.1, r.2.1, ()), (())) := by
  unfold m_spec_l2Sync at h
  split at h
  · rename_i hc
    obtain ⟨hp, hw⟩ := hc
    cases h
    have hL := fold_loop (xs := a1) zW (fun s : List ByteArray => s.length = a0.length) (fun _ w s => s.set w.1.toNat w.2.1) (g := fun m i s => lo_spec_l2Sync_3 m i s a1 [] []) (ok := fun s => (s, a1, [], [], ())) (fun m i s hi hs => by
      show lo_spec_l2Sync_3 (m + 1) i s a1 [] [] = _
      simp only [lo_spec_l2Sync_3, tr_spec_l2Sync_3]
      obtain ⟨h0, h1⟩ := hw i hi
      have c1 : decide (0 ≤ (List.getD a1 i (0, ByteArray.mk #[], ())).1) = true := decide_eq_true h0
      have c2 : decide ((List.getD a1 i (0, ByteArray.mk #[], ())).1 < nI s.length) = true := decide_eq_true (by rw [hs]; exact h1)
      have c3 : decide (Int.toNat (List.getD a1 i (0, ByteArray.mk #[], ())).1 < s.length) = true := decide_eq_true (by
        rw [hs]
        have : (a1.getD i zW).1.toNat < a0.length := by
          have h0 : 0 ≤ (a1.getD i zW).1 := h0
          have h1 : (a1.getD i zW).1 < (a0.length : Int) := h1
          omega
        exact this)
      rw [cLt hi, cLe0, wI (show i < 4611686018427387904 by have hp : a1.length ≤ 1099511627776 := hp; omega), Int.toNat_natCast, c1, c2, c3]
      rfl) (fun i s hi hs => by rw [List.length_set]; exact hs) (fun m s hs => by
      show lo_spec_l2Sync_3 (m + 1) (a1.length : Int) s a1 [] [] = _
      simp only [lo_spec_l2Sync_3, tr_spec_l2Sync_3]
      rw [cLtF]
      rfl) (fu_spec_l2Sync_3 0 a0 a1 [] []) 0 a0 (by omega) (by simp [fu_spec_l2Sync_3]) rfl
    have hL' : lo_spec_l2Sync_3 (fu_spec_l2Sync_3 0 a0 a1 [] []) 0 a0 a1 [] [] = _ := hL
    unfold de_spec_l2Sync
    show (lo_spec_l2Sync_3 (fu_spec_l2Sync_3 0 a0 a1 [] []) 0 a0 a1 [] []).bind _ = _
    rw [hL']
    rfl
  · cases h
noncomputable def ou_spec_l2Sync_3 {R : Type} (k : Kt R) : ((List ByteArray) × (List (Int × ByteArray × Unit)) × (List ByteArray) × (List (Int × ByteArray × Unit)) × Unit) → Option R := (fun d => k (.exit 0) (((pa_spec_l2Sync 3).2 2).st d) (((pa_spec_l2Sync 3).2 2).nid))
noncomputable def L_spec_l2Sync {R : Type} : Lt R pa_spec_l2Sync := (addL (pat := pa_spec_l2Sync) 3 (fun d k => (lo_spec_l2Sync_3 (fu_spec_l2Sync_3 d.1 d.2.1 d.2.2.1 d.2.2.2.1 d.2.2.2.2.1) d.1 d.2.1 d.2.2.1 d.2.2.2.1 d.2.2.2.2.1).bind (ou_spec_l2Sync_3 k)) noL)
theorem rd_spec_l2Sync_3 {R : Type} (nx : (pa_spec_l2Sync 3).1.D → Kt R → Option R) (k : Kt R) (v3 : Int) (r0 : List ByteArray) (b1_1 : List (Int × ByteArray × Unit)) (r3 : List ByteArray) (r4 : List (Int × ByteArray × Unit)) : ev Try.prog ⟨ta_spec_l2Sync, 1, 29, pa_spec_l2Sync⟩ L_spec_l2Sync co_spec_l2Sync_3 ((pa_spec_l2Sync 3).1.st (v3, r0, b1_1, r3, r4, ())) (pa_spec_l2Sync 3).1.nid (roundK 1 (pa_spec_l2Sync 3) nx k) = tr_spec_l2Sync_3  (fun d => nx d k) (fun d => k (.exit 0) (((pa_spec_l2Sync 3).2 2).st d) (((pa_spec_l2Sync 3).2 2).nid)) v3 r0 b1_1 r3 r4 := by kernel_rfl
theorem lp_spec_l2Sync_3 {R : Type} : ∀ (m : Nat) (d : (pa_spec_l2Sync 3).1.D) (k : Kt R), loopN 1 (pa_spec_l2Sync 3) (fun s nid k => ev Try.prog ⟨ta_spec_l2Sync, 1, 29, pa_spec_l2Sync⟩ L_spec_l2Sync co_spec_l2Sync_3 s nid k) m d k = (lo_spec_l2Sync_3 m d.1 d.2.1 d.2.2.1 d.2.2.2.1 d.2.2.2.2.1).bind (ou_spec_l2Sync_3 k)
  | 0, _, _ => rfl
  | m + 1, ⟨v3, r0, b1_1, r3, r4, ⟨⟩⟩, k => (rd_spec_l2Sync_3 _ k v3 r0 b1_1 r3 r4).trans ((congrArg (fun F => tr_spec_l2Sync_3  F (fun d => k (.exit 0) (((pa_spec_l2Sync 3).2 2).st d) (((pa_spec_l2Sync 3).2 2).nid)) v3 r0 b1_1 r3 r4) (funext fun d => lp_spec_l2Sync_3 m d k)).trans (na_spec_l2Sync_3 (f := ou_spec_l2Sync_3 k)  (fun d => lo_spec_l2Sync_3 m d.1 d.2.1 d.2.2.1 d.2.2.2.1 d.2.2.2.2.1) (fun d => some (d)) v3 r0 b1_1 r3 r4))
theorem en_spec_l2Sync (a0 : List ByteArray) (a1 : List (Int × ByteArray × Unit)) : evalF Try.prog ta_spec_l2Sync pa_spec_l2Sync sg_spec_l2Sync Try.f104 L_spec_l2Sync (a0, a1, ()) = de_spec_l2Sync a0 a1 := by kernel_rfl
theorem si_spec_l2Sync : SigsOk Try.prog ta_spec_l2Sync := SigsOk.of fun f sd h => by
  try dsimp only [Tb.of, ta_spec_l2Sync] at h
  cases h
theorem lk_spec_l2Sync_3 {R : Type} : LoopOk Try.prog R 29 1 pa_spec_l2Sync L_spec_l2Sync co_spec_l2Sync_3 :=
  loop_key (cfg := ⟨ta_spec_l2Sync, 1, 29, pa_spec_l2Sync⟩) (key := 3) (by kernel_rfl) (by kernel_rfl) si_spec_l2Sync rfl rfl (fun d k r h => ⟨fu_spec_l2Sync_3 d.1 d.2.1 d.2.2.1 d.2.2.2.1 d.2.2.2.2.1, (lp_spec_l2Sync_3 _ d k).trans h⟩) (fun c hc => by rw [show loopsIn co_spec_l2Sync_3 = [] from by kernel_rfl] at hc; cases hc)
theorem sn_spec_l2Sync : Callable Try.prog 104 ∧ Sound Try.prog 104 sd_spec_l2Sync.sg sd_spec_l2Sync.den :=
  fn_loops (pat := pa_spec_l2Sync) L_spec_l2Sync (by kernel_rfl) si_spec_l2Sync Try.func104 (by kernel_rfl) (by kernel_rfl) (fun c hc => by rw [show loopsIn (bodyOf Try.f104) = [co_spec_l2Sync_3] from by kernel_rfl] at hc; simp only [List.mem_cons, List.not_mem_nil, or_false] at hc; rcases hc with rfl <;> first | exact lk_spec_l2Sync_3) fun x r h => by
    obtain ⟨a0, a1, ⟨⟩⟩ := x; obtain ⟨y, h1, h2⟩ := Option.bind_eq_some_iff.1 (show (m_spec_l2Sync (a0, a1, ())).bind (fun r => some ((r.1, r.2.1, ()), (()))) = some r from h); cases h2; exact (en_spec_l2Sync a0 a1).trans (eq_spec_l2Sync a0 a1 _ h1)
def m_spec_l3Goes (was p : Pg) : Bool := goesK was.1 was.2.1 p
def sg_spec_l3Goes : Sig := ⟨[.rd (.pair (.int .i64) (.pair (.int .i64) (.pair (.int .i64) (.pair .str .unit)))), .rd (.pair (.int .i64) (.pair (.int .i64) (.pair (.int .i64) (.pair .str .unit))))], [some 4, some 4], [.rd .bool], [none]⟩
noncomputable def sd_spec_l3Goes : SD := ⟨sg_spec_l3Goes, fun x => some (((m_spec_l3Goes x.1 x.2.1), ()), (()))⟩
noncomputable def ta_spec_l3Goes : Tb := Tb.of fun f => none
def pa_spec_l3Goes : Nat → Pat × (Nat → Pat) := fun k => (⟨[], [], []⟩, fun _ => ⟨[], [], []⟩)
noncomputable def de_spec_l3Goes (a0 : Int × Int × Int × ByteArray × Unit) (a1 : Int × Int × Int × ByteArray × Unit) : Option ((((Bool) × Unit) × (Unit))) :=
  bif decide (a1.snd.fst < a0.snd.fst) then some ((false, ()), ())
  else
    bif a1.fst == 3 then some ((a0.fst != 1, ()), ())
    else
      bif a1.fst == 1 then bif a0.fst != 1 then some ((true, ()), ()) else some ((a0.snd.fst == a1.snd.fst, ()), ())
      else bif a1.fst == 2 then bif a0.fst != 1 then some ((true, ()), ()) else some ((a0.snd.fst == a1.snd.fst, ()), ()) else some ((false, ()), ())
theorem eq_spec_l3Goes (a0 : Int × Int × Int × ByteArray × Unit) (a1 : Int × Int × Int × ByteArray × Unit) : de_spec_l3Goes a0 a1 = some (((m_spec_l3Goes a0 a1), ()), (())) := by
  unfold de_spec_l3Goes m_spec_l3Goes goesK
  cases decide (a1.2.1 < a0.2.1) <;> cases (a1.1 == 3) <;> cases (a1.1 == 1) <;> cases (a1.1 == 2) <;> cases (a0.1 != 1) <;> rfl
theorem en_spec_l3Goes (a0 : Int × Int × Int × ByteArray × Unit) (a1 : Int × Int × Int × ByteArray × Unit) : evalF Try.prog ta_spec_l3Goes pa_spec_l3Goes sg_spec_l3Goes Try.f134 noL (a0, a1, ()) = de_spec_l3Goes a0 a1 := by kernel_rfl
theorem si_spec_l3Goes : SigsOk Try.prog ta_spec_l3Goes := SigsOk.of fun f sd h => by
  try dsimp only [Tb.of, ta_spec_l3Goes] at h
  cases h
theorem sn_spec_l3Goes : Callable Try.prog 134 ∧ Sound Try.prog 134 sd_spec_l3Goes.sg sd_spec_l3Goes.den :=
  fn_plain (pat := pa_spec_l3Goes) (by kernel_rfl) si_spec_l3Goes Try.func134 (by kernel_rfl) (by kernel_rfl) (by kernel_rfl) fun x r h => by
    obtain ⟨a0, a1, ⟨⟩⟩ := x; rw [← h]; exact (en_spec_l3Goes a0 a1).trans (eq_spec_l3Goes a0 a1)
def m_spec_Scan (d : Dk) (from_ size first life w : Int) : Scd := scanS d from_ size first life w
def sg_spec_Scan : Sig := ⟨[.rd (.pair (.sl .str) (.pair (.sl (.pair (.int .i64) (.pair .str .unit))) .unit)), .rd (.int .i64), .rd (.int .i64), .rd (.int .i64), .rd (.int .i64), .rd (.int .i64)], [some 2, none, none, none, none, none], [.own 9 .str, .rd (.int .i64), .rd (.int .i64)], [some 3]⟩
noncomputable def sd_spec_Scan : SD := ⟨sg_spec_Scan, fun x => some (((m_spec_Scan x.1 x.2.1 x.2.2.1 x.2.2.2.1 x.2.2.2.2.1 x.2.2.2.2.2.1).1, (m_spec_Scan x.1 x.2.1 x.2.2.1 x.2.2.2.1 x.2.2.2.2.1 x.2.2.2.2.2.1).2.1, (m_spec_Scan x.1 x.2.1 x.2.2.1 x.2.2.2.1 x.2.2.2.2.1 x.2.2.2.2.2.1).2.2.1, ()), (()))⟩
noncomputable def ta_spec_Scan : Tb := Tb.of fun f => if f = 83 then some sd_spec_ReadPage else if f = 102 then some sd_spec_ValidDisk else if f = 103 then some sd_spec_l2Copy else if f = 104 then some sd_spec_l2Sync else if f = 120 then some sd_spec_l1Width else if f = 134 then some sd_spec_l3Goes else none
def pa_spec_Scan : Nat → Pat × (Nat → Pat) := fun k => if k = 9 then (⟨[.boxRow 12 0 9 .str, .boxSl 13 0 .str, .boxSl 13 1 (.pair (.int .i64) (.pair .str .unit)), .boxRow 14 0 9 .str], [(1, .lf (.d (.int .i64))), (2, .lf (.d (.int .i64))), (3, .lf (.d (.int .i64))), (5, .lf (.d (.int .i64))), (12, .lf (.ptr 0 0)), (13, .lf (.ptr 1 0)), (14, .lf (.ptr 2 0)), (15, .lf (.ptr 3 0)), (16, .lf (.d .str)), (17, .lf (.d (.int .i64)))], [.box 83 [.row 4, .d (.int .i64), .d (.int .i64)], .box 47 [.d (.sl .str), .d (.sl (.pair (.int .i64) (.pair .str .unit)))], .box 83 [.row 5, .d (.int .i64), .d (.int .i64)], .box 113 [.d (.int .i64), .d (.int .i64), .d (.int .i64), .d .str], .row 9 .str, .row 9 .str]⟩, fun e => if e = 1 then ⟨[.boxRow 12 0 9 .str], [(12, .lf (.ptr 0 0))], [.box 83 [.row 1, .d (.int .i64), .d (.int .i64)], .row 9 .str]⟩ else if e = 2 then ⟨[.boxRow 12 0 9 .str, .boxRow 14 0 9 .str], [(12, .lf (.ptr 0 0)), (14, .lf (.ptr 1 0))], [.box 83 [.row 2, .d (.int .i64), .d (.int .i64)], .box 83 [.row 3, .d (.int .i64), .d (.int .i64)], .row 9 .str, .row 9 .str]⟩ else ⟨[], [], []⟩) else (⟨[], [], []⟩, fun _ => ⟨[], [], []⟩)
noncomputable def co_spec_Scan_9 : Code := (loopsIn (bodyOf Try.f53)).getD 0 .skip
def fu_spec_Scan_9 (v1 : Int) (v2 : Int) (v3 : Int) (v5 : Int) (v16 : ByteArray) (v17 : Int) (b0_1 : Int) (b0_2 : Int) (b1_0 : List ByteArray) (b1_1 : List (Int × ByteArray × Unit)) (b2_1 : Int) (b2_2 : Int) (b3_0 : Int) (b3_1 : Int) (b3_2 : Int) (b3_3 : ByteArray) (r4 : List ByteArray) (r5 : List ByteArray) : Nat := (v2 - v17).toNat + 1
noncomputable def tr_spec_Scan_9 {R : Type}  (NX : ((Int) × (Int) × (Int) × (Int) × (ByteArray) × (Int) × (Int) × (Int) × (List ByteArray) × (List (Int × ByteArray × Unit)) × (Int) × (Int) × (Int) × (Int) × (Int) × (ByteArray) × (List ByteArray) × (List ByteArray) × Unit) → Option R) (X2 : ((Int) × (Int) × (Int) × (Int) × (List ByteArray) × (List ByteArray) × Unit) → Option R) (X1 : ((Int) × (Int) × (List ByteArray) × Unit) → Option R) (v1 : Int) (v2 : Int) (v3 : Int) (v5 : Int) (v16 : ByteArray) (v17 : Int) (b0_1 : Int) (b0_2 : Int) (b1_0 : List ByteArray) (b1_1 : List (Int × ByteArray × Unit)) (b2_1 : Int) (b2_2 : Int) (b3_0 : Int) (b3_1 : Int) (b3_2 : Int) (b3_3 : ByteArray) (r4 : List ByteArray) (r5 : List ByteArray) : Option R :=
  bif decide (v17 < v2) then
    bif decide (0 ≤ IntKind.wrap IntKind.i64 (v1 + v17)) then
      bif decide (IntKind.wrap IntKind.i64 (v1 + v17) < nI (List.length b1_0)) then
        bif !(m_spec_ReadPage (List.getD b1_0 (Int.toNat (IntKind.wrap IntKind.i64 (v1 + v17))) (ByteArray.mk #[])) v5).snd then X1 (b2_1, b2_2, r5, ())
        else
          bif IntKind.wrap IntKind.i64 ((m_spec_ReadPage (List.getD b1_0 (Int.toNat (IntKind.wrap IntKind.i64 (v1 + v17))) (ByteArray.mk #[])) v5).fst.snd.snd.fst - v17) != v3 then
            X1 (b2_1, b2_2, r5, ())
          else
            bif
                !m_spec_l3Goes (b3_0, b3_1, b3_2, b3_3, ())
                    ((m_spec_ReadPage (List.getD b1_0 (Int.toNat (IntKind.wrap IntKind.i64 (v1 + v17))) (ByteArray.mk #[])) v5).fst.fst,
                      (m_spec_ReadPage (List.getD b1_0 (Int.toNat (IntKind.wrap IntKind.i64 (v1 + v17))) (ByteArray.mk #[])) v5).fst.snd.fst,
                      (m_spec_ReadPage (List.getD b1_0 (Int.toNat (IntKind.wrap IntKind.i64 (v1 + v17))) (ByteArray.mk #[])) v5).fst.snd.snd.fst,
                      (m_spec_ReadPage (List.getD b1_0 (Int.toNat (IntKind.wrap IntKind.i64 (v1 + v17))) (ByteArray.mk #[])) v5).fst.snd.snd.snd.fst, ()) then
              X1 (b2_1, b2_2, r5, ())
            else
              bif
                  decide
                    (ByteArray.size v16 + ByteArray.size (m_spec_ReadPage (List.getD b1_0 (Int.toNat (IntKind.wrap IntKind.i64 (v1 + v17))) (ByteArray.mk #[])) v5).fst.snd.snd.snd.fst ≤
                      9223372036854775807) then
                bif (m_spec_ReadPage (List.getD b1_0 (Int.toNat (IntKind.wrap IntKind.i64 (v1 + v17))) (ByteArray.mk #[])) v5).fst.fst == 1 then
                  NX
                    (v1, v2, v3, v5, v16 ++ (m_spec_ReadPage (List.getD b1_0 (Int.toNat (IntKind.wrap IntKind.i64 (v1 + v17))) (ByteArray.mk #[])) v5).fst.snd.snd.snd.fst,
                      IntKind.wrap IntKind.i64 (v17 + 1), b0_1, b0_2, b1_0, b1_1, b2_1, b2_2,
                      (m_spec_ReadPage (List.getD b1_0 (Int.toNat (IntKind.wrap IntKind.i64 (v1 + v17))) (ByteArray.mk #[])) v5).fst.fst,
                      (m_spec_ReadPage (List.getD b1_0 (Int.toNat (IntKind.wrap IntKind.i64 (v1 + v17))) (ByteArray.mk #[])) v5).fst.snd.fst,
                      (m_spec_ReadPage (List.getD b1_0 (Int.toNat (IntKind.wrap IntKind.i64 (v1 + v17))) (ByteArray.mk #[])) v5).fst.snd.snd.fst,
                      (m_spec_ReadPage (List.getD b1_0 (Int.toNat (IntKind.wrap IntKind.i64 (v1 + v17))) (ByteArray.mk #[])) v5).fst.snd.snd.snd.fst, r4, r5, ())
                else
                  bif (m_spec_ReadPage (List.getD b1_0 (Int.toNat (IntKind.wrap IntKind.i64 (v1 + v17))) (ByteArray.mk #[])) v5).fst.fst == 2 then
                    bif
                        decide
                          ((List.length r5 + List.length [v16 ++ (m_spec_ReadPage (List.getD b1_0 (Int.toNat (IntKind.wrap IntKind.i64 (v1 + v17))) (ByteArray.mk #[])) v5).fst.snd.snd.snd.fst]) * 16 ≤
                            140737488355328) then
                      NX
                        (v1, v2, v3, v5, ByteArray.mk #[], IntKind.wrap IntKind.i64 (v17 + 1), b0_1, b0_2, b1_0, b1_1, IntKind.wrap IntKind.i64 (v17 + 1),
                          (m_spec_ReadPage (List.getD b1_0 (Int.toNat (IntKind.wrap IntKind.i64 (v1 + v17))) (ByteArray.mk #[])) v5).fst.snd.fst,
                          (m_spec_ReadPage (List.getD b1_0 (Int.toNat (IntKind.wrap IntKind.i64 (v1 + v17))) (ByteArray.mk #[])) v5).fst.fst,
                          (m_spec_ReadPage (List.getD b1_0 (Int.toNat (IntKind.wrap IntKind.i64 (v1 + v17))) (ByteArray.mk #[])) v5).fst.snd.fst,
                          (m_spec_ReadPage (List.getD b1_0 (Int.toNat (IntKind.wrap IntKind.i64 (v1 + v17))) (ByteArray.mk #[])) v5).fst.snd.snd.fst,
                          (m_spec_ReadPage (List.getD b1_0 (Int.toNat (IntKind.wrap IntKind.i64 (v1 + v17))) (ByteArray.mk #[])) v5).fst.snd.snd.snd.fst, r4,
                          r5 ++ [v16 ++ (m_spec_ReadPage (List.getD b1_0 (Int.toNat (IntKind.wrap IntKind.i64 (v1 + v17))) (ByteArray.mk #[])) v5).fst.snd.snd.snd.fst], ())
                    else none
                  else
                    NX
                      (v1, v2, v3, v5, ByteArray.mk #[], IntKind.wrap IntKind.i64 (v17 + 1), b0_1, b0_2, b1_0, b1_1, IntKind.wrap IntKind.i64 (v17 + 1),
                        (m_spec_ReadPage (List.getD b1_0 (Int.toNat (IntKind.wrap IntKind.i64 (v1 + v17))) (ByteArray.mk #[])) v5).fst.snd.fst,
                        (m_spec_ReadPage (List.getD b1_0 (Int.toNat (IntKind.wrap IntKind.i64 (v1 + v17))) (ByteArray.mk #[])) v5).fst.fst,
                        (m_spec_ReadPage (List.getD b1_0 (Int.toNat (IntKind.wrap IntKind.i64 (v1 + v17))) (ByteArray.mk #[])) v5).fst.snd.fst,
                        (m_spec_ReadPage (List.getD b1_0 (Int.toNat (IntKind.wrap IntKind.i64 (v1 + v17))) (ByteArray.mk #[])) v5).fst.snd.snd.fst,
                        (m_spec_ReadPage (List.getD b1_0 (Int.toNat (IntKind.wrap IntKind.i64 (v1 + v17))) (ByteArray.mk #[])) v5).fst.snd.snd.snd.fst, r4, r5, ())
              else none
      else none
    else none
  else X2 (b0_1, b0_2, b2_1, b2_2, r4, r5, ())
noncomputable def lo_spec_Scan_9 : Nat → (Int) → (Int) → (Int) → (Int) → (ByteArray) → (Int) → (Int) → (Int) → (List ByteArray) → (List (Int × ByteArray × Unit)) → (Int) → (Int) → (Int) → (Int) → (Int) → (ByteArray) → (List ByteArray) → (List ByteArray) →  Option (((Int) × (Int) × (Int) × (Int) × (List ByteArray) × (List ByteArray) × Unit) ⊕ ((Int) × (Int) × (List ByteArray) × Unit))
  | 0, _, _, _, _, _, _, _, _, _, _, _, _, _, _, _, _, _, _ => none
  | m + 1, v1, v2, v3, v5, v16, v17, b0_1, b0_2, b1_0, b1_1, b2_1, b2_2, b3_0, b3_1, b3_2, b3_3, r4, r5 => tr_spec_Scan_9  (fun d => lo_spec_Scan_9 m d.1 d.2.1 d.2.2.1 d.2.2.2.1 d.2.2.2.2.1 d.2.2.2.2.2.1 d.2.2.2.2.2.2.1 d.2.2.2.2.2.2.2.1 d.2.2.2.2.2.2.2.2.1 d.2.2.2.2.2.2.2.2.2.1 d.2.2.2.2.2.2.2.2.2.2.1 d.2.2.2.2.2.2.2.2.2.2.2.1 d.2.2.2.2.2.2.2.2.2.2.2.2.1 d.2.2.2.2.2.2.2.2.2.2.2.2.2.1 d.2.2.2.2.2.2.2.2.2.2.2.2.2.2.1 d.2.2.2.2.2.2.2.2.2.2.2.2.2.2.2.1 d.2.2.2.2.2.2.2.2.2.2.2.2.2.2.2.2.1 d.2.2.2.2.2.2.2.2.2.2.2.2.2.2.2.2.2.1) (fun d => some (.inl (d))) (fun d => some (.inr (d))) v1 v2 v3 v5 v16 v17 b0_1 b0_2 b1_0 b1_1 b2_1 b2_2 b3_0 b3_1 b3_2 b3_3 r4 r5
theorem na_spec_Scan_9 {R S : Type}  (NX : ((Int) × (Int) × (Int) × (Int) × (ByteArray) × (Int) × (Int) × (Int) × (List ByteArray) × (List (Int × ByteArray × Unit)) × (Int) × (Int) × (Int) × (Int) × (Int) × (ByteArray) × (List ByteArray) × (List ByteArray) × Unit) → Option R) (X2 : ((Int) × (Int) × (Int) × (Int) × (List ByteArray) × (List ByteArray) × Unit) → Option R) (X1 : ((Int) × (Int) × (List ByteArray) × Unit) → Option R) (v1 : Int) (v2 : Int) (v3 : Int) (v5 : Int) (v16 : ByteArray) (v17 : Int) (b0_1 : Int) (b0_2 : Int) (b1_0 : List ByteArray) (b1_1 : List (Int × ByteArray × Unit)) (b2_1 : Int) (b2_2 : Int) (b3_0 : Int) (b3_1 : Int) (b3_2 : Int) (b3_3 : ByteArray) (r4 : List ByteArray) (r5 : List ByteArray) (f : R → Option S) : tr_spec_Scan_9  (fun d => (NX d).bind f) (fun d => (X2 d).bind f) (fun d => (X1 d).bind f) v1 v2 v3 v5 v16 v17 b0_1 b0_2 b1_0 b1_1 b2_1 b2_2 b3_0 b3_1 b3_2 b3_3 r4 r5 = (tr_spec_Scan_9  NX X2 X1 v1 v2 v3 v5 v16 v17 b0_1 b0_2 b1_0 b1_1 b2_1 b2_2 b3_0 b3_1 b3_2 b3_3 r4 r5).bind f := by
  unfold tr_spec_Scan_9
  simp only [cond_bind, ite_bind, onSum_bind, Option.bind_assoc, Option.bind_none, Option.bind_some]
noncomputable def de_spec_Scan (a0 : (List ByteArray) × (List (Int × ByteArray × Unit)) × Unit) (a1 : Int) (a2 : Int) (a3 : Int) (a4 : Int) (a5 : Int) : Option ((((List ByteArray) × (Int) × (Int) × Unit) × (Unit))) :=
  bif !m_spec_ValidDisk (a0.fst, a0.snd.fst, ()) then some (([], 0, 0, ()), ())
  else
    Option.bind (bif decide (a5 ≥ 1) then some ((decide (a5 ≤ 8), ()), ()) else some ((false, ()), ())) fun val =>
      bif !val.fst.fst then some (([], 0, 0, ()), ())
      else
        bif decide (a1 < 0) then some (([], 0, 0, ()), ())
        else
          bif decide (a2 < 0) then some (([], 0, 0, ()), ())
          else
            bif decide (a1 > nI (List.length a0.fst)) then some (([], 0, 0, ()), ())
            else
              bif decide (a2 > IntKind.wrap IntKind.i64 (nI (List.length a0.fst) - a1)) then some (([], 0, 0, ()), ())
              else
                Option.bind (Option.bind (m_spec_l2Copy (a0.fst, a0.snd.fst, ())) fun val => some ((val.fst, val.snd.fst, ()), ())) fun val =>
                  Option.bind (Option.bind (m_spec_l2Sync (val.fst.fst, val.fst.snd.fst, ())) fun val => some ((val.fst, val.snd.fst, ()), ())) fun val =>
                    Option.bind ((fun d => lo_spec_Scan_9 (fu_spec_Scan_9 d.1 d.2.1 d.2.2.1 d.2.2.2.1 d.2.2.2.2.1 d.2.2.2.2.2.1 d.2.2.2.2.2.2.1 d.2.2.2.2.2.2.2.1 d.2.2.2.2.2.2.2.2.1 d.2.2.2.2.2.2.2.2.2.1 d.2.2.2.2.2.2.2.2.2.2.1 d.2.2.2.2.2.2.2.2.2.2.2.1 d.2.2.2.2.2.2.2.2.2.2.2.2.1 d.2.2.2.2.2.2.2.2.2.2.2.2.2.1 d.2.2.2.2.2.2.2.2.2.2.2.2.2.2.1 d.2.2.2.2.2.2.2.2.2.2.2.2.2.2.2.1 d.2.2.2.2.2.2.2.2.2.2.2.2.2.2.2.2.1 d.2.2.2.2.2.2.2.2.2.2.2.2.2.2.2.2.2.1) d.1 d.2.1 d.2.2.1 d.2.2.2.1 d.2.2.2.2.1 d.2.2.2.2.2.1 d.2.2.2.2.2.2.1 d.2.2.2.2.2.2.2.1 d.2.2.2.2.2.2.2.2.1 d.2.2.2.2.2.2.2.2.2.1 d.2.2.2.2.2.2.2.2.2.2.1 d.2.2.2.2.2.2.2.2.2.2.2.1 d.2.2.2.2.2.2.2.2.2.2.2.2.1 d.2.2.2.2.2.2.2.2.2.2.2.2.2.1 d.2.2.2.2.2.2.2.2.2.2.2.2.2.2.1 d.2.2.2.2.2.2.2.2.2.2.2.2.2.2.2.1 d.2.2.2.2.2.2.2.2.2.2.2.2.2.2.2.2.1 d.2.2.2.2.2.2.2.2.2.2.2.2.2.2.2.2.2.1) (a1, a2, a3, a5, ByteArray.mk #[], 0, 0, 0, val.fst.fst, val.fst.snd.fst, 0, a4, 0, a4, 0, ByteArray.mk #[], [], [], ())) fun val =>
                      onSum (fun val => some ((val.snd.snd.snd.snd.snd.fst, val.snd.snd.fst, val.snd.snd.snd.fst, ()), ())) (fun val => some ((val.snd.snd.fst, val.fst, val.snd.fst, ()), ())) val
def outScan (y : (Int × Int × Int × Int × List ByteArray × List ByteArray × Unit) ⊕ (Int × Int × List ByteArray × Unit)) : Scd := match y with
  | .inl v => (v.2.2.2.2.2.1, v.2.2.1, v.2.2.2.1, ())
  | .inr v => (v.2.2.1, v.1, v.2.1, ())
theorem scan_loop {d : Dk} (hd : DiskOk d) (f n : Nat) (hfn : f + n ≤ d.1.length) (first w b1 b2 : Int) (r4 : List ByteArray) : ∀ (k m i : Nat) (st : ScT) (num : Int) (part : ByteArray), i + k = n → k < m → ScanI i st →
    ∃ y, lo_spec_Scan_9 m f n first w st.2.2.1 i b1 b2 (syncS d.1 d.2.1) [] st.2.2.2.2.1 st.2.2.2.2.2 st.1 st.2.1 num part r4 st.2.2.2.1 = some y ∧ outScan y = scanGo w first (seen d f i k) i st
  | 0, m + 1, i, st, num, part, hi, _, _ => by
    simp only [lo_spec_Scan_9, tr_spec_Scan_9]
    rw [decide_eq_false (show ¬ (i : Int) < (n : Int) by omega)]
    exact ⟨_, rfl, rfl⟩
  | k + 1, m + 1, i, st, num, part, hi, hm, hI => by
    have h200 := hd.n200
    have e1 : IntKind.wrap IntKind.i64 ((f : Int) + (i : Int)) = ((f + i : Nat) : Int) := by rw [wrap_ok (by omega) (by omega)]; omega
    have e2 : List.getD (syncS d.1 d.2.1) (f + i) (ByteArray.mk #[]) = seeD d ((f : Int) + (i : Int)) := see_sync hd (by omega)
    have e3 : decide (((f + i : Nat) : Int) < nI (syncS d.1 d.2.1).length) = true := decide_eq_true (by rw [syncS_length]; simp only [nI]; omega)
    have e4 : IntKind.wrap IntKind.i64 ((i : Int) + 1) = ((i + 1 : Nat) : Int) := wI (by omega)
    have es : seen d f i (k + 1) = seeD d ((f : Int) + (i : Int)) :: seen d f (i + 1) k := rfl
    simp only [lo_spec_Scan_9, tr_spec_Scan_9]
    rw [es, decide_eq_true (show (i : Int) < (n : Int) by omega)]
    simp only [e1, e2, e3, e4, cLe0, cond_true, Int.toNat_natCast, m_spec_ReadPage, m_spec_l3Goes]
    unfold scanGo scanOk
    generalize hx : seeD d ((f : Int) + (i : Int)) = x
    generalize hR : readP x w = R
    obtain ⟨p, ok⟩ := R
    cases ok with
    | false => exact ⟨_, rfl, rfl⟩
    | true =>
      obtain ⟨q1, q2, q3⟩ := page_in hR
      have e5 : IntKind.wrap IntKind.i64 (p.2.2.1 - (i : Int)) = p.2.2.1 - (i : Int) := wrap_ok (by omega) (by omega)
      simp only [e5, Bool.not_true, cond_false, Bool.true_and, bne]
      cases hn : (p.2.2.1 - (i : Int) == first) with
      | false => exact ⟨_, rfl, rfl⟩
      | true =>
        simp only [Bool.not_true, cond_false, Bool.true_and]
        have hg : goesK st.1 st.2.1 (p.1, p.2.1, p.2.2.1, p.2.2.2.1, ()) = goesK st.1 st.2.1 p := rfl
        simp only [hg]
        cases hgo : goesK st.1 st.2.1 p with
        | false => exact ⟨_, rfl, rfl⟩
        | true =>
          have hN := hI.next (by omega) q3
          have e6 : decide (ByteArray.size st.2.2.1 + ByteArray.size p.2.2.2.1 ≤ 9223372036854775807) = true := decide_eq_true (by have := hI.2.1; omega)
          have e7 : decide ((List.length st.2.2.2.1 + 1) * 16 ≤ 140737488355328) = true := decide_eq_true (by have := hI.2.2; omega)
          simp only [e6, Bool.not_true, cond_false, cond_true, List.length_singleton, e7]
          have ih := fun num part => scan_loop hd f n hfn first w b1 b2 r4 k m (i + 1) (scanNext i p st) num part (by omega) (by omega) hN
          have ei : (i : Int) + 1 = ((i + 1 : Nat) : Int) := by omega
          rw [ei]
          unfold scanNext at ih ⊢
          cases h1 : (p.1 == 1) with
          | true =>
            have hp : p.1 = 1 := eq_of_beq h1
            rw [h1] at ih
            have := ih p.2.2.1 p.2.2.2.1
            rw [hp]
            exact this
          | false =>
            rw [h1] at ih
            cases h2 : (p.1 == 2) with
            | true =>
              have hp : p.1 = 2 := eq_of_beq h2
              rw [h2] at ih
              have := ih p.2.2.1 p.2.2.2.1
              rw [hp]
              simp only [cond_false, cond_true, ei] at this ⊢
              exact this
            | false =>
              rw [h2] at ih
              have := ih p.2.2.1 p.2.2.2.1
              simp only [cond_false, ei] at this ⊢
              exact this
theorem eq_spec_Scan (a0 : (List ByteArray) × (List (Int × ByteArray × Unit)) × Unit) (a1 : Int) (a2 : Int) (a3 : Int) (a4 : Int) (a5 : Int) : de_spec_Scan a0 a1 a2 a3 a4 a5 = some (((m_spec_Scan a0 a1 a2 a3 a4 a5).1, (m_spec_Scan a0 a1 a2 a3 a4 a5).2.1, (m_spec_Scan a0 a1 a2 a3 a4 a5).2.2.1, ()), (())) := by
  unfold de_spec_Scan m_spec_Scan scanS
  show (bif !validDisk a0 then _ else _) = _
  cases hv : validDisk a0 with
  | false => rfl
  | true =>
    have hd := disk_ok hv
    simp only [Bool.not_true, cond_false]
    refine bi_ (wid a5) ?_
    cases hw : inB a5 1 8 with
    | false => rfl
    | true =>
      simp only [Bool.not_true, cond_false]
      have h200 := hd.n200
      by_cases h1 : a1 < 0
      · rw [decide_eq_true h1, decide_eq_false (show ¬ 0 ≤ a1 by omega)]; rfl
      · rw [decide_eq_false h1, decide_eq_true (show 0 ≤ a1 by omega)]
        by_cases h2 : a2 < 0
        · rw [decide_eq_true h2, decide_eq_false (show ¬ 0 ≤ a2 by omega)]; rfl
        · rw [decide_eq_false h2, decide_eq_true (show 0 ≤ a2 by omega)]
          by_cases h3 : a1 > nI a0.1.length
          · rw [decide_eq_true h3, decide_eq_false (show ¬ a1 ≤ (a0.1.length : Int) by simp only [nI] at h3; omega)]; rfl
          · have h3' : a1 ≤ (a0.1.length : Int) := by simp only [nI] at h3; omega
            rw [decide_eq_false h3, decide_eq_true h3']
            rw [wrap_ok (n := nI a0.1.length - a1) (by simp only [nI]; omega) (by simp only [nI]; omega)]
            by_cases h4 : a2 > nI a0.1.length - a1
            · rw [decide_eq_true h4, decide_eq_false (show ¬ a2 ≤ (a0.1.length : Int) - a1 by simp only [nI] at h4; omega)]; rfl
            · have h4' : a2 ≤ (a0.1.length : Int) - a1 := by simp only [nI] at h4; omega
              rw [decide_eq_false h4, decide_eq_true h4']
              simp only [cond_false, cond_true, Bool.true_and, Bool.and_self]
              have c1 : m_spec_l2Copy (a0.1, a0.2.1, ()) = some (a0.1, a0.2.1, ()) := if_pos ⟨Nat.le_trans hd.n200 (by decide), Nat.le_trans hd.p300 (by decide)⟩
              have c2 : m_spec_l2Sync (a0.1, a0.2.1, ()) = some (syncD a0) := if_pos ⟨Nat.le_trans hd.p300 (by decide), fun k hk => ⟨(hd.pen k hk).1, (hd.pen k hk).2.1⟩⟩
              rw [c1]
              simp only [Option.bind_some]
              rw [c2]
              simp only [Option.bind_some]
              obtain ⟨f, rfl⟩ : ∃ f : Nat, a1 = (f : Int) := ⟨a1.toNat, by omega⟩
              obtain ⟨n, rfl⟩ : ∃ n : Nat, a2 = (n : Int) := ⟨a2.toNat, by omega⟩
              have hfu : n < fu_spec_Scan_9 f n a3 a5 (ByteArray.mk #[]) 0 0 0 (syncS a0.1 a0.2.1) [] 0 a4 0 a4 0 (ByteArray.mk #[]) [] [] := by simp only [fu_spec_Scan_9]; omega
              generalize hF : fu_spec_Scan_9 f n a3 a5 (ByteArray.mk #[]) 0 0 0 (syncS a0.1 a0.2.1) [] 0 a4 0 a4 0 (ByteArray.mk #[]) [] [] = F at hfu
              have hfn : f + n ≤ a0.1.length := by omega
              have hst : ScanI 0 (0, a4, z0, [], 0, a4) := ScanI.zero _ _ _ _
              obtain ⟨y, hy1, hy2⟩ := scan_loop hd f n hfn a3 a5 0 0 [] n F 0 (0, a4, z0, [], 0, a4) 0 (ByteArray.mk #[])
                (Nat.zero_add n)
                hfu
                hst
              show (lo_spec_Scan_9 (fu_spec_Scan_9 f n a3 a5 (ByteArray.mk #[]) 0 0 0 (syncS a0.1 a0.2.1) [] 0 a4 0 a4 0 (ByteArray.mk #[]) [] []) f n a3 a5 (ByteArray.mk #[]) 0 0 0 (syncS a0.1 a0.2.1) [] 0 a4 0 a4 0 (ByteArray.mk #[]) [] []).bind _ = _
              rw [hF]
              have hy1' : lo_spec_Scan_9 F f n a3 a5 (ByteArray.mk #[]) 0 0 0 (syncS a0.1 a0.2.1) [] 0 a4 0 a4 0 (ByteArray.mk #[]) [] [] = some y := hy1
              rw [hy1', Int.toNat_natCast]
              simp only [Option.bind_some]
              have hy3 : outScan y = scanGo a5 a3 (seen a0 (f : Int) 0 n) 0 (0, a4, z0, [], 0, a4) := hy2
              rw [← hy3]
              cases y <;> rfl
noncomputable def ou_spec_Scan_9 {R : Type} (k : Kt R) : (((Int) × (Int) × (Int) × (Int) × (List ByteArray) × (List ByteArray) × Unit) ⊕ ((Int) × (Int) × (List ByteArray) × Unit)) → Option R := (onSum (fun d => k (.exit 0) (((pa_spec_Scan 9).2 2).st d) (((pa_spec_Scan 9).2 2).nid)) (fun d => k .ret (((pa_spec_Scan 9).2 1).st d) (((pa_spec_Scan 9).2 1).nid)))
noncomputable def L_spec_Scan {R : Type} : Lt R pa_spec_Scan := (addL (pat := pa_spec_Scan) 9 (fun d k => (lo_spec_Scan_9 (fu_spec_Scan_9 d.1 d.2.1 d.2.2.1 d.2.2.2.1 d.2.2.2.2.1 d.2.2.2.2.2.1 d.2.2.2.2.2.2.1 d.2.2.2.2.2.2.2.1 d.2.2.2.2.2.2.2.2.1 d.2.2.2.2.2.2.2.2.2.1 d.2.2.2.2.2.2.2.2.2.2.1 d.2.2.2.2.2.2.2.2.2.2.2.1 d.2.2.2.2.2.2.2.2.2.2.2.2.1 d.2.2.2.2.2.2.2.2.2.2.2.2.2.1 d.2.2.2.2.2.2.2.2.2.2.2.2.2.2.1 d.2.2.2.2.2.2.2.2.2.2.2.2.2.2.2.1 d.2.2.2.2.2.2.2.2.2.2.2.2.2.2.2.2.1 d.2.2.2.2.2.2.2.2.2.2.2.2.2.2.2.2.2.1) d.1 d.2.1 d.2.2.1 d.2.2.2.1 d.2.2.2.2.1 d.2.2.2.2.2.1 d.2.2.2.2.2.2.1 d.2.2.2.2.2.2.2.1 d.2.2.2.2.2.2.2.2.1 d.2.2.2.2.2.2.2.2.2.1 d.2.2.2.2.2.2.2.2.2.2.1 d.2.2.2.2.2.2.2.2.2.2.2.1 d.2.2.2.2.2.2.2.2.2.2.2.2.1 d.2.2.2.2.2.2.2.2.2.2.2.2.2.1 d.2.2.2.2.2.2.2.2.2.2.2.2.2.2.1 d.2.2.2.2.2.2.2.2.2.2.2.2.2.2.2.1 d.2.2.2.2.2.2.2.2.2.2.2.2.2.2.2.2.1 d.2.2.2.2.2.2.2.2.2.2.2.2.2.2.2.2.2.1).bind (ou_spec_Scan_9 k)) noL)
theorem rd_spec_Scan_9 {R : Type} (nx : (pa_spec_Scan 9).1.D → Kt R → Option R) (k : Kt R) (v1 : Int) (v2 : Int) (v3 : Int) (v5 : Int) (v16 : ByteArray) (v17 : Int) (b0_1 : Int) (b0_2 : Int) (b1_0 : List ByteArray) (b1_1 : List (Int × ByteArray × Unit)) (b2_1 : Int) (b2_2 : Int) (b3_0 : Int) (b3_1 : Int) (b3_2 : Int) (b3_3 : ByteArray) (r4 : List ByteArray) (r5 : List ByteArray) : ev Try.prog ⟨ta_spec_Scan, 0, 118, pa_spec_Scan⟩ L_spec_Scan co_spec_Scan_9 ((pa_spec_Scan 9).1.st (v1, v2, v3, v5, v16, v17, b0_1, b0_2, b1_0, b1_1, b2_1, b2_2, b3_0, b3_1, b3_2, b3_3, r4, r5, ())) (pa_spec_Scan 9).1.nid (roundK 0 (pa_spec_Scan 9) nx k) = tr_spec_Scan_9  (fun d => nx d k) (fun d => k (.exit 0) (((pa_spec_Scan 9).2 2).st d) (((pa_spec_Scan 9).2 2).nid)) (fun d => k .ret (((pa_spec_Scan 9).2 1).st d) (((pa_spec_Scan 9).2 1).nid)) v1 v2 v3 v5 v16 v17 b0_1 b0_2 b1_0 b1_1 b2_1 b2_2 b3_0 b3_1 b3_2 b3_3 r4 r5 := by kernel_rfl
theorem lp_spec_Scan_9 {R : Type} : ∀ (m : Nat) (d : (pa_spec_Scan 9).1.D) (k : Kt R), loopN 0 (pa_spec_Scan 9) (fun s nid k => ev Try.prog ⟨ta_spec_Scan, 0, 118, pa_spec_Scan⟩ L_spec_Scan co_spec_Scan_9 s nid k) m d k = (lo_spec_Scan_9 m d.1 d.2.1 d.2.2.1 d.2.2.2.1 d.2.2.2.2.1 d.2.2.2.2.2.1 d.2.2.2.2.2.2.1 d.2.2.2.2.2.2.2.1 d.2.2.2.2.2.2.2.2.1 d.2.2.2.2.2.2.2.2.2.1 d.2.2.2.2.2.2.2.2.2.2.1 d.2.2.2.2.2.2.2.2.2.2.2.1 d.2.2.2.2.2.2.2.2.2.2.2.2.1 d.2.2.2.2.2.2.2.2.2.2.2.2.2.1 d.2.2.2.2.2.2.2.2.2.2.2.2.2.2.1 d.2.2.2.2.2.2.2.2.2.2.2.2.2.2.2.1 d.2.2.2.2.2.2.2.2.2.2.2.2.2.2.2.2.1 d.2.2.2.2.2.2.2.2.2.2.2.2.2.2.2.2.2.1).bind (ou_spec_Scan_9 k)
  | 0, _, _ => rfl
  | m + 1, ⟨v1, v2, v3, v5, v16, v17, b0_1, b0_2, b1_0, b1_1, b2_1, b2_2, b3_0, b3_1, b3_2, b3_3, r4, r5, ⟨⟩⟩, k => (rd_spec_Scan_9 _ k v1 v2 v3 v5 v16 v17 b0_1 b0_2 b1_0 b1_1 b2_1 b2_2 b3_0 b3_1 b3_2 b3_3 r4 r5).trans ((congrArg (fun F => tr_spec_Scan_9  F (fun d => k (.exit 0) (((pa_spec_Scan 9).2 2).st d) (((pa_spec_Scan 9).2 2).nid)) (fun d => k .ret (((pa_spec_Scan 9).2 1).st d) (((pa_spec_Scan 9).2 1).nid)) v1 v2 v3 v5 v16 v17 b0_1 b0_2 b1_0 b1_1 b2_1 b2_2 b3_0 b3_1 b3_2 b3_3 r4 r5) (funext fun d => lp_spec_Scan_9 m d k)).trans (na_spec_Scan_9 (f := ou_spec_Scan_9 k)  (fun d => lo_spec_Scan_9 m d.1 d.2.1 d.2.2.1 d.2.2.2.1 d.2.2.2.2.1 d.2.2.2.2.2.1 d.2.2.2.2.2.2.1 d.2.2.2.2.2.2.2.1 d.2.2.2.2.2.2.2.2.1 d.2.2.2.2.2.2.2.2.2.1 d.2.2.2.2.2.2.2.2.2.2.1 d.2.2.2.2.2.2.2.2.2.2.2.1 d.2.2.2.2.2.2.2.2.2.2.2.2.1 d.2.2.2.2.2.2.2.2.2.2.2.2.2.1 d.2.2.2.2.2.2.2.2.2.2.2.2.2.2.1 d.2.2.2.2.2.2.2.2.2.2.2.2.2.2.2.1 d.2.2.2.2.2.2.2.2.2.2.2.2.2.2.2.2.1 d.2.2.2.2.2.2.2.2.2.2.2.2.2.2.2.2.2.1) (fun d => some (.inl (d))) (fun d => some (.inr (d))) v1 v2 v3 v5 v16 v17 b0_1 b0_2 b1_0 b1_1 b2_1 b2_2 b3_0 b3_1 b3_2 b3_3 r4 r5))
theorem en_spec_Scan (a0 : (List ByteArray) × (List (Int × ByteArray × Unit)) × Unit) (a1 : Int) (a2 : Int) (a3 : Int) (a4 : Int) (a5 : Int) : evalF Try.prog ta_spec_Scan pa_spec_Scan sg_spec_Scan Try.f53 L_spec_Scan (a0, a1, a2, a3, a4, a5, ()) = de_spec_Scan a0 a1 a2 a3 a4 a5 := by kernel_rfl
theorem si_spec_Scan : SigsOk Try.prog ta_spec_Scan := SigsOk.of fun f sd h => by
  try dsimp only [Tb.of, ta_spec_Scan] at h
  split at h
  · rename_i e; subst e; cases h; exact sn_spec_ReadPage
  split at h
  · rename_i e; subst e; cases h; exact sn_spec_ValidDisk
  split at h
  · rename_i e; subst e; cases h; exact sn_spec_l2Copy
  split at h
  · rename_i e; subst e; cases h; exact sn_spec_l2Sync
  split at h
  · rename_i e; subst e; cases h; exact sn_spec_l1Width
  split at h
  · rename_i e; subst e; cases h; exact sn_spec_l3Goes
  cases h
theorem lk_spec_Scan_9 {R : Type} : LoopOk Try.prog R 118 0 pa_spec_Scan L_spec_Scan co_spec_Scan_9 :=
  loop_key (cfg := ⟨ta_spec_Scan, 0, 118, pa_spec_Scan⟩) (key := 9) (by kernel_rfl) (by kernel_rfl) si_spec_Scan rfl rfl (fun d k r h => ⟨fu_spec_Scan_9 d.1 d.2.1 d.2.2.1 d.2.2.2.1 d.2.2.2.2.1 d.2.2.2.2.2.1 d.2.2.2.2.2.2.1 d.2.2.2.2.2.2.2.1 d.2.2.2.2.2.2.2.2.1 d.2.2.2.2.2.2.2.2.2.1 d.2.2.2.2.2.2.2.2.2.2.1 d.2.2.2.2.2.2.2.2.2.2.2.1 d.2.2.2.2.2.2.2.2.2.2.2.2.1 d.2.2.2.2.2.2.2.2.2.2.2.2.2.1 d.2.2.2.2.2.2.2.2.2.2.2.2.2.2.1 d.2.2.2.2.2.2.2.2.2.2.2.2.2.2.2.1 d.2.2.2.2.2.2.2.2.2.2.2.2.2.2.2.2.1 d.2.2.2.2.2.2.2.2.2.2.2.2.2.2.2.2.2.1, (lp_spec_Scan_9 _ d k).trans h⟩) (fun c hc => by rw [show loopsIn co_spec_Scan_9 = [] from by kernel_rfl] at hc; cases hc)
theorem sn_spec_Scan : Callable Try.prog 53 ∧ Sound Try.prog 53 sd_spec_Scan.sg sd_spec_Scan.den :=
  fn_loops (pat := pa_spec_Scan) L_spec_Scan (by kernel_rfl) si_spec_Scan Try.func53 (by kernel_rfl) (by kernel_rfl) (fun c hc => by rw [show loopsIn (bodyOf Try.f53) = [co_spec_Scan_9] from by kernel_rfl] at hc; simp only [List.mem_cons, List.not_mem_nil, or_false] at hc; rcases hc with rfl <;> first | exact lk_spec_Scan_9) fun x r h => by
    obtain ⟨a0, a1, a2, a3, a4, a5, ⟨⟩⟩ := x; rw [← h]; exact (en_spec_Scan a0 a1 a2 a3 a4 a5).trans (eq_spec_Scan a0 a1 a2 a3 a4 a5)
def m_impl_in (v lo hi : Int) : Bool := inB v lo hi
def sg_impl_in : Sig := ⟨[.rd (.int .i64), .rd (.int .i64), .rd (.int .i64)], [none, none, none], [.rd .bool], [none]⟩
noncomputable def sd_impl_in : SD := ⟨sg_impl_in, fun x => some (((m_impl_in x.1 x.2.1 x.2.2.1), ()), (()))⟩
noncomputable def ta_impl_in : Tb := Tb.of fun f => none
def pa_impl_in : Nat → Pat × (Nat → Pat) := fun k => (⟨[], [], []⟩, fun _ => ⟨[], [], []⟩)
noncomputable def de_impl_in (a0 : Int) (a1 : Int) (a2 : Int) : Option ((((Bool) × Unit) × (Unit))) :=
  bif decide (a0 ≥ a1) then some ((decide (a0 ≤ a2), ()), ()) else some ((false, ()), ())
theorem eq_impl_in (a0 a1 a2 : Int) : de_impl_in a0 a1 a2 = some ((m_impl_in a0 a1 a2, ()), ()) := by
  unfold de_impl_in m_impl_in inB
  by_cases h : a0 ≥ a1
  · have : decide (a1 ≤ a0) = true := by simpa using h
    simp [h, this]
  · have : decide (a1 ≤ a0) = false := by simpa using h
    simp [h, this]
theorem en_impl_in (a0 : Int) (a1 : Int) (a2 : Int) : evalF Try.prog ta_impl_in pa_impl_in sg_impl_in Try.f98 noL (a0, a1, a2, ()) = de_impl_in a0 a1 a2 := by kernel_rfl
theorem si_impl_in : SigsOk Try.prog ta_impl_in := SigsOk.of fun f sd h => by
  try dsimp only [Tb.of, ta_impl_in] at h
  cases h
theorem sn_impl_in : Callable Try.prog 98 ∧ Sound Try.prog 98 sd_impl_in.sg sd_impl_in.den :=
  fn_plain (pat := pa_impl_in) (by kernel_rfl) si_impl_in Try.func98 (by kernel_rfl) (by kernel_rfl) (by kernel_rfl) fun x r h => by
    obtain ⟨a0, a1, a2, ⟨⟩⟩ := x; rw [← h]; exact (en_impl_in a0 a1 a2).trans (eq_impl_in a0 a1 a2)
def m_impl_be (v n : Int) : Option ByteArray := if 0 ≤ n ∧ n ≤ 1000 then some (beS v n.toNat) else none
def fu_impl_be_4 (v0 v6 : Int) (r0 : List Int) : Nat := v6.toNat + 2
def sg_impl_be : Sig := ⟨[.rd (.int .i64), .rd (.int .i64)], [none, none], [.rd .str], [none]⟩
noncomputable def sd_impl_be : SD := ⟨sg_impl_be, fun x => (m_impl_be x.1 x.2.1).bind fun r => some ((r, ()), (()))⟩
noncomputable def ta_impl_be : Tb := Tb.of fun f => none
def pa_impl_be : Nat → Pat × (Nat → Pat) := fun k => if k = 4 then (⟨[.row 5 0 5 (.int .u8)], [(0, .lf (.d (.int .i64))), (5, .lf (.row 0)), (6, .lf (.d (.int .i64)))], [.row 5 (.int .u8)]⟩, fun e => if e = 2 then ⟨[.row 5 0 5 (.int .u8)], [(5, .lf (.row 0))], [.row 5 (.int .u8)]⟩ else ⟨[], [], []⟩) else (⟨[], [], []⟩, fun _ => ⟨[], [], []⟩)
noncomputable def co_impl_be_4 : Code := (loopsIn (bodyOf Try.f153)).getD 0 .skip
noncomputable def tr_impl_be_4 {R : Type}  (NX : ((Int) × (Int) × (List Int) × Unit) → Option R) (X2 : ((List Int) × Unit) → Option R) (v0 : Int) (v6 : Int) (r0 : List Int) : Option R :=
  bif decide (v6 ≥ 0) then
    bif decide (0 ≤ v6) then
      bif decide (v6 < nI (List.length r0)) then
        bif decide (Int.toNat v6 < List.length r0) then NX (Int.fdiv v0 (2 ^ min (Int.toNat 8) 64), IntKind.wrap IntKind.i64 (v6 - 1), List.set r0 (Int.toNat v6) (IntKind.wrap IntKind.u8 v0), ())
        else none
      else none
    else none
  else X2 (r0, ())
noncomputable def lo_impl_be_4 : Nat → (Int) → (Int) → (List Int) →  Option ((List Int) × Unit)
  | 0, _, _, _ => none
  | m + 1, v0, v6, r0 => tr_impl_be_4  (fun d => lo_impl_be_4 m d.1 d.2.1 d.2.2.1) (fun d => some (d)) v0 v6 r0
theorem na_impl_be_4 {R S : Type}  (NX : ((Int) × (Int) × (List Int) × Unit) → Option R) (X2 : ((List Int) × Unit) → Option R) (v0 : Int) (v6 : Int) (r0 : List Int) (f : R → Option S) : tr_impl_be_4  (fun d => (NX d).bind f) (fun d => (X2 d).bind f) v0 v6 r0 = (tr_impl_be_4  NX X2 v0 v6 r0).bind f := by
  unfold tr_impl_be_4
  simp only [cond_bind, ite_bind, onSum_bind, Option.bind_assoc, Option.bind_none, Option.bind_some]
noncomputable def de_impl_be (a0 : Int) (a1 : Int) : Option ((((ByteArray) × Unit) × (Unit))) :=
  bif decide (a1 = a1) then
    bif decide (0 ≤ a1) then
      bif decide (Int.toNat a1 * 1 ≤ 140737488355328) then Option.bind ((fun d => lo_impl_be_4 (fu_impl_be_4 d.1 d.2.1 d.2.2.1) d.1 d.2.1 d.2.2.1) (a0, IntKind.wrap IntKind.i64 (a1 - 1), List.replicate (Int.toNat a1) 0, ())) fun val => some ((strOfNums val.fst, ()), ())
      else none
    else none
  else none
theorem be_loop : ∀ (k m : Nat) (v : Int) (l t : List Int), l.length = k → k ≤ 1000 → k < m → lo_impl_be_4 m v ((k : Int) - 1) (l ++ t) = some (digL v k ++ t, ())
  | 0, m + 1, v, l, t, hl, hk, hm => by
    obtain rfl : l = [] := List.length_eq_zero_iff.1 hl
    simp only [lo_impl_be_4, tr_impl_be_4]
    rw [decide_eq_false (by omega)]
    rfl
  | k + 1, m + 1, v, l, t, hl, hk, hm => by
    have e : (((k + 1 : Nat) : Int) - 1) = (k : Int) := by omega
    rw [e]
    simp only [lo_impl_be_4, tr_impl_be_4]
    have hlen : (l ++ t).length = k + 1 + t.length := by rw [List.length_append, hl]
    rw [decide_eq_true (show (k : Int) ≥ 0 by omega), decide_eq_true (show (k : Int) < nI (l ++ t).length by simp only [nI, hlen]; omega), decide_eq_true (show Int.toNat (k : Int) < (l ++ t).length by rw [hlen]; omega), wrap_ok (by omega) (by omega)]
    simp only [cond_true, Int.toNat_natCast]
    obtain ⟨l', x, rfl⟩ : ∃ l' x, l = l' ++ [x] := ⟨l.dropLast, l.getLast (by intro h; subst h; simp at hl), (List.dropLast_concat_getLast _).symm⟩
    have hl' : l'.length = k := by simpa using hl
    have hs : ((l' ++ [x]) ++ t).set k (IntKind.wrap IntKind.u8 v) = l' ++ (v % 256 :: t) := by
      rw [List.append_assoc, List.set_append_right _ _ (by omega), hl']
      simp only [Nat.sub_self, List.singleton_append, List.set_cons_zero]
      rfl
    rw [hs]
    have := be_loop k m (v / 256) l' (v % 256 :: t) hl' (by omega) (by omega)
    have e2 : Int.fdiv v (2 ^ min (Int.toNat 8) 64) = v / 256 := by
      show Int.fdiv v 256 = v / 256
      exact Int.fdiv_eq_ediv_of_nonneg _ (by omega)
    rw [e2, this]
    simp only [digL, List.append_assoc, List.singleton_append]
theorem eq_impl_be (a0 : Int) (a1 : Int) r (h : m_impl_be a0 a1 = some r) : de_impl_be a0 a1 = some ((r, ()), (())) := by
  unfold m_impl_be at h
  split at h
  · rename_i hc
    cases h
    obtain ⟨n, rfl⟩ : ∃ n : Nat, a1 = (n : Int) := ⟨a1.toNat, by omega⟩
    unfold de_impl_be
    rw [decide_eq_true rfl, decide_eq_true hc.1, decide_eq_true (show Int.toNat (n : Int) * 1 ≤ 140737488355328 by omega), wrap_ok (by omega) (by omega)]
    have hL := be_loop n (fu_impl_be_4 a0 ((n : Int) - 1) (List.replicate n 0)) a0 (List.replicate n 0) [] (by simp) (by omega) (by simp only [fu_impl_be_4]; omega)
    rw [List.append_nil, List.append_nil] at hL
    exact bi_ hL rfl
  · cases h
noncomputable def ou_impl_be_4 {R : Type} (k : Kt R) : ((List Int) × Unit) → Option R := (fun d => k (.exit 0) (((pa_impl_be 4).2 2).st d) (((pa_impl_be 4).2 2).nid))
noncomputable def L_impl_be {R : Type} : Lt R pa_impl_be := (addL (pat := pa_impl_be) 4 (fun d k => (lo_impl_be_4 (fu_impl_be_4 d.1 d.2.1 d.2.2.1) d.1 d.2.1 d.2.2.1).bind (ou_impl_be_4 k)) noL)
theorem rd_impl_be_4 {R : Type} (nx : (pa_impl_be 4).1.D → Kt R → Option R) (k : Kt R) (v0 : Int) (v6 : Int) (r0 : List Int) : ev Try.prog ⟨ta_impl_be, 0, 24, pa_impl_be⟩ L_impl_be co_impl_be_4 ((pa_impl_be 4).1.st (v0, v6, r0, ())) (pa_impl_be 4).1.nid (roundK 0 (pa_impl_be 4) nx k) = tr_impl_be_4  (fun d => nx d k) (fun d => k (.exit 0) (((pa_impl_be 4).2 2).st d) (((pa_impl_be 4).2 2).nid)) v0 v6 r0 := by kernel_rfl
theorem lp_impl_be_4 {R : Type} : ∀ (m : Nat) (d : (pa_impl_be 4).1.D) (k : Kt R), loopN 0 (pa_impl_be 4) (fun s nid k => ev Try.prog ⟨ta_impl_be, 0, 24, pa_impl_be⟩ L_impl_be co_impl_be_4 s nid k) m d k = (lo_impl_be_4 m d.1 d.2.1 d.2.2.1).bind (ou_impl_be_4 k)
  | 0, _, _ => rfl
  | m + 1, ⟨v0, v6, r0, ⟨⟩⟩, k => (rd_impl_be_4 _ k v0 v6 r0).trans ((congrArg (fun F => tr_impl_be_4  F (fun d => k (.exit 0) (((pa_impl_be 4).2 2).st d) (((pa_impl_be 4).2 2).nid)) v0 v6 r0) (funext fun d => lp_impl_be_4 m d k)).trans (na_impl_be_4 (f := ou_impl_be_4 k)  (fun d => lo_impl_be_4 m d.1 d.2.1 d.2.2.1) (fun d => some (d)) v0 v6 r0))
theorem en_impl_be (a0 : Int) (a1 : Int) : evalF Try.prog ta_impl_be pa_impl_be sg_impl_be Try.f153 L_impl_be (a0, a1, ()) = de_impl_be a0 a1 := by kernel_rfl
theorem si_impl_be : SigsOk Try.prog ta_impl_be := SigsOk.of fun f sd h => by
  try dsimp only [Tb.of, ta_impl_be] at h
  cases h
theorem lk_impl_be_4 {R : Type} : LoopOk Try.prog R 24 0 pa_impl_be L_impl_be co_impl_be_4 :=
  loop_key (cfg := ⟨ta_impl_be, 0, 24, pa_impl_be⟩) (key := 4) (by kernel_rfl) (by kernel_rfl) si_impl_be rfl rfl (fun d k r h => ⟨fu_impl_be_4 d.1 d.2.1 d.2.2.1, (lp_impl_be_4 _ d k).trans h⟩) (fun c hc => by rw [show loopsIn co_impl_be_4 = [] from by kernel_rfl] at hc; cases hc)
theorem sn_impl_be : Callable Try.prog 153 ∧ Sound Try.prog 153 sd_impl_be.sg sd_impl_be.den :=
  fn_loops (pat := pa_impl_be) L_impl_be (by kernel_rfl) si_impl_be Try.func153 (by kernel_rfl) (by kernel_rfl) (fun c hc => by rw [show loopsIn (bodyOf Try.f153) = [co_impl_be_4] from by kernel_rfl] at hc; simp only [List.mem_cons, List.not_mem_nil, or_false] at hc; rcases hc with rfl <;> first | exact lk_impl_be_4) fun x r h => by
    obtain ⟨a0, a1, ⟨⟩⟩ := x; obtain ⟨y, h1, h2⟩ := Option.bind_eq_some_iff.1 (show (m_impl_be a0 a1).bind (fun r => some ((r, ()), (()))) = some r from h); cases h2; exact (en_impl_be a0 a1).trans (eq_impl_be a0 a1 _ h1)
def m_impl_Sum (s : ByteArray) (w : Int) : Option ByteArray := if s.size < 4611686018427387904 then some (sumS s w) else none
def fu_impl_Sum_6 (v0 : ByteArray) (v1 v5 v6 : Int) : Nat := (nI v0.size - v6).toNat + 1
def sg_impl_Sum : Sig := ⟨[.rd .str, .rd (.int .i64)], [none, none], [.rd .str], [none]⟩
noncomputable def sd_impl_Sum : SD := ⟨sg_impl_Sum, fun x => (m_impl_Sum x.1 x.2.1).bind fun r => some ((r, ()), (()))⟩
noncomputable def ta_impl_Sum : Tb := Tb.of fun f => if f = 98 then some sd_impl_in else if f = 153 then some sd_impl_be else none
def pa_impl_Sum : Nat → Pat × (Nat → Pat) := fun k => if k = 6 then (⟨[], [(0, .lf (.d .str)), (1, .lf (.d (.int .i64))), (5, .lf (.d (.int .u64))), (6, .lf (.d (.int .i64)))], []⟩, fun e => if e = 2 then ⟨[], [(1, .lf (.d (.int .i64))), (5, .lf (.d (.int .u64)))], []⟩ else ⟨[], [], []⟩) else (⟨[], [], []⟩, fun _ => ⟨[], [], []⟩)
noncomputable def co_impl_Sum_6 : Code := (loopsIn (bodyOf Try.f81)).getD 0 .skip
noncomputable def tr_impl_Sum_6 {R : Type}  (NX : ((ByteArray) × (Int) × (Int) × (Int) × Unit) → Option R) (X2 : ((Int) × (Int) × Unit) → Option R) (v0 : ByteArray) (v1 : Int) (v5 : Int) (v6 : Int) : Option R :=
  bif decide (v6 < nI (ByteArray.size v0)) then
    bif decide (0 ≤ v6) then
      bif decide (v6 < nI (ByteArray.size v0)) then
        NX
          (v0, v1, IntKind.wrap IntKind.u64 (IntKind.wrap IntKind.u64 (nI (BitVec.toNat (BitVec.ofInt 64 v5 ^^^ BitVec.ofInt 64 (IntKind.wrap IntKind.u64 (byteAt v0 v6))))) * 1099511628211),
            IntKind.wrap IntKind.i64 (v6 + 1), ())
      else none
    else none
  else X2 (v1, v5, ())
noncomputable def lo_impl_Sum_6 : Nat → (ByteArray) → (Int) → (Int) → (Int) →  Option ((Int) × (Int) × Unit)
  | 0, _, _, _, _ => none
  | m + 1, v0, v1, v5, v6 => tr_impl_Sum_6  (fun d => lo_impl_Sum_6 m d.1 d.2.1 d.2.2.1 d.2.2.2.1) (fun d => some (d)) v0 v1 v5 v6
theorem na_impl_Sum_6 {R S : Type}  (NX : ((ByteArray) × (Int) × (Int) × (Int) × Unit) → Option R) (X2 : ((Int) × (Int) × Unit) → Option R) (v0 : ByteArray) (v1 : Int) (v5 : Int) (v6 : Int) (f : R → Option S) : tr_impl_Sum_6  (fun d => (NX d).bind f) (fun d => (X2 d).bind f) v0 v1 v5 v6 = (tr_impl_Sum_6  NX X2 v0 v1 v5 v6).bind f := by
  unfold tr_impl_Sum_6
  simp only [cond_bind, ite_bind, onSum_bind, Option.bind_assoc, Option.bind_none, Option.bind_some]
noncomputable def de_impl_Sum (a0 : ByteArray) (a1 : Int) : Option ((((ByteArray) × Unit) × (Unit))) :=
  bif !m_impl_in a1 1 8 then some ((ByteArray.mk #[], ()), ())
  else
    Option.bind ((fun d => lo_impl_Sum_6 (fu_impl_Sum_6 d.1 d.2.1 d.2.2.1 d.2.2.2.1) d.1 d.2.1 d.2.2.1 d.2.2.2.1) (a0, a1, 14695981039346656037, 0, ())) fun val =>
      bif decide (0 ≤ IntKind.wrap IntKind.i64 (8 - val.fst)) then
        bif decide (IntKind.wrap IntKind.i64 (8 - val.fst) ≤ nI (ByteArray.size (beS (IntKind.wrap IntKind.i64 val.snd.fst) (Int.toNat 8)))) then
          some
            ((cutOf (beS (IntKind.wrap IntKind.i64 val.snd.fst) (Int.toNat 8)) (IntKind.wrap IntKind.i64 (8 - val.fst)) (nI (ByteArray.size (beS (IntKind.wrap IntKind.i64 val.snd.fst) (Int.toNat 8)))),
                ()),
              ())
        else none
      else none
theorem eq_impl_Sum (a0 : ByteArray) (a1 : Int) r (h : m_impl_Sum a0 a1 = some r) : de_impl_Sum a0 a1 = some ((r, ()), (())) := by
  unfold m_impl_Sum at h
  split at h
  rotate_left
  · cases h
  rename_i hsz
  cases h
  unfold de_impl_Sum sumS
  generalize hC : (14695981039346656037 : Int) = C
  have h0 : U64 C := by rw [← hC]; exact ⟨by decide, by decide⟩
  show (bif !inB a1 1 8 then _ else _) = _
  cases hw : inB a1 1 8 with
  | false => rfl
  | true =>
    have k1 := of_decide_eq_true (and2 hw).1
    have k2 := of_decide_eq_true (and2 hw).2
    · simp only [Bool.not_true, cond_false, cond_true]
      have hL := up_loop a0.size (fun _ _ => True) (fun i h => hashStep h (byteAt a0 i)) (g := fun m i h => lo_impl_Sum_6 m a0 a1 h i) (ok := fun h => (a1, h, ())) (fun m i h hi _ => by
        show lo_impl_Sum_6 (m + 1) a0 a1 h i = _
        simp only [lo_impl_Sum_6, tr_impl_Sum_6]
        have c1 : (i : Int) < nI a0.size := by simp only [nI]; omega
        rw [decide_eq_true c1, cLe0, wI (show i < 4611686018427387904 by omega)]
        rfl) (fun m h _ => by
        show lo_impl_Sum_6 (m + 1) a0 a1 h a0.size = _
        simp only [lo_impl_Sum_6, tr_impl_Sum_6]
        rw [decide_eq_false (show ¬ ((a0.size : Int) < nI a0.size) by simp only [nI]; omega)]
        rfl) (fun _ _ _ _ => trivial) a0.size (fu_impl_Sum_6 a0 a1 C 0) 0 C (by omega) (by simp only [fu_impl_Sum_6, nI]; omega) trivial
      rw [show ((0 : Nat) : Int) = 0 from rfl] at hL
      refine bi_ hL ?_
      have e1 : IntKind.wrap IntKind.i64 (8 - a1) = 8 - a1 := wrap_ok (by omega) (by omega)
      have hh := hash_in a0 a0.size 0 h0
      have eH : iter (fun i h => hashStep h (byteAt a0 i)) a0.size 0 C = hashGo a0 a0.size 0 C := rfl
      rw [eH]
      generalize hashGo a0 a0.size 0 C = H at hh ⊢
      show (bif decide (0 ≤ IntKind.wrap IntKind.i64 (8 - a1)) then (bif decide (IntKind.wrap IntKind.i64 (8 - a1) ≤ nI (ByteArray.size (beS (IntKind.wrap IntKind.i64 H) (Int.toNat 8)))) then some ((cutOf (beS (IntKind.wrap IntKind.i64 H) (Int.toNat 8)) (IntKind.wrap IntKind.i64 (8 - a1)) (nI (ByteArray.size (beS (IntKind.wrap IntKind.i64 H) (Int.toNat 8)))), ()), ()) else none) else none) = some ((beS H a1.toNat, ()), ())
      rw [e1, sum_cut hh k1 k2, decide_eq_true (show 0 ≤ 8 - a1 by omega), decide_eq_true (show 8 - a1 ≤ nI (ByteArray.size (beS (IntKind.wrap IntKind.i64 H) (Int.toNat 8))) by rw [beS_size]; simp [nI]; omega)]
      rfl
noncomputable def ou_impl_Sum_6 {R : Type} (k : Kt R) : ((Int) × (Int) × Unit) → Option R := (fun d => k (.exit 0) (((pa_impl_Sum 6).2 2).st d) (((pa_impl_Sum 6).2 2).nid))
noncomputable def L_impl_Sum {R : Type} : Lt R pa_impl_Sum := (addL (pat := pa_impl_Sum) 6 (fun d k => (lo_impl_Sum_6 (fu_impl_Sum_6 d.1 d.2.1 d.2.2.1 d.2.2.2.1) d.1 d.2.1 d.2.2.1 d.2.2.2.1).bind (ou_impl_Sum_6 k)) noL)
theorem rd_impl_Sum_6 {R : Type} (nx : (pa_impl_Sum 6).1.D → Kt R → Option R) (k : Kt R) (v0 : ByteArray) (v1 : Int) (v5 : Int) (v6 : Int) : ev Try.prog ⟨ta_impl_Sum, 0, 29, pa_impl_Sum⟩ L_impl_Sum co_impl_Sum_6 ((pa_impl_Sum 6).1.st (v0, v1, v5, v6, ())) (pa_impl_Sum 6).1.nid (roundK 0 (pa_impl_Sum 6) nx k) = tr_impl_Sum_6  (fun d => nx d k) (fun d => k (.exit 0) (((pa_impl_Sum 6).2 2).st d) (((pa_impl_Sum 6).2 2).nid)) v0 v1 v5 v6 := by kernel_rfl
theorem lp_impl_Sum_6 {R : Type} : ∀ (m : Nat) (d : (pa_impl_Sum 6).1.D) (k : Kt R), loopN 0 (pa_impl_Sum 6) (fun s nid k => ev Try.prog ⟨ta_impl_Sum, 0, 29, pa_impl_Sum⟩ L_impl_Sum co_impl_Sum_6 s nid k) m d k = (lo_impl_Sum_6 m d.1 d.2.1 d.2.2.1 d.2.2.2.1).bind (ou_impl_Sum_6 k)
  | 0, _, _ => rfl
  | m + 1, ⟨v0, v1, v5, v6, ⟨⟩⟩, k => (rd_impl_Sum_6 _ k v0 v1 v5 v6).trans ((congrArg (fun F => tr_impl_Sum_6  F (fun d => k (.exit 0) (((pa_impl_Sum 6).2 2).st d) (((pa_impl_Sum 6).2 2).nid)) v0 v1 v5 v6) (funext fun d => lp_impl_Sum_6 m d k)).trans (na_impl_Sum_6 (f := ou_impl_Sum_6 k)  (fun d => lo_impl_Sum_6 m d.1 d.2.1 d.2.2.1 d.2.2.2.1) (fun d => some (d)) v0 v1 v5 v6))
theorem en_impl_Sum (a0 : ByteArray) (a1 : Int) : evalF Try.prog ta_impl_Sum pa_impl_Sum sg_impl_Sum Try.f81 L_impl_Sum (a0, a1, ()) = de_impl_Sum a0 a1 := by kernel_rfl
theorem si_impl_Sum : SigsOk Try.prog ta_impl_Sum := SigsOk.of fun f sd h => by
  try dsimp only [Tb.of, ta_impl_Sum] at h
  split at h
  · rename_i e; subst e; cases h; exact sn_impl_in
  split at h
  · rename_i e; subst e; cases h; exact sn_impl_be
  cases h
theorem lk_impl_Sum_6 {R : Type} : LoopOk Try.prog R 29 0 pa_impl_Sum L_impl_Sum co_impl_Sum_6 :=
  loop_key (cfg := ⟨ta_impl_Sum, 0, 29, pa_impl_Sum⟩) (key := 6) (by kernel_rfl) (by kernel_rfl) si_impl_Sum rfl rfl (fun d k r h => ⟨fu_impl_Sum_6 d.1 d.2.1 d.2.2.1 d.2.2.2.1, (lp_impl_Sum_6 _ d k).trans h⟩) (fun c hc => by rw [show loopsIn co_impl_Sum_6 = [] from by kernel_rfl] at hc; cases hc)
theorem sn_impl_Sum : Callable Try.prog 81 ∧ Sound Try.prog 81 sd_impl_Sum.sg sd_impl_Sum.den :=
  fn_loops (pat := pa_impl_Sum) L_impl_Sum (by kernel_rfl) si_impl_Sum Try.func81 (by kernel_rfl) (by kernel_rfl) (fun c hc => by rw [show loopsIn (bodyOf Try.f81) = [co_impl_Sum_6] from by kernel_rfl] at hc; simp only [List.mem_cons, List.not_mem_nil, or_false] at hc; rcases hc with rfl <;> first | exact lk_impl_Sum_6) fun x r h => by
    obtain ⟨a0, a1, ⟨⟩⟩ := x; obtain ⟨y, h1, h2⟩ := Option.bind_eq_some_iff.1 (show (m_impl_Sum a0 a1).bind (fun r => some ((r, ()), (()))) = some r from h); cases h2; exact (en_impl_Sum a0 a1).trans (eq_impl_Sum a0 a1 _ h1)
def sg_impl_room : Sig := ⟨[.rd (.int .i64)], [none], [.rd (.int .i64)], [none]⟩
noncomputable def ta_impl_room : Tb := Tb.of fun f => none
def pa_impl_room : Nat → Pat × (Nat → Pat) := fun k => (⟨[], [], []⟩, fun _ => ⟨[], [], []⟩)
noncomputable def de_impl_room (a0 : Int) : Option ((((Int) × Unit) × (Unit))) :=
  some ((IntKind.wrap IntKind.i64 (IntKind.wrap IntKind.i64 (64 - a0) - 8), ()), ())
noncomputable def sd_impl_room : SD := ⟨sg_impl_room, fun x => de_impl_room x.1⟩
theorem en_impl_room (a0 : Int) : evalF Try.prog ta_impl_room pa_impl_room sg_impl_room Try.f168 noL (a0, ()) = de_impl_room a0 := by kernel_rfl
theorem si_impl_room : SigsOk Try.prog ta_impl_room := SigsOk.of fun f sd h => by
  try dsimp only [Tb.of, ta_impl_room] at h
  cases h
theorem sn_impl_room : Callable Try.prog 168 ∧ Sound Try.prog 168 sd_impl_room.sg sd_impl_room.den :=
  fn_plain (pat := pa_impl_room) (by kernel_rfl) si_impl_room Try.func168 (by kernel_rfl) (by kernel_rfl) (by kernel_rfl) fun x r h => by
    obtain ⟨a0, ⟨⟩⟩ := x; exact (en_impl_room a0).trans h
def m_impl_validPage (p : Pg) (w : Int) : Bool := pageOk p w
def sg_impl_validPage : Sig := ⟨[.rd (.pair (.int .i64) (.pair (.int .i64) (.pair (.int .i64) (.pair .str .unit)))), .rd (.int .i64)], [some 4, none], [.rd .bool], [none]⟩
noncomputable def sd_impl_validPage : SD := ⟨sg_impl_validPage, fun x => some (((m_impl_validPage x.1 x.2.1), ()), (()))⟩
noncomputable def ta_impl_validPage : Tb := Tb.of fun f => if f = 98 then some sd_impl_in else if f = 168 then some sd_impl_room else none
def pa_impl_validPage : Nat → Pat × (Nat → Pat) := fun k => (⟨[], [], []⟩, fun _ => ⟨[], [], []⟩)
noncomputable def de_impl_validPage (a0 : Int × Int × Int × ByteArray × Unit) (a1 : Int) : Option ((((Bool) × Unit) × (Unit))) :=
  bif m_impl_in a1 1 8 then
    bif m_impl_in a0.fst 1 4 then
      bif m_impl_in a0.snd.fst 1 60000 then
        bif m_impl_in a0.snd.snd.fst 1 1000000000 then
          bif decide (nI (ByteArray.size a0.snd.snd.snd.fst) ≤ IntKind.wrap IntKind.i64 (IntKind.wrap IntKind.i64 (64 - a1) - 8)) then
            bif a0.fst != 3 then some ((true, ()), ()) else some ((ByteArray.toList a0.snd.snd.snd.fst == ByteArray.toList (ByteArray.mk #[]), ()), ())
          else some ((false, ()), ())
        else some ((false, ()), ())
      else some ((false, ()), ())
    else some ((false, ()), ())
  else some ((false, ()), ())
theorem eq_impl_validPage (a0 : Int × Int × Int × ByteArray × Unit) (a1 : Int) : de_impl_validPage a0 a1 = some (((m_impl_validPage a0 a1), ()), (())) := by
  unfold de_impl_validPage m_impl_validPage pageOk
  have tl : ByteArray.toList (ByteArray.mk #[]) = [] := by decide +kernel
  rw [tl]
  show (bif inB a1 1 8 then (bif inB a0.1 1 4 then (bif inB a0.2.1 1 60000 then (bif inB a0.2.2.1 1 1000000000 then _ else _) else _) else _) else _) = _
  cases hw : inB a1 1 8 with
  | false => rfl
  | true =>
    have k1 := of_decide_eq_true (and2 hw).1
    have k2 := of_decide_eq_true (and2 hw).2
    rw [wrap_ok (n := 64 - a1) (by omega) (by omega), wrap_ok (by omega) (by omega), show 64 - a1 - 8 = 56 - a1 by omega]
    cases inB a0.1 1 4 <;> cases inB a0.2.1 1 60000 <;> cases inB a0.2.2.1 1 1000000000 <;> try rfl
    show (bif decide ((ByteArray.size a0.2.2.2.1 : Int) ≤ 56 - a1) then _ else _) = _
    cases decide ((ByteArray.size a0.2.2.2.1 : Int) ≤ 56 - a1) <;> cases (a0.1 != 3) <;> rfl
theorem en_impl_validPage (a0 : Int × Int × Int × ByteArray × Unit) (a1 : Int) : evalF Try.prog ta_impl_validPage pa_impl_validPage sg_impl_validPage Try.f163 noL (a0, a1, ()) = de_impl_validPage a0 a1 := by kernel_rfl
theorem si_impl_validPage : SigsOk Try.prog ta_impl_validPage := SigsOk.of fun f sd h => by
  try dsimp only [Tb.of, ta_impl_validPage] at h
  split at h
  · rename_i e; subst e; cases h; exact sn_impl_in
  split at h
  · rename_i e; subst e; cases h; exact sn_impl_room
  cases h
theorem sn_impl_validPage : Callable Try.prog 163 ∧ Sound Try.prog 163 sd_impl_validPage.sg sd_impl_validPage.den :=
  fn_plain (pat := pa_impl_validPage) (by kernel_rfl) si_impl_validPage Try.func163 (by kernel_rfl) (by kernel_rfl) (by kernel_rfl) fun x r h => by
    obtain ⟨a0, a1, ⟨⟩⟩ := x; rw [← h]; exact (en_impl_validPage a0 a1).trans (eq_impl_validPage a0 a1)
def sg_strings_Repeat : Sig := ⟨[.rd .str, .rd (.int .i64)], [none, none], [.rd .str], [none]⟩
noncomputable def sd_strings_Repeat : SD := ⟨sg_strings_Repeat, fun x => (repStr x.1 x.2.1).bind fun r => some ((r, ()), ())⟩
theorem sn_strings_Repeat : Callable Try.prog 164 ∧ Sound Try.prog 164 sd_strings_Repeat.sg sd_strings_Repeat.den := ⟨⟨_, Try.func164, by kernel_rfl, by kernel_rfl⟩, rep_seat⟩
def m_impl_FormPage (p : Pg) (w : Int) : ByteArray := pageS p w
def sg_impl_FormPage : Sig := ⟨[.rd (.pair (.int .i64) (.pair (.int .i64) (.pair (.int .i64) (.pair .str .unit)))), .rd (.int .i64)], [some 4, none], [.rd .str], [none]⟩
noncomputable def sd_impl_FormPage : SD := ⟨sg_impl_FormPage, fun x => some (((m_impl_FormPage x.1 x.2.1), ()), (()))⟩
noncomputable def ta_impl_FormPage : Tb := Tb.of fun f => if f = 81 then some sd_impl_Sum else if f = 153 then some sd_impl_be else if f = 163 then some sd_impl_validPage else if f = 164 then some sd_strings_Repeat else none
def pa_impl_FormPage : Nat → Pat × (Nat → Pat) := fun k => (⟨[], [], []⟩, fun _ => ⟨[], [], []⟩)
noncomputable def de_impl_FormPage (a0 : Int × Int × Int × ByteArray × Unit) (a1 : Int) : Option ((((ByteArray) × Unit) × (Unit))) :=
  bif !m_impl_validPage (a0.fst, a0.snd.fst, a0.snd.snd.fst, a0.snd.snd.snd.fst, ()) a1 then some ((ByteArray.mk #[], ()), ())
  else
    bif
        decide
          (ByteArray.size (beS a0.fst (Int.toNat 1) ++ beS a0.snd.fst (Int.toNat 2) ++ beS a0.snd.snd.fst (Int.toNat 4) ++ beS (nI (ByteArray.size a0.snd.snd.snd.fst)) (Int.toNat 1)) +
              ByteArray.size a0.snd.snd.snd.fst ≤
            9223372036854775807) then
      Option.bind
        (Option.bind
          (repStr (ByteArray.mk #[0])
            (IntKind.wrap IntKind.i64
              (IntKind.wrap IntKind.i64 (64 - a1) -
                nI
                  (ByteArray.size
                    (beS a0.fst (Int.toNat 1) ++ beS a0.snd.fst (Int.toNat 2) ++ beS a0.snd.snd.fst (Int.toNat 4) ++ beS (nI (ByteArray.size a0.snd.snd.snd.fst)) (Int.toNat 1) ++ a0.snd.snd.snd.fst)))))
          fun val => some ((val, ()), ()))
        fun val =>
        bif
            decide
              (ByteArray.size
                    (beS a0.fst (Int.toNat 1) ++ beS a0.snd.fst (Int.toNat 2) ++ beS a0.snd.snd.fst (Int.toNat 4) ++ beS (nI (ByteArray.size a0.snd.snd.snd.fst)) (Int.toNat 1) ++ a0.snd.snd.snd.fst) +
                  ByteArray.size val.fst.fst ≤
                9223372036854775807) then
          Option.bind
            (Option.bind
              (m_impl_Sum
                (beS a0.fst (Int.toNat 1) ++ beS a0.snd.fst (Int.toNat 2) ++ beS a0.snd.snd.fst (Int.toNat 4) ++ beS (nI (ByteArray.size a0.snd.snd.snd.fst)) (Int.toNat 1) ++ a0.snd.snd.snd.fst ++
                  val.fst.fst)
                a1)
              fun val => some ((val, ()), ()))
            fun val_1 =>
            bif
                decide
                  (ByteArray.size val_1.fst.fst +
                      ByteArray.size
                        (beS a0.fst (Int.toNat 1) ++ beS a0.snd.fst (Int.toNat 2) ++ beS a0.snd.snd.fst (Int.toNat 4) ++ beS (nI (ByteArray.size a0.snd.snd.snd.fst)) (Int.toNat 1) ++
                            a0.snd.snd.snd.fst ++
                          val.fst.fst) ≤
                    9223372036854775807) then
              some
                ((val_1.fst.fst ++
                      (beS a0.fst (Int.toNat 1) ++ beS a0.snd.fst (Int.toNat 2) ++ beS a0.snd.snd.fst (Int.toNat 4) ++ beS (nI (ByteArray.size a0.snd.snd.snd.fst)) (Int.toNat 1) ++ a0.snd.snd.snd.fst ++
                        val.fst.fst),
                    ()),
                  ())
            else none
        else none
    else none
theorem eq_impl_FormPage (a0 : Int × Int × Int × ByteArray × Unit) (a1 : Int) : de_impl_FormPage a0 a1 = some (((m_impl_FormPage a0 a1), ()), (())) := by
  unfold de_impl_FormPage m_impl_FormPage pageS
  show (bif !pageOk a0 a1 then _ else _) = _
  cases hp : pageOk a0 a1 with
  | false => rfl
  | true =>
    obtain ⟨hw, k1, k2, kp⟩ := pageOk_w hp
    simp only [Bool.not_true, cond_false, cond_true]
    have hb : bodyS a0 a1 = beS a0.1 1 ++ beS a0.2.1 2 ++ beS a0.2.2.1 4 ++ beS (nI a0.2.2.2.1.size) 1 ++ a0.2.2.2.1 ++ strOfNums (List.replicate (56 - a1 - a0.2.2.2.1.size).toNat 0) := rfl
    have hs4 : (beS a0.1 1 ++ beS a0.2.1 2 ++ beS a0.2.2.1 4 ++ beS (nI a0.2.2.2.1.size) 1).size = 8 := by simp only [ByteArray.size_append, beS_size]
    have hs5 : (beS a0.1 1 ++ beS a0.2.1 2 ++ beS a0.2.2.1 4 ++ beS (nI a0.2.2.2.1.size) 1 ++ a0.2.2.2.1).size = 8 + a0.2.2.2.1.size := by rw [ByteArray.size_append, hs4]
    show (bif decide ((beS a0.1 1 ++ beS a0.2.1 2 ++ beS a0.2.2.1 4 ++ beS (nI a0.2.2.2.1.size) 1).size + a0.2.2.2.1.size ≤ 9223372036854775807) then Option.bind (Option.bind (repStr (ByteArray.mk #[0]) (IntKind.wrap IntKind.i64 (IntKind.wrap IntKind.i64 (64 - a1) - nI (beS a0.1 1 ++ beS a0.2.1 2 ++ beS a0.2.2.1 4 ++ beS (nI a0.2.2.2.1.size) 1 ++ a0.2.2.2.1).size))) _) _ else none) = _
    generalize hB : beS a0.1 1 ++ beS a0.2.1 2 ++ beS a0.2.2.1 4 ++ beS (nI a0.2.2.2.1.size) 1 ++ a0.2.2.2.1 = B at *
    rw [hs4, decide_eq_true (by omega), wrap_ok (n := 64 - a1) (by omega) (by omega), hs5, wrap_ok (by simp only [nI]; omega) (by simp only [nI]; omega)]
    have hr : repStr (ByteArray.mk #[0]) (64 - a1 - nI (8 + a0.2.2.2.1.size)) = some (strOfNums (List.replicate (56 - a1 - a0.2.2.2.1.size).toNat 0)) := by
      have := rep0 (56 - a1 - a0.2.2.2.1.size).toNat (by omega)
      rw [show ((56 - a1 - a0.2.2.2.1.size).toNat : Int) = 64 - a1 - nI (8 + a0.2.2.2.1.size) by simp only [nI]; omega] at this
      exact this
    have hz : (strOfNums (List.replicate (56 - a1 - a0.2.2.2.1.size).toNat 0)).size = (56 - a1 - a0.2.2.2.1.size).toNat := by rw [size_strOfNums, List.length_replicate]
    generalize strOfNums (List.replicate (56 - a1 - a0.2.2.2.1.size).toNat 0) = Z at *
    refine bi_ (bi_ hr rfl) ?_
    have hbs : (bodyS a0 a1).size ≤ 64 := by rw [hb, ByteArray.size_append, hs5, hz]; omega
    dsimp only
    have hB' : beS a0.1 (Int.toNat 1) ++ beS a0.2.1 (Int.toNat 2) ++ beS a0.2.2.1 (Int.toNat 4) ++ beS (nI a0.2.2.2.1.size) (Int.toNat 1) ++ a0.2.2.2.1 = B := hB
    rw [hB']
    show (bif decide (ByteArray.size B + ByteArray.size Z ≤ 9223372036854775807) then Option.bind (Option.bind (m_impl_Sum (B ++ Z) a1) _) _ else none) = _
    have hm : m_impl_Sum (B ++ Z) a1 = some (sumS (bodyS a0 a1) a1) := by
      rw [← hb]
      exact if_pos (by omega)
    rw [hs5, hz, decide_eq_true (by omega)]
    refine bi_ (bi_ hm rfl) ?_
    show (bif decide (ByteArray.size (sumS (bodyS a0 a1) a1) + ByteArray.size (B ++ Z) ≤ 9223372036854775807) then some ((sumS (bodyS a0 a1) a1 ++ (B ++ Z), ()), ()) else none) = _
    rw [← hb, sumS_size hw, decide_eq_true (by omega)]
    rfl
theorem en_impl_FormPage (a0 : Int × Int × Int × ByteArray × Unit) (a1 : Int) : evalF Try.prog ta_impl_FormPage pa_impl_FormPage sg_impl_FormPage Try.f78 noL (a0, a1, ()) = de_impl_FormPage a0 a1 := by kernel_rfl
theorem si_impl_FormPage : SigsOk Try.prog ta_impl_FormPage := SigsOk.of fun f sd h => by
  try dsimp only [Tb.of, ta_impl_FormPage] at h
  split at h
  · rename_i e; subst e; cases h; exact sn_impl_Sum
  split at h
  · rename_i e; subst e; cases h; exact sn_impl_be
  split at h
  · rename_i e; subst e; cases h; exact sn_impl_validPage
  split at h
  · rename_i e; subst e; cases h; exact sn_strings_Repeat
  cases h
theorem sn_impl_FormPage : Callable Try.prog 78 ∧ Sound Try.prog 78 sd_impl_FormPage.sg sd_impl_FormPage.den :=
  fn_plain (pat := pa_impl_FormPage) (by kernel_rfl) si_impl_FormPage Try.func78 (by kernel_rfl) (by kernel_rfl) (by kernel_rfl) fun x r h => by
    obtain ⟨a0, a1, ⟨⟩⟩ := x; rw [← h]; exact (en_impl_FormPage a0 a1).trans (eq_impl_FormPage a0 a1)
def m_impl_num (s : ByteArray) : Option Int := if s.size ≤ 7 then some (numS s) else none
def fu_impl_num_4 (v0 : ByteArray) (v3 v4 : Int) : Nat := (nI v0.size - v4).toNat + 1
def sg_impl_num : Sig := ⟨[.rd .str], [none], [.rd (.int .i64)], [none]⟩
noncomputable def sd_impl_num : SD := ⟨sg_impl_num, fun x => (m_impl_num x.1).bind fun r => some ((r, ()), (()))⟩
noncomputable def ta_impl_num : Tb := Tb.of fun f => none
def pa_impl_num : Nat → Pat × (Nat → Pat) := fun k => if k = 4 then (⟨[], [(0, .lf (.d .str)), (3, .lf (.d (.int .i64))), (4, .lf (.d (.int .i64)))], []⟩, fun e => if e = 2 then ⟨[], [(3, .lf (.d (.int .i64)))], []⟩ else ⟨[], [], []⟩) else (⟨[], [], []⟩, fun _ => ⟨[], [], []⟩)
noncomputable def co_impl_num_4 : Code := (loopsIn (bodyOf Try.f169)).getD 0 .skip
noncomputable def tr_impl_num_4 {R : Type}  (NX : ((ByteArray) × (Int) × (Int) × Unit) → Option R) (X2 : ((Int) × Unit) → Option R) (v0 : ByteArray) (v3 : Int) (v4 : Int) : Option R :=
  bif decide (v4 < nI (ByteArray.size v0)) then
    bif decide (0 ≤ v4) then
      bif decide (v4 < nI (ByteArray.size v0)) then
        NX
          (v0, IntKind.wrap IntKind.i64 (nI (BitVec.toNat (BitVec.ofInt 64 (IntKind.wrap IntKind.i64 (v3 * 2 ^ min (Int.toNat 8) 64)) ||| BitVec.ofInt 64 (IntKind.wrap IntKind.i64 (byteAt v0 v4))))),
            IntKind.wrap IntKind.i64 (v4 + 1), ())
      else none
    else none
  else X2 (v3, ())
noncomputable def lo_impl_num_4 : Nat → (ByteArray) → (Int) → (Int) →  Option ((Int) × Unit)
  | 0, _, _, _ => none
  | m + 1, v0, v3, v4 => tr_impl_num_4  (fun d => lo_impl_num_4 m d.1 d.2.1 d.2.2.1) (fun d => some (d)) v0 v3 v4
theorem na_impl_num_4 {R S : Type}  (NX : ((ByteArray) × (Int) × (Int) × Unit) → Option R) (X2 : ((Int) × Unit) → Option R) (v0 : ByteArray) (v3 : Int) (v4 : Int) (f : R → Option S) : tr_impl_num_4  (fun d => (NX d).bind f) (fun d => (X2 d).bind f) v0 v3 v4 = (tr_impl_num_4  NX X2 v0 v3 v4).bind f := by
  unfold tr_impl_num_4
  simp only [cond_bind, ite_bind, onSum_bind, Option.bind_assoc, Option.bind_none, Option.bind_some]
noncomputable def de_impl_num (a0 : ByteArray) : Option ((((Int) × Unit) × (Unit))) :=
  Option.bind ((fun d => lo_impl_num_4 (fu_impl_num_4 d.1 d.2.1 d.2.2.1) d.1 d.2.1 d.2.2.1) (a0, 0, 0, ())) fun val => some ((val.fst, ()), ())
theorem num_loop (s : ByteArray) (hs : s.size ≤ 7) : ∀ (k m i : Nat) (v : Int), i + k = s.size → k < m → 0 ≤ v → v < 256 ^ i → lo_impl_num_4 m s v i = some (numGo s k i v, ())
  | 0, m + 1, i, v, hi, hm, h0, h1 => by
    simp only [lo_impl_num_4, tr_impl_num_4]
    rw [decide_eq_false (show ¬ ((i : Int) < nI s.size) by simp only [nI]; omega)]
    rfl
  | k + 1, m + 1, i, v, hi, hm, h0, h1 => by
    obtain ⟨hb, hs', e⟩ := or_step s i hi (by omega) h0 h1
    simp only [lo_impl_num_4, tr_impl_num_4]
    have c1 : (i : Int) < nI s.size := by simp only [nI]; omega
    rw [decide_eq_true c1, decide_eq_true (show (0 : Int) ≤ (i : Int) by omega), wI (show i < 4611686018427387904 by omega), e]
    exact num_loop s hs k m (i + 1) _ (by omega) (by omega) hb hs'
theorem eq_impl_num (a0 : ByteArray) r (h : m_impl_num a0 = some r) : de_impl_num a0 = some ((r, ()), (())) := by
  unfold m_impl_num at h
  split at h
  · rename_i hc
    cases h
    unfold de_impl_num
    have hL := num_loop a0 hc a0.size (fu_impl_num_4 a0 0 0) 0 0 (by omega) (by simp only [fu_impl_num_4, nI]; omega) (by omega) (by decide)
    exact bi_ hL rfl
  · cases h
noncomputable def ou_impl_num_4 {R : Type} (k : Kt R) : ((Int) × Unit) → Option R := (fun d => k (.exit 0) (((pa_impl_num 4).2 2).st d) (((pa_impl_num 4).2 2).nid))
noncomputable def L_impl_num {R : Type} : Lt R pa_impl_num := (addL (pat := pa_impl_num) 4 (fun d k => (lo_impl_num_4 (fu_impl_num_4 d.1 d.2.1 d.2.2.1) d.1 d.2.1 d.2.2.1).bind (ou_impl_num_4 k)) noL)
theorem rd_impl_num_4 {R : Type} (nx : (pa_impl_num 4).1.D → Kt R → Option R) (k : Kt R) (v0 : ByteArray) (v3 : Int) (v4 : Int) : ev Try.prog ⟨ta_impl_num, 0, 19, pa_impl_num⟩ L_impl_num co_impl_num_4 ((pa_impl_num 4).1.st (v0, v3, v4, ())) (pa_impl_num 4).1.nid (roundK 0 (pa_impl_num 4) nx k) = tr_impl_num_4  (fun d => nx d k) (fun d => k (.exit 0) (((pa_impl_num 4).2 2).st d) (((pa_impl_num 4).2 2).nid)) v0 v3 v4 := by kernel_rfl
theorem lp_impl_num_4 {R : Type} : ∀ (m : Nat) (d : (pa_impl_num 4).1.D) (k : Kt R), loopN 0 (pa_impl_num 4) (fun s nid k => ev Try.prog ⟨ta_impl_num, 0, 19, pa_impl_num⟩ L_impl_num co_impl_num_4 s nid k) m d k = (lo_impl_num_4 m d.1 d.2.1 d.2.2.1).bind (ou_impl_num_4 k)
  | 0, _, _ => rfl
  | m + 1, ⟨v0, v3, v4, ⟨⟩⟩, k => (rd_impl_num_4 _ k v0 v3 v4).trans ((congrArg (fun F => tr_impl_num_4  F (fun d => k (.exit 0) (((pa_impl_num 4).2 2).st d) (((pa_impl_num 4).2 2).nid)) v0 v3 v4) (funext fun d => lp_impl_num_4 m d k)).trans (na_impl_num_4 (f := ou_impl_num_4 k)  (fun d => lo_impl_num_4 m d.1 d.2.1 d.2.2.1) (fun d => some (d)) v0 v3 v4))
theorem en_impl_num (a0 : ByteArray) : evalF Try.prog ta_impl_num pa_impl_num sg_impl_num Try.f169 L_impl_num (a0, ()) = de_impl_num a0 := by kernel_rfl
theorem si_impl_num : SigsOk Try.prog ta_impl_num := SigsOk.of fun f sd h => by
  try dsimp only [Tb.of, ta_impl_num] at h
  cases h
theorem lk_impl_num_4 {R : Type} : LoopOk Try.prog R 19 0 pa_impl_num L_impl_num co_impl_num_4 :=
  loop_key (cfg := ⟨ta_impl_num, 0, 19, pa_impl_num⟩) (key := 4) (by kernel_rfl) (by kernel_rfl) si_impl_num rfl rfl (fun d k r h => ⟨fu_impl_num_4 d.1 d.2.1 d.2.2.1, (lp_impl_num_4 _ d k).trans h⟩) (fun c hc => by rw [show loopsIn co_impl_num_4 = [] from by kernel_rfl] at hc; cases hc)
theorem sn_impl_num : Callable Try.prog 169 ∧ Sound Try.prog 169 sd_impl_num.sg sd_impl_num.den :=
  fn_loops (pat := pa_impl_num) L_impl_num (by kernel_rfl) si_impl_num Try.func169 (by kernel_rfl) (by kernel_rfl) (fun c hc => by rw [show loopsIn (bodyOf Try.f169) = [co_impl_num_4] from by kernel_rfl] at hc; simp only [List.mem_cons, List.not_mem_nil, or_false] at hc; rcases hc with rfl <;> first | exact lk_impl_num_4) fun x r h => by
    obtain ⟨a0, ⟨⟩⟩ := x; obtain ⟨y, h1, h2⟩ := Option.bind_eq_some_iff.1 (show (m_impl_num a0).bind (fun r => some ((r, ()), (()))) = some r from h); cases h2; exact (en_impl_num a0).trans (eq_impl_num a0 _ h1)
def m_impl_ReadPage (s : ByteArray) (w : Int) : Pg × Bool := readP s w
def sg_impl_ReadPage : Sig := ⟨[.rd .str, .rd (.int .i64)], [none, none], [.rd (.pair (.int .i64) (.pair (.int .i64) (.pair (.int .i64) (.pair .str .unit)))), .rd .bool], [some 4, none]⟩
noncomputable def sd_impl_ReadPage : SD := ⟨sg_impl_ReadPage, fun x => some (((m_impl_ReadPage x.1 x.2.1).1, (m_impl_ReadPage x.1 x.2.1).2, ()), (()))⟩
noncomputable def ta_impl_ReadPage : Tb := Tb.of fun f => if f = 78 then some sd_impl_FormPage else if f = 98 then some sd_impl_in else if f = 168 then some sd_impl_room else if f = 169 then some sd_impl_num else none
def pa_impl_ReadPage : Nat → Pat × (Nat → Pat) := fun k => (⟨[], [], []⟩, fun _ => ⟨[], [], []⟩)
noncomputable def de_impl_ReadPage (a0 : ByteArray) (a1 : Int) : Option ((((Int × Int × Int × ByteArray × Unit) × (Bool) × Unit) × (Unit))) :=
  bif nI (ByteArray.size a0) != 64 then some (((0, 0, 0, ByteArray.mk #[], ()), false, ()), ())
  else
    bif !m_impl_in a1 1 8 then some (((0, 0, 0, ByteArray.mk #[], ()), false, ()), ())
    else
      bif decide (0 ≤ a1) then
        bif decide (a1 ≤ nI (ByteArray.size a0)) then
          bif decide (7 < nI (ByteArray.size (cutOf a0 a1 (nI (ByteArray.size a0))))) then
            bif decide (IntKind.wrap IntKind.i64 (byteAt (cutOf a0 a1 (nI (ByteArray.size a0))) 7) > IntKind.wrap IntKind.i64 (IntKind.wrap IntKind.i64 (64 - a1) - 8)) then
              some (((0, 0, 0, ByteArray.mk #[], ()), false, ()), ())
            else
              bif decide (0 < nI (ByteArray.size (cutOf a0 a1 (nI (ByteArray.size a0))))) then
                bif decide (3 ≤ nI (ByteArray.size (cutOf a0 a1 (nI (ByteArray.size a0))))) then
                  Option.bind (Option.bind (m_impl_num (cutOf (cutOf a0 a1 (nI (ByteArray.size a0))) 1 3)) fun val => some ((val, ()), ())) fun val =>
                    bif decide (7 ≤ nI (ByteArray.size (cutOf a0 a1 (nI (ByteArray.size a0))))) then
                      Option.bind (Option.bind (m_impl_num (cutOf (cutOf a0 a1 (nI (ByteArray.size a0))) 3 7)) fun val => some ((val, ()), ())) fun val_1 =>
                        bif decide (8 ≤ IntKind.wrap IntKind.i64 (8 + IntKind.wrap IntKind.i64 (byteAt (cutOf a0 a1 (nI (ByteArray.size a0))) 7))) then
                          bif
                              decide
                                (IntKind.wrap IntKind.i64 (8 + IntKind.wrap IntKind.i64 (byteAt (cutOf a0 a1 (nI (ByteArray.size a0))) 7)) ≤
                                  nI (ByteArray.size (cutOf a0 a1 (nI (ByteArray.size a0))))) then
                            bif
                                !ByteArray.toList
                                      (m_impl_FormPage
                                        (IntKind.wrap IntKind.i64 (byteAt (cutOf a0 a1 (nI (ByteArray.size a0))) 0), val.fst.fst, val_1.fst.fst,
                                          cutOf (cutOf a0 a1 (nI (ByteArray.size a0))) 8 (IntKind.wrap IntKind.i64 (8 + IntKind.wrap IntKind.i64 (byteAt (cutOf a0 a1 (nI (ByteArray.size a0))) 7))), ())
                                        a1) ==
                                    ByteArray.toList a0 then
                              some (((0, 0, 0, ByteArray.mk #[], ()), false, ()), ())
                            else
                              some
                                (((IntKind.wrap IntKind.i64 (byteAt (cutOf a0 a1 (nI (ByteArray.size a0))) 0), val.fst.fst, val_1.fst.fst,
                                      cutOf (cutOf a0 a1 (nI (ByteArray.size a0))) 8 (IntKind.wrap IntKind.i64 (8 + IntKind.wrap IntKind.i64 (byteAt (cutOf a0 a1 (nI (ByteArray.size a0))) 7))), ()),
                                    true, ()),
                                  ())
                          else none
                        else none
                    else none
                else none
              else none
          else none
        else none
      else none
theorem eq_impl_ReadPage (a0 : ByteArray) (a1 : Int) : de_impl_ReadPage a0 a1 = some (((m_impl_ReadPage a0 a1).1, (m_impl_ReadPage a0 a1).2, ()), (())) := by
  unfold de_impl_ReadPage m_impl_ReadPage readP
  show (bif nI a0.size != 64 then _ else (bif !inB a1 1 8 then _ else _)) = _
  cases hz : nI a0.size != 64 with
  | true => rfl
  | false =>
      cases hw : inB a1 1 8 with
      | false => rfl
      | true =>
        have k1 := (inB_r hw).1
        have k2 := (inB_r hw).2
        have hs : a0.size = 64 := by
          by_cases q : nI a0.size = 64
          · simp only [nI] at q; omega
          · rw [(bne_iff_ne).2 q] at hz; cases hz
        have hb : (cutOf a0 a1 (nI a0.size)).size = (64 - a1).toNat := by rw [cutOf_size (by omega) (by simp only [nI]; omega) (by simp [nI])]; simp only [nI, hs]; omega
        simp only [Bool.not_true, cond_false, cond_true]
        rw [decide_eq_true (show (0 : Int) ≤ a1 by omega), decide_eq_true (show a1 ≤ nI a0.size by simp only [nI]; omega)]
        unfold rawP
        generalize cutOf a0 a1 (nI a0.size) = b at *
        obtain ⟨b0, b1⟩ := byteAt_in b 7
        obtain ⟨c0, c1⟩ := byteAt_in b 0
        have hB : nI b.size = 64 - a1 := by simp only [nI]; omega
        rw [hB, decide_eq_true (show (7 : Int) < 64 - a1 by omega), decide_eq_true (show (0 : Int) < 64 - a1 by omega), decide_eq_true (show (3 : Int) ≤ 64 - a1 by omega), decide_eq_true (show (7 : Int) ≤ 64 - a1 by omega), wrap_ok (n := byteAt b 7) (by omega) (by omega), wrap_ok (n := byteAt b 0) (by omega) (by omega), wrap_ok (n := 64 - a1) (by omega) (by omega), wrap_ok (n := 64 - a1 - 8) (by omega) (by omega), wrap_ok (n := 8 + byteAt b 7) (by omega) (by omega), show 64 - a1 - 8 = 56 - a1 by omega]
        by_cases q : byteAt b 7 > 56 - a1
        · rw [decide_eq_true q]; rfl
        · rw [decide_eq_false q]
          have n1 : m_impl_num (cutOf b 1 3) = some (numS (cutOf b 1 3)) := if_pos (by rw [cutOf_size (by omega) (by omega) (by omega)]; decide)
          have n2 : m_impl_num (cutOf b 3 7) = some (numS (cutOf b 3 7)) := if_pos (by rw [cutOf_size (by omega) (by omega) (by omega)]; decide)
          simp only [n1, n2, Option.bind_some, cond_true, cond_false]
          rw [decide_eq_true (show 8 ≤ 8 + byteAt b 7 by omega), decide_eq_true (show 8 + byteAt b 7 ≤ 64 - a1 by omega)]
          show (bif !(ByteArray.toList (pageS (rawB b) a1) == ByteArray.toList a0) then _ else _) = _
          cases (ByteArray.toList (pageS (rawB b) a1) == ByteArray.toList a0) <;> rfl
theorem en_impl_ReadPage (a0 : ByteArray) (a1 : Int) : evalF Try.prog ta_impl_ReadPage pa_impl_ReadPage sg_impl_ReadPage Try.f80 noL (a0, a1, ()) = de_impl_ReadPage a0 a1 := by kernel_rfl
theorem si_impl_ReadPage : SigsOk Try.prog ta_impl_ReadPage := SigsOk.of fun f sd h => by
  try dsimp only [Tb.of, ta_impl_ReadPage] at h
  split at h
  · rename_i e; subst e; cases h; exact sn_impl_FormPage
  split at h
  · rename_i e; subst e; cases h; exact sn_impl_in
  split at h
  · rename_i e; subst e; cases h; exact sn_impl_room
  split at h
  · rename_i e; subst e; cases h; exact sn_impl_num
  cases h
theorem sn_impl_ReadPage : Callable Try.prog 80 ∧ Sound Try.prog 80 sd_impl_ReadPage.sg sd_impl_ReadPage.den :=
  fn_plain (pat := pa_impl_ReadPage) (by kernel_rfl) si_impl_ReadPage Try.func80 (by kernel_rfl) (by kernel_rfl) (by kernel_rfl) fun x r h => by
    obtain ⟨a0, a1, ⟨⟩⟩ := x; rw [← h]; exact (en_impl_ReadPage a0 a1).trans (eq_impl_ReadPage a0 a1)
end Go.Proofs.Ytjoiklaecelalaa.V
