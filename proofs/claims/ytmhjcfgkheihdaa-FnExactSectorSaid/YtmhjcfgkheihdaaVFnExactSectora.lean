/- What the functions that FnExactSector reaches come to: part 1. No condition. -/
import Derived.Test.YtmhjcfgkheihdaaQBase
import Derived.Test.YtmhjcfgkheihdaaTLay
import Derived.Test.YtmhjcfgkheihdaaProg
import Derived.KernelRfl
namespace Go.Proofs.Ytmhjcfgkheihdaa.V
open Go Go.Proofs.Ytmhjcfgkheihdaa.R Go.Proofs
set_option maxRecDepth 100000
set_option linter.unusedVariables false
set_option linter.unusedSimpArgs false
def m_laws_szStringS (a : List ByteArray) (left : Int) : Option Int := szM (.sl .str) a left
def sg_laws_szStringS : Sig := ⟨[.rd (.sl .str), .rd (.int .i64)], [none, none], [.rd (.int .i64)], [none]⟩
def sd_laws_szStringS : SD := ⟨sg_laws_szStringS, fun x => (m_laws_szStringS x.1 x.2.1).bind fun r => some ((r, ()), (()))⟩
def ta_laws_szStringS : Tb := Tb.of fun f => none
def pa_laws_szStringS : Nat → Pat × (Nat → Pat) := fun k => if k = 6 then (⟨[.sl 0 0 .str], [(0, .lf (.d (.sl .str))), (1, .lf (.d (.int .i64))), (5, .lf (.d (.int .i64)))], []⟩, fun e => if e = 1 then ⟨[], [(4, .lf (.d (.int .i64)))], []⟩ else if e = 2 then ⟨[], [(1, .lf (.d (.int .i64)))], []⟩ else ⟨[], [], []⟩) else (⟨[], [], []⟩, fun _ => ⟨[], [], []⟩)
noncomputable def co_laws_szStringS_6 : Code := (loopsIn (bodyOf Try.f71)).getD 0 .skip
def fu_laws_szStringS_6 (v0 : List ByteArray) (v1 : Int) (v5 : Int) : Nat := ((v0.length : Int) - v5).toNat + 1
def tr_laws_szStringS_6 {R : Type}  (NX : ((List ByteArray) × (Int) × (Int) × Unit) → Option R) (X2 : ((Int) × Unit) → Option R) (X1 : ((Int) × Unit) → Option R) (v0 : List ByteArray) (v1 : Int) (v5 : Int) : Option R :=
  bif decide (v5 < nI (List.length v0)) then
    bif decide (0 ≤ v5) then
      bif decide (v5 < nI (List.length v0)) then
        bif decide (IntKind.wrap IntKind.i64 (v1 - nI (ByteArray.size (List.getD v0 (Int.toNat v5) (ByteArray.mk #[])))) < 0) then X1 (-1, ())
        else NX (v0, IntKind.wrap IntKind.i64 (v1 - nI (ByteArray.size (List.getD v0 (Int.toNat v5) (ByteArray.mk #[])))), IntKind.wrap IntKind.i64 (v5 + 1), ())
      else none
    else none
  else X2 (v1, ())
def lo_laws_szStringS_6 : Nat → (List ByteArray) → (Int) → (Int) →  Option (((Int) × Unit) ⊕ ((Int) × Unit))
  | 0, _, _, _ => none
  | m + 1, v0, v1, v5 => tr_laws_szStringS_6  (fun d => lo_laws_szStringS_6 m d.1 d.2.1 d.2.2.1) (fun d => some (.inl (d))) (fun d => some (.inr (d))) v0 v1 v5
theorem na_laws_szStringS_6 {R S : Type}  (NX : ((List ByteArray) × (Int) × (Int) × Unit) → Option R) (X2 : ((Int) × Unit) → Option R) (X1 : ((Int) × Unit) → Option R) (v0 : List ByteArray) (v1 : Int) (v5 : Int) (f : R → Option S) : tr_laws_szStringS_6  (fun d => (NX d).bind f) (fun d => (X2 d).bind f) (fun d => (X1 d).bind f) v0 v1 v5 = (tr_laws_szStringS_6  NX X2 X1 v0 v1 v5).bind f := by
  unfold tr_laws_szStringS_6
  simp only [cond_bind, ite_bind, onSum_bind, Option.bind_assoc, Option.bind_none, Option.bind_some]
def de_laws_szStringS (a0 : List ByteArray) (a1 : Int) : Option ((((Int) × Unit) × (Unit))) :=
  bif decide (IntKind.wrap IntKind.i64 (a1 - nI (List.length a0)) < 0) then some ((-1, ()), ())
  else Option.bind ((fun d => lo_laws_szStringS_6 (fu_laws_szStringS_6 d.1 d.2.1 d.2.2.1) d.1 d.2.1 d.2.2.1) (a0, IntKind.wrap IntKind.i64 (a1 - nI (List.length a0)), 0, ())) fun val => onSum (fun val => some ((val.fst, ()), ())) (fun val => some ((val.fst, ()), ())) val
theorem eq_laws_szStringS (a0 : List ByteArray) (a1 : Int) r (h : m_laws_szStringS a0 a1 = some r) : de_laws_szStringS a0 a1 = some ((r, ()), (())) := by
  obtain ⟨hc, g0, g1, rfl⟩ := szM_some (t := .sl .str) h
  obtain ⟨hl0, hall⟩ := fineB_sl hc
  have hl : a0.length < 1152921504606846976 := hl0
  clear hl0 hc
  · unfold de_laws_szStringS
    have hw1 : IntKind.i64.wrap (a1 - nI a0.length) = a1 - (a0.length : Int) := wrap_ok (by simp only [nI]; omega) (by simp only [nI]; omega)
    rw [hw1]
    have hL := sz_loop (xs := a0) (ByteArray.mk #[]) ByteArray.size (g := fun m l i => lo_laws_szStringS_6 m a0 l i) (ok := fun l => .inl (l, ())) (bad := .inr (-1, ())) (fun m i l hi h0 h1 => by
      show lo_laws_szStringS_6 (m + 1) a0 l i = _
      simp only [lo_laws_szStringS_6, tr_laws_szStringS_6]
      rw [cLt hi, cLe0, wI (by omega)]
      simp only [cond_true, Int.toNat_natCast]
      have hf : ByteArray.size (List.getD (α := ByteArray) a0 i (ByteArray.mk #[])) < 1152921504606846976 := fineB_str (hall _ (getD_mem (ByteArray.mk #[]) hi))
      have hw : IntKind.i64.wrap (l - nI (ByteArray.size (List.getD (α := ByteArray) a0 i (ByteArray.mk #[])))) = l - (ByteArray.size (List.getD (α := ByteArray) a0 i (ByteArray.mk #[])) : Int) := wrap_ok (by simp only [nI]; omega) (by simp only [nI]; omega)
      simp only [hw]
    ) (fun m l => by
      show lo_laws_szStringS_6 (m + 1) a0 l a0.length = _
      simp only [lo_laws_szStringS_6, tr_laws_szStringS_6]
      rw [cLtF]
      rfl) (fu_laws_szStringS_6 a0 (a1 - (a0.length : Int)) 0) 0 (a1 - (a0.length : Int)) (by omega) (by simp [fu_laws_szStringS_6])
    have hW : wt (.sl .str) a0 = a0.length + (a0.map ByteArray.size).sum := rfl
    rw [hW]
    by_cases q : a1 - (a0.length : Int) < 0
    · simp only [decide_eq_true q, cond_true]; rw [if_pos (by omega)]
    · simp only [decide_eq_false q, cond_false]
      have hL := hL (by omega) (by omega)
      rw [List.drop_zero] at hL
      show (lo_laws_szStringS_6 (fu_laws_szStringS_6 a0 (a1 - (a0.length : Int)) 0) a0 (a1 - (a0.length : Int)) 0).bind _ = _
      have hL' : lo_laws_szStringS_6 (fu_laws_szStringS_6 a0 (a1 - (a0.length : Int)) 0) a0 (a1 - (a0.length : Int)) 0 = _ := hL
      rw [hL']
      have hsum : a1 - ((a0.length + (a0.map ByteArray.size).sum : Nat) : Int) = a1 - (a0.length : Int) - ((a0.map ByteArray.size).sum : Int) := by omega
      rw [hsum]
      by_cases q2 : a1 - (a0.length : Int) - ((a0.map ByteArray.size).sum : Int) < 0
      · simp only [if_pos q2]; rfl
      · simp only [if_neg q2]; rfl
def ou_laws_szStringS_6 {R : Type} (k : Kt R) : (((Int) × Unit) ⊕ ((Int) × Unit)) → Option R := (onSum (fun d => k (.exit 0) (((pa_laws_szStringS 6).2 2).st d) (((pa_laws_szStringS 6).2 2).nid)) (fun d => k .ret (((pa_laws_szStringS 6).2 1).st d) (((pa_laws_szStringS 6).2 1).nid)))
def L_laws_szStringS {R : Type} : Lt R pa_laws_szStringS := (addL (pat := pa_laws_szStringS) 6 (fun d k => (lo_laws_szStringS_6 (fu_laws_szStringS_6 d.1 d.2.1 d.2.2.1) d.1 d.2.1 d.2.2.1).bind (ou_laws_szStringS_6 k)) noL)
theorem rd_laws_szStringS_6 {R : Type} (nx : (pa_laws_szStringS 6).1.D → Kt R → Option R) (k : Kt R) (v0 : List ByteArray) (v1 : Int) (v5 : Int) : ev Try.prog ⟨ta_laws_szStringS, 0, 28, pa_laws_szStringS⟩ L_laws_szStringS co_laws_szStringS_6 ((pa_laws_szStringS 6).1.st (v0, v1, v5, ())) (pa_laws_szStringS 6).1.nid (roundK 0 (pa_laws_szStringS 6) nx k) = tr_laws_szStringS_6  (fun d => nx d k) (fun d => k (.exit 0) (((pa_laws_szStringS 6).2 2).st d) (((pa_laws_szStringS 6).2 2).nid)) (fun d => k .ret (((pa_laws_szStringS 6).2 1).st d) (((pa_laws_szStringS 6).2 1).nid)) v0 v1 v5 := by kernel_rfl
theorem lp_laws_szStringS_6 {R : Type} : ∀ (m : Nat) (d : (pa_laws_szStringS 6).1.D) (k : Kt R), loopN 0 (pa_laws_szStringS 6) (fun s nid k => ev Try.prog ⟨ta_laws_szStringS, 0, 28, pa_laws_szStringS⟩ L_laws_szStringS co_laws_szStringS_6 s nid k) m d k = (lo_laws_szStringS_6 m d.1 d.2.1 d.2.2.1).bind (ou_laws_szStringS_6 k)
  | 0, _, _ => rfl
  | m + 1, ⟨v0, v1, v5, ⟨⟩⟩, k => (rd_laws_szStringS_6 _ k v0 v1 v5).trans ((congrArg (fun F => tr_laws_szStringS_6  F (fun d => k (.exit 0) (((pa_laws_szStringS 6).2 2).st d) (((pa_laws_szStringS 6).2 2).nid)) (fun d => k .ret (((pa_laws_szStringS 6).2 1).st d) (((pa_laws_szStringS 6).2 1).nid)) v0 v1 v5) (funext fun d => lp_laws_szStringS_6 m d k)).trans (na_laws_szStringS_6 (f := ou_laws_szStringS_6 k)  (fun d => lo_laws_szStringS_6 m d.1 d.2.1 d.2.2.1) (fun d => some (.inl (d))) (fun d => some (.inr (d))) v0 v1 v5))
theorem en_laws_szStringS (a0 : List ByteArray) (a1 : Int) : evalF Try.prog ta_laws_szStringS pa_laws_szStringS sg_laws_szStringS Try.f71 L_laws_szStringS (a0, a1, ()) = de_laws_szStringS a0 a1 := by kernel_rfl
theorem si_laws_szStringS : SigsOk Try.prog ta_laws_szStringS := SigsOk.of fun f sd h => by
  try dsimp only [Tb.of, ta_laws_szStringS] at h
  cases h
theorem lk_laws_szStringS_6 {R : Type} : LoopOk Try.prog R 28 0 pa_laws_szStringS L_laws_szStringS co_laws_szStringS_6 :=
  loop_key (cfg := ⟨ta_laws_szStringS, 0, 28, pa_laws_szStringS⟩) (key := 6) (by kernel_rfl) (by kernel_rfl) si_laws_szStringS rfl rfl (fun d k r h => ⟨fu_laws_szStringS_6 d.1 d.2.1 d.2.2.1, (lp_laws_szStringS_6 _ d k).trans h⟩) (fun c hc => by rw [show loopsIn co_laws_szStringS_6 = [] from by kernel_rfl] at hc; cases hc)
theorem sn_laws_szStringS : Callable Try.prog 71 ∧ Sound Try.prog 71 sd_laws_szStringS.sg sd_laws_szStringS.den :=
  fn_loops (pat := pa_laws_szStringS) L_laws_szStringS (by kernel_rfl) si_laws_szStringS Try.func71 (by kernel_rfl) (by kernel_rfl) (fun c hc => by rw [show loopsIn (bodyOf Try.f71) = [co_laws_szStringS_6] from by kernel_rfl] at hc; simp only [List.mem_cons, List.not_mem_nil, or_false] at hc; rcases hc with rfl <;> first | exact lk_laws_szStringS_6) fun x r h => by
    obtain ⟨a0, a1, ⟨⟩⟩ := x; obtain ⟨y, h1, h2⟩ := Option.bind_eq_some_iff.1 (show (m_laws_szStringS a0 a1).bind (fun r => some ((r, ()), (()))) = some r from h); cases h2; exact (en_laws_szStringS a0 a1).trans (eq_laws_szStringS a0 a1 _ h1)
def m_laws_szWrite (a : Int × ByteArray × Unit) (left : Int) : Option Int := szM (.pair (.int .i64) (.pair .str .unit)) a left
def sg_laws_szWrite : Sig := ⟨[.rd (.pair (.int .i64) (.pair .str .unit)), .rd (.int .i64)], [some 2, none], [.rd (.int .i64)], [none]⟩
def sd_laws_szWrite : SD := ⟨sg_laws_szWrite, fun x => (m_laws_szWrite x.1 x.2.1).bind fun r => some ((r, ()), (()))⟩
def ta_laws_szWrite : Tb := Tb.of fun f => none
def pa_laws_szWrite : Nat → Pat × (Nat → Pat) := fun k => (⟨[], [], []⟩, fun _ => ⟨[], [], []⟩)
def de_laws_szWrite (a0 : Int × ByteArray × Unit) (a1 : Int) : Option ((((Int) × Unit) × (Unit))) :=
  bif decide (IntKind.wrap IntKind.i64 (a1 - nI (ByteArray.size a0.snd.fst)) < 0) then some ((-1, ()), ()) else some ((IntKind.wrap IntKind.i64 (a1 - nI (ByteArray.size a0.snd.fst)), ()), ())
theorem eq_laws_szWrite (a0 : Int × ByteArray × Unit) (a1 : Int) r (h : m_laws_szWrite a0 a1 = some r) : de_laws_szWrite a0 a1 = some ((r, ()), (())) := by
  obtain ⟨hc, g0, g1, rfl⟩ := szM_some (t := (.pair (.int .i64) (.pair .str .unit))) h
  obtain ⟨hc0, hc1, _⟩ : fineB (.int .i64) a0.1 = true ∧ fineB .str a0.2.1 = true ∧ True := by
    have s := hc
    obtain ⟨h0, s⟩ := fineB_pair s
    obtain ⟨h1, s⟩ := fineB_pair s
    exact ⟨h0, h1, trivial⟩
  unfold de_laws_szWrite
  have hwt : (wt (.pair (.int .i64) (.pair .str .unit)) a0 : Int) = (ByteArray.size a0.2.1 : Int) := by simp only [wt]; omega
  rw [hwt]
  have hs0 : ByteArray.size a0.2.1 < 1152921504606846976 := fineB_str hc1
  have e0 : IntKind.i64.wrap (a1 - nI (ByteArray.size a0.2.1)) = a1 - (ByteArray.size a0.2.1 : Int) := wrap_ok (by simp only [nI]; omega) (by simp only [nI]; omega)
  simp only [e0]
  by_cases q0 : a1 - (ByteArray.size a0.2.1 : Int) < 0
  · simp only [decide_eq_true q0, cond_true]; try rw [if_pos (by omega)]
  · simp only [decide_eq_false q0, cond_false]
    try rw [if_neg q0]
theorem en_laws_szWrite (a0 : Int × ByteArray × Unit) (a1 : Int) : evalF Try.prog ta_laws_szWrite pa_laws_szWrite sg_laws_szWrite Try.f116 noL (a0, a1, ()) = de_laws_szWrite a0 a1 := by kernel_rfl
theorem si_laws_szWrite : SigsOk Try.prog ta_laws_szWrite := SigsOk.of fun f sd h => by
  try dsimp only [Tb.of, ta_laws_szWrite] at h
  cases h
theorem sn_laws_szWrite : Callable Try.prog 116 ∧ Sound Try.prog 116 sd_laws_szWrite.sg sd_laws_szWrite.den :=
  fn_plain (pat := pa_laws_szWrite) (by kernel_rfl) si_laws_szWrite Try.func116 (by kernel_rfl) (by kernel_rfl) (by kernel_rfl) fun x r h => by
    obtain ⟨a0, a1, ⟨⟩⟩ := x; obtain ⟨y, h1, h2⟩ := Option.bind_eq_some_iff.1 (show (m_laws_szWrite a0 a1).bind (fun r => some ((r, ()), (()))) = some r from h); cases h2; exact (en_laws_szWrite a0 a1).trans (eq_laws_szWrite a0 a1 _ h1)
def m_laws_szWriteS (a : List (Int × ByteArray × Unit)) (left : Int) : Option Int := szM (.sl (.pair (.int .i64) (.pair .str .unit))) a left
def sg_laws_szWriteS : Sig := ⟨[.rd (.sl (.pair (.int .i64) (.pair .str .unit))), .rd (.int .i64)], [none, none], [.rd (.int .i64)], [none]⟩
def sd_laws_szWriteS : SD := ⟨sg_laws_szWriteS, fun x => (m_laws_szWriteS x.1 x.2.1).bind fun r => some ((r, ()), (()))⟩
def ta_laws_szWriteS : Tb := Tb.of fun f => if f = 116 then some sd_laws_szWrite else none
def pa_laws_szWriteS : Nat → Pat × (Nat → Pat) := fun k => if k = 6 then (⟨[.sl 0 0 (.pair (.int .i64) (.pair .str .unit))], [(0, .lf (.d (.sl (.pair (.int .i64) (.pair .str .unit))))), (1, .lf (.d (.int .i64))), (5, .lf (.d (.int .i64)))], []⟩, fun e => if e = 1 then ⟨[], [(4, .lf (.d (.int .i64)))], []⟩ else if e = 2 then ⟨[], [(1, .lf (.d (.int .i64)))], []⟩ else ⟨[], [], []⟩) else (⟨[], [], []⟩, fun _ => ⟨[], [], []⟩)
noncomputable def co_laws_szWriteS_6 : Code := (loopsIn (bodyOf Try.f72)).getD 0 .skip
def fu_laws_szWriteS_6 (v0 : List (Int × ByteArray × Unit)) (v1 : Int) (v5 : Int) : Nat := ((v0.length : Int) - v5).toNat + 1
def tr_laws_szWriteS_6 {R : Type}  (NX : ((List (Int × ByteArray × Unit)) × (Int) × (Int) × Unit) → Option R) (X2 : ((Int) × Unit) → Option R) (X1 : ((Int) × Unit) → Option R) (v0 : List (Int × ByteArray × Unit)) (v1 : Int) (v5 : Int) : Option R :=
  bif decide (v5 < nI (List.length v0)) then
    bif decide (0 ≤ v5) then
      bif decide (v5 < nI (List.length v0)) then
        Option.bind
          (Option.bind (m_laws_szWrite ((List.getD v0 (Int.toNat v5) (0, ByteArray.mk #[], ())).fst, (List.getD v0 (Int.toNat v5) (0, ByteArray.mk #[], ())).snd.fst, ()) v1) fun val =>
            some ((val, ()), ()))
          fun val => bif decide (val.fst.fst < 0) then X1 (-1, ()) else NX (v0, val.fst.fst, IntKind.wrap IntKind.i64 (v5 + 1), ())
      else none
    else none
  else X2 (v1, ())
def lo_laws_szWriteS_6 : Nat → (List (Int × ByteArray × Unit)) → (Int) → (Int) →  Option (((Int) × Unit) ⊕ ((Int) × Unit))
  | 0, _, _, _ => none
  | m + 1, v0, v1, v5 => tr_laws_szWriteS_6  (fun d => lo_laws_szWriteS_6 m d.1 d.2.1 d.2.2.1) (fun d => some (.inl (d))) (fun d => some (.inr (d))) v0 v1 v5
theorem na_laws_szWriteS_6 {R S : Type}  (NX : ((List (Int × ByteArray × Unit)) × (Int) × (Int) × Unit) → Option R) (X2 : ((Int) × Unit) → Option R) (X1 : ((Int) × Unit) → Option R) (v0 : List (Int × ByteArray × Unit)) (v1 : Int) (v5 : Int) (f : R → Option S) : tr_laws_szWriteS_6  (fun d => (NX d).bind f) (fun d => (X2 d).bind f) (fun d => (X1 d).bind f) v0 v1 v5 = (tr_laws_szWriteS_6  NX X2 X1 v0 v1 v5).bind f := by
  unfold tr_laws_szWriteS_6
  simp only [cond_bind, ite_bind, onSum_bind, Option.bind_assoc, Option.bind_none, Option.bind_some]
def de_laws_szWriteS (a0 : List (Int × ByteArray × Unit)) (a1 : Int) : Option ((((Int) × Unit) × (Unit))) :=
  bif decide (IntKind.wrap IntKind.i64 (a1 - nI (List.length a0)) < 0) then some ((-1, ()), ())
  else Option.bind ((fun d => lo_laws_szWriteS_6 (fu_laws_szWriteS_6 d.1 d.2.1 d.2.2.1) d.1 d.2.1 d.2.2.1) (a0, IntKind.wrap IntKind.i64 (a1 - nI (List.length a0)), 0, ())) fun val => onSum (fun val => some ((val.fst, ()), ())) (fun val => some ((val.fst, ()), ())) val
theorem eq_laws_szWriteS (a0 : List (Int × ByteArray × Unit)) (a1 : Int) r (h : m_laws_szWriteS a0 a1 = some r) : de_laws_szWriteS a0 a1 = some ((r, ()), (())) := by
  obtain ⟨hc, g0, g1, rfl⟩ := szM_some (t := .sl (.pair (.int .i64) (.pair .str .unit))) h
  obtain ⟨hl0, hall⟩ := fineB_sl hc
  have hl : a0.length < 1152921504606846976 := hl0
  clear hl0 hc
  · unfold de_laws_szWriteS
    have hw1 : IntKind.i64.wrap (a1 - nI a0.length) = a1 - (a0.length : Int) := wrap_ok (by simp only [nI]; omega) (by simp only [nI]; omega)
    rw [hw1]
    have hL := sz_loop (xs := a0) (0, (ByteArray.mk #[]), ()) (fun x : Int × ByteArray × Unit => wt (.pair (.int .i64) (.pair .str .unit)) x) (g := fun m l i => lo_laws_szWriteS_6 m a0 l i) (ok := fun l => .inl (l, ())) (bad := .inr (-1, ())) (fun m i l hi h0 h1 => by
      show lo_laws_szWriteS_6 (m + 1) a0 l i = _
      simp only [lo_laws_szWriteS_6, tr_laws_szWriteS_6]
      rw [cLt hi, cLe0, wI (by omega)]
      simp only [cond_true, Int.toNat_natCast]
      have hE : m_laws_szWrite ((List.getD (α := Int × ByteArray × Unit) a0 i (0, (ByteArray.mk #[]), ())).fst, (List.getD (α := Int × ByteArray × Unit) a0 i (0, (ByteArray.mk #[]), ())).snd.fst, ()) l = some (if l - (wt (.pair (.int .i64) (.pair .str .unit)) (List.getD (α := Int × ByteArray × Unit) a0 i (0, (ByteArray.mk #[]), ())) : Int) < 0 then -1 else l - wt (.pair (.int .i64) (.pair .str .unit)) (List.getD (α := Int × ByteArray × Unit) a0 i (0, (ByteArray.mk #[]), ()))) := by
        exact szM_is (t := (.pair (.int .i64) (.pair .str .unit))) (x := (List.getD (α := Int × ByteArray × Unit) a0 i (0, (ByteArray.mk #[]), ()))) (hall _ (getD_mem (0, (ByteArray.mk #[]), ()) hi)) h0 h1
      rw [hE]
      by_cases q : l - (wt (.pair (.int .i64) (.pair .str .unit)) (List.getD (α := Int × ByteArray × Unit) a0 i (0, (ByteArray.mk #[]), ())) : Int) < 0
      · simp only [if_pos q, decide_eq_true q, Option.bind_some, cond_true]; rfl
      · simp only [if_neg q, decide_eq_false q, Option.bind_some, cond_false]
    ) (fun m l => by
      show lo_laws_szWriteS_6 (m + 1) a0 l a0.length = _
      simp only [lo_laws_szWriteS_6, tr_laws_szWriteS_6]
      rw [cLtF]
      rfl) (fu_laws_szWriteS_6 a0 (a1 - (a0.length : Int)) 0) 0 (a1 - (a0.length : Int)) (by omega) (by simp [fu_laws_szWriteS_6])
    have hW : wt (.sl (.pair (.int .i64) (.pair .str .unit))) a0 = a0.length + (a0.map (fun x : Int × ByteArray × Unit => wt (.pair (.int .i64) (.pair .str .unit)) x)).sum := rfl
    rw [hW]
    by_cases q : a1 - (a0.length : Int) < 0
    · simp only [decide_eq_true q, cond_true]; rw [if_pos (by omega)]
    · simp only [decide_eq_false q, cond_false]
      have hL := hL (by omega) (by omega)
      rw [List.drop_zero] at hL
      show (lo_laws_szWriteS_6 (fu_laws_szWriteS_6 a0 (a1 - (a0.length : Int)) 0) a0 (a1 - (a0.length : Int)) 0).bind _ = _
      have hL' : lo_laws_szWriteS_6 (fu_laws_szWriteS_6 a0 (a1 - (a0.length : Int)) 0) a0 (a1 - (a0.length : Int)) 0 = _ := hL
      rw [hL']
      have hsum : a1 - ((a0.length + (a0.map (fun x : Int × ByteArray × Unit => wt (.pair (.int .i64) (.pair .str .unit)) x)).sum : Nat) : Int) = a1 - (a0.length : Int) - ((a0.map (fun x : Int × ByteArray × Unit => wt (.pair (.int .i64) (.pair .str .unit)) x)).sum : Int) := by omega
      rw [hsum]
      by_cases q2 : a1 - (a0.length : Int) - ((a0.map (fun x : Int × ByteArray × Unit => wt (.pair (.int .i64) (.pair .str .unit)) x)).sum : Int) < 0
      · simp only [if_pos q2]; rfl
      · simp only [if_neg q2]; rfl
def ou_laws_szWriteS_6 {R : Type} (k : Kt R) : (((Int) × Unit) ⊕ ((Int) × Unit)) → Option R := (onSum (fun d => k (.exit 0) (((pa_laws_szWriteS 6).2 2).st d) (((pa_laws_szWriteS 6).2 2).nid)) (fun d => k .ret (((pa_laws_szWriteS 6).2 1).st d) (((pa_laws_szWriteS 6).2 1).nid)))
def L_laws_szWriteS {R : Type} : Lt R pa_laws_szWriteS := (addL (pat := pa_laws_szWriteS) 6 (fun d k => (lo_laws_szWriteS_6 (fu_laws_szWriteS_6 d.1 d.2.1 d.2.2.1) d.1 d.2.1 d.2.2.1).bind (ou_laws_szWriteS_6 k)) noL)
theorem rd_laws_szWriteS_6 {R : Type} (nx : (pa_laws_szWriteS 6).1.D → Kt R → Option R) (k : Kt R) (v0 : List (Int × ByteArray × Unit)) (v1 : Int) (v5 : Int) : ev Try.prog ⟨ta_laws_szWriteS, 0, 27, pa_laws_szWriteS⟩ L_laws_szWriteS co_laws_szWriteS_6 ((pa_laws_szWriteS 6).1.st (v0, v1, v5, ())) (pa_laws_szWriteS 6).1.nid (roundK 0 (pa_laws_szWriteS 6) nx k) = tr_laws_szWriteS_6  (fun d => nx d k) (fun d => k (.exit 0) (((pa_laws_szWriteS 6).2 2).st d) (((pa_laws_szWriteS 6).2 2).nid)) (fun d => k .ret (((pa_laws_szWriteS 6).2 1).st d) (((pa_laws_szWriteS 6).2 1).nid)) v0 v1 v5 := by kernel_rfl
theorem lp_laws_szWriteS_6 {R : Type} : ∀ (m : Nat) (d : (pa_laws_szWriteS 6).1.D) (k : Kt R), loopN 0 (pa_laws_szWriteS 6) (fun s nid k => ev Try.prog ⟨ta_laws_szWriteS, 0, 27, pa_laws_szWriteS⟩ L_laws_szWriteS co_laws_szWriteS_6 s nid k) m d k = (lo_laws_szWriteS_6 m d.1 d.2.1 d.2.2.1).bind (ou_laws_szWriteS_6 k)
  | 0, _, _ => rfl
  | m + 1, ⟨v0, v1, v5, ⟨⟩⟩, k => (rd_laws_szWriteS_6 _ k v0 v1 v5).trans ((congrArg (fun F => tr_laws_szWriteS_6  F (fun d => k (.exit 0) (((pa_laws_szWriteS 6).2 2).st d) (((pa_laws_szWriteS 6).2 2).nid)) (fun d => k .ret (((pa_laws_szWriteS 6).2 1).st d) (((pa_laws_szWriteS 6).2 1).nid)) v0 v1 v5) (funext fun d => lp_laws_szWriteS_6 m d k)).trans (na_laws_szWriteS_6 (f := ou_laws_szWriteS_6 k)  (fun d => lo_laws_szWriteS_6 m d.1 d.2.1 d.2.2.1) (fun d => some (.inl (d))) (fun d => some (.inr (d))) v0 v1 v5))
theorem en_laws_szWriteS (a0 : List (Int × ByteArray × Unit)) (a1 : Int) : evalF Try.prog ta_laws_szWriteS pa_laws_szWriteS sg_laws_szWriteS Try.f72 L_laws_szWriteS (a0, a1, ()) = de_laws_szWriteS a0 a1 := by kernel_rfl
theorem si_laws_szWriteS : SigsOk Try.prog ta_laws_szWriteS := SigsOk.of fun f sd h => by
  try dsimp only [Tb.of, ta_laws_szWriteS] at h
  split at h
  · rename_i e; subst e; cases h; exact sn_laws_szWrite
  cases h
theorem lk_laws_szWriteS_6 {R : Type} : LoopOk Try.prog R 27 0 pa_laws_szWriteS L_laws_szWriteS co_laws_szWriteS_6 :=
  loop_key (cfg := ⟨ta_laws_szWriteS, 0, 27, pa_laws_szWriteS⟩) (key := 6) (by kernel_rfl) (by kernel_rfl) si_laws_szWriteS rfl rfl (fun d k r h => ⟨fu_laws_szWriteS_6 d.1 d.2.1 d.2.2.1, (lp_laws_szWriteS_6 _ d k).trans h⟩) (fun c hc => by rw [show loopsIn co_laws_szWriteS_6 = [] from by kernel_rfl] at hc; cases hc)
theorem sn_laws_szWriteS : Callable Try.prog 72 ∧ Sound Try.prog 72 sd_laws_szWriteS.sg sd_laws_szWriteS.den :=
  fn_loops (pat := pa_laws_szWriteS) L_laws_szWriteS (by kernel_rfl) si_laws_szWriteS Try.func72 (by kernel_rfl) (by kernel_rfl) (fun c hc => by rw [show loopsIn (bodyOf Try.f72) = [co_laws_szWriteS_6] from by kernel_rfl] at hc; simp only [List.mem_cons, List.not_mem_nil, or_false] at hc; rcases hc with rfl <;> first | exact lk_laws_szWriteS_6) fun x r h => by
    obtain ⟨a0, a1, ⟨⟩⟩ := x; obtain ⟨y, h1, h2⟩ := Option.bind_eq_some_iff.1 (show (m_laws_szWriteS a0 a1).bind (fun r => some ((r, ()), (()))) = some r from h); cases h2; exact (en_laws_szWriteS a0 a1).trans (eq_laws_szWriteS a0 a1 _ h1)
def m_laws_szDisk (a : (List ByteArray) × (List (Int × ByteArray × Unit)) × Unit) (left : Int) : Option Int := szM (.pair (.sl .str) (.pair (.sl (.pair (.int .i64) (.pair .str .unit))) .unit)) a left
def sg_laws_szDisk : Sig := ⟨[.rd (.pair (.sl .str) (.pair (.sl (.pair (.int .i64) (.pair .str .unit))) .unit)), .rd (.int .i64)], [some 2, none], [.rd (.int .i64)], [none]⟩
def sd_laws_szDisk : SD := ⟨sg_laws_szDisk, fun x => (m_laws_szDisk x.1 x.2.1).bind fun r => some ((r, ()), (()))⟩
def ta_laws_szDisk : Tb := Tb.of fun f => if f = 71 then some sd_laws_szStringS else if f = 72 then some sd_laws_szWriteS else none
def pa_laws_szDisk : Nat → Pat × (Nat → Pat) := fun k => (⟨[], [], []⟩, fun _ => ⟨[], [], []⟩)
def de_laws_szDisk (a0 : (List ByteArray) × (List (Int × ByteArray × Unit)) × Unit) (a1 : Int) : Option ((((Int) × Unit) × (Unit))) :=
  Option.bind (Option.bind (m_laws_szStringS a0.fst a1) fun val => some ((val, ()), ())) fun val =>
    bif decide (val.fst.fst < 0) then some ((-1, ()), ())
    else
      Option.bind (Option.bind (m_laws_szWriteS a0.snd.fst val.fst.fst) fun val => some ((val, ()), ())) fun val =>
        bif decide (val.fst.fst < 0) then some ((-1, ()), ()) else some ((val.fst.fst, ()), ())
theorem eq_laws_szDisk (a0 : (List ByteArray) × (List (Int × ByteArray × Unit)) × Unit) (a1 : Int) r (h : m_laws_szDisk a0 a1 = some r) : de_laws_szDisk a0 a1 = some ((r, ()), (())) := by
  obtain ⟨hc, g0, g1, rfl⟩ := szM_some (t := (.pair (.sl .str) (.pair (.sl (.pair (.int .i64) (.pair .str .unit))) .unit))) h
  obtain ⟨hc0, hc1, _⟩ : fineB (.sl .str) a0.1 = true ∧ fineB (.sl (.pair (.int .i64) (.pair .str .unit))) a0.2.1 = true ∧ True := by
    have s := hc
    obtain ⟨h0, s⟩ := fineB_pair s
    obtain ⟨h1, s⟩ := fineB_pair s
    exact ⟨h0, h1, trivial⟩
  unfold de_laws_szDisk
  have hwt : (wt (.pair (.sl .str) (.pair (.sl (.pair (.int .i64) (.pair .str .unit))) .unit)) a0 : Int) = (wt (.sl .str) a0.1 : Int) + (wt (.sl (.pair (.int .i64) (.pair .str .unit))) a0.2.1 : Int) := by simp only [wt]; omega
  rw [hwt]
  have e0 : m_laws_szStringS a0.1 (a1) = some (if a1 - (wt (.sl .str) a0.1 : Int) < 0 then -1 else a1 - (wt (.sl .str) a0.1 : Int)) := szM_is (t := (.sl .str)) (x := a0.1) hc0 (by omega) (by omega)
  simp only [show m_laws_szStringS a0.1 (a1) = _ from e0, Option.bind_some]
  by_cases q0 : a1 - (wt (.sl .str) a0.1 : Int) < 0
  · simp only [if_pos q0, show decide ((-1 : Int) < 0) = true from rfl, cond_true]; try rw [if_pos (by omega)]
  · simp only [if_neg q0, decide_eq_false q0, cond_false]
    have e1 : m_laws_szWriteS a0.2.1 (a1 - (wt (.sl .str) a0.1 : Int)) = some (if a1 - (wt (.sl .str) a0.1 : Int) - (wt (.sl (.pair (.int .i64) (.pair .str .unit))) a0.2.1 : Int) < 0 then -1 else a1 - (wt (.sl .str) a0.1 : Int) - (wt (.sl (.pair (.int .i64) (.pair .str .unit))) a0.2.1 : Int)) := szM_is (t := (.sl (.pair (.int .i64) (.pair .str .unit)))) (x := a0.2.1) hc1 (by omega) (by omega)
    simp only [show m_laws_szWriteS a0.2.1 (a1 - (wt (.sl .str) a0.1 : Int)) = _ from e1, Option.bind_some]
    by_cases q1 : a1 - (wt (.sl .str) a0.1 : Int) - (wt (.sl (.pair (.int .i64) (.pair .str .unit))) a0.2.1 : Int) < 0
    · simp only [if_pos q1, show decide ((-1 : Int) < 0) = true from rfl, cond_true]; try rw [if_pos (by omega)]
    · simp only [if_neg q1, decide_eq_false q1, cond_false]
      rw [if_neg (by omega)]
      simp only [Int.sub_sub, Int.add_assoc]
theorem en_laws_szDisk (a0 : (List ByteArray) × (List (Int × ByteArray × Unit)) × Unit) (a1 : Int) : evalF Try.prog ta_laws_szDisk pa_laws_szDisk sg_laws_szDisk Try.f23 noL (a0, a1, ()) = de_laws_szDisk a0 a1 := by kernel_rfl
theorem si_laws_szDisk : SigsOk Try.prog ta_laws_szDisk := SigsOk.of fun f sd h => by
  try dsimp only [Tb.of, ta_laws_szDisk] at h
  split at h
  · rename_i e; subst e; cases h; exact sn_laws_szStringS
  split at h
  · rename_i e; subst e; cases h; exact sn_laws_szWriteS
  cases h
theorem sn_laws_szDisk : Callable Try.prog 23 ∧ Sound Try.prog 23 sd_laws_szDisk.sg sd_laws_szDisk.den :=
  fn_plain (pat := pa_laws_szDisk) (by kernel_rfl) si_laws_szDisk Try.func23 (by kernel_rfl) (by kernel_rfl) (by kernel_rfl) fun x r h => by
    obtain ⟨a0, a1, ⟨⟩⟩ := x; obtain ⟨y, h1, h2⟩ := Option.bind_eq_some_iff.1 (show (m_laws_szDisk a0 a1).bind (fun r => some ((r, ()), (()))) = some r from h); cases h2; exact (en_laws_szDisk a0 a1).trans (eq_laws_szDisk a0 a1 _ h1)
def m_laws_toStringS (a : List ByteArray) : Option (List ByteArray) := toM (.sl .str) a
def sg_laws_toStringS : Sig := ⟨[.rd (.sl .str)], [none], [.own 9 .str], [none]⟩
def sd_laws_toStringS : SD := ⟨sg_laws_toStringS, fun x => (m_laws_toStringS x.1).bind fun r => some ((r, ()), (()))⟩
def ta_laws_toStringS : Tb := Tb.of fun f => none
def pa_laws_toStringS : Nat → Pat × (Nat → Pat) := fun k => if k = 4 then (⟨[.sl 0 0 .str, .row 3 0 9 .str], [(0, .lf (.d (.sl .str))), (3, .lf (.row 0)), (4, .lf (.d (.int .i64)))], [.row 9 .str]⟩, fun e => if e = 2 then ⟨[.row 3 0 9 .str], [(3, .lf (.row 0))], [.row 9 .str]⟩ else ⟨[], [], []⟩) else (⟨[], [], []⟩, fun _ => ⟨[], [], []⟩)
noncomputable def co_laws_toStringS_4 : Code := (loopsIn (bodyOf Try.f74)).getD 0 .skip
def fu_laws_toStringS_4 (v0 : List ByteArray) (v4 : Int) (r0 : List ByteArray) : Nat := ((v0.length : Int) - v4).toNat + 1
def tr_laws_toStringS_4 {R : Type}  (NX : ((List ByteArray) × (Int) × (List ByteArray) × Unit) → Option R) (X2 : ((List ByteArray) × Unit) → Option R) (v0 : List ByteArray) (v4 : Int) (r0 : List ByteArray) : Option R :=
  bif decide (v4 < nI (List.length v0)) then
    bif decide (0 ≤ v4) then
      bif decide (v4 < nI (List.length v0)) then
        bif decide (0 ≤ v4) then
          bif decide (v4 < nI (List.length r0)) then
            bif decide (Int.toNat v4 < List.length r0) then NX (v0, IntKind.wrap IntKind.i64 (v4 + 1), List.set r0 (Int.toNat v4) (List.getD v0 (Int.toNat v4) (ByteArray.mk #[])), ()) else none
          else none
        else none
      else none
    else none
  else X2 (r0, ())
def lo_laws_toStringS_4 : Nat → (List ByteArray) → (Int) → (List ByteArray) →  Option ((List ByteArray) × Unit)
  | 0, _, _, _ => none
  | m + 1, v0, v4, r0 => tr_laws_toStringS_4  (fun d => lo_laws_toStringS_4 m d.1 d.2.1 d.2.2.1) (fun d => some (d)) v0 v4 r0
theorem na_laws_toStringS_4 {R S : Type}  (NX : ((List ByteArray) × (Int) × (List ByteArray) × Unit) → Option R) (X2 : ((List ByteArray) × Unit) → Option R) (v0 : List ByteArray) (v4 : Int) (r0 : List ByteArray) (f : R → Option S) : tr_laws_toStringS_4  (fun d => (NX d).bind f) (fun d => (X2 d).bind f) v0 v4 r0 = (tr_laws_toStringS_4  NX X2 v0 v4 r0).bind f := by
  unfold tr_laws_toStringS_4
  simp only [cond_bind, ite_bind, onSum_bind, Option.bind_assoc, Option.bind_none, Option.bind_some]
def de_laws_toStringS (a0 : List ByteArray) : Option ((((List ByteArray) × Unit) × (Unit))) :=
  bif decide (nI (List.length a0) = nI (List.length a0)) then
    bif decide (Int.toNat (nI (List.length a0)) * 16 ≤ 140737488355328) then
      Option.bind ((fun d => lo_laws_toStringS_4 (fu_laws_toStringS_4 d.1 d.2.1 d.2.2.1) d.1 d.2.1 d.2.2.1) (a0, 0, List.replicate (Int.toNat (nI (List.length a0))) (ByteArray.mk #[]), ())) fun val => some ((val.fst, ()), ())
    else none
  else none
theorem eq_laws_toStringS (a0 : List ByteArray) r (h : m_laws_toStringS a0 = some r) : de_laws_toStringS a0 = some ((r, ()), (())) := by
  obtain ⟨hc, rfl⟩ := toM_some (t := .sl .str) h
  obtain ⟨hl0, hall⟩ := smallB_sl hc
  have hl : a0.length ≤ 1048576 := hl0
  clear hl0 hc h
  · unfold de_laws_toStringS
    have e : Int.toNat (nI a0.length) = a0.length := by simp [nI]
    have hL := to_loop (xs := a0) (ByteArray.mk #[]) (g := fun m i r => lo_laws_toStringS_4 m a0 i r) (ok := fun r => (r, ())) (fun m i r hi hr => by
      show lo_laws_toStringS_4 (m + 1) a0 i r = _
      simp only [lo_laws_toStringS_4, tr_laws_toStringS_4]
      have hir : i < r.length := by omega
      rw [cLt hi, cLe0, cLt hir, wI (by omega)]
      simp only [cond_true, Int.toNat_natCast]
      rw [cLtN hir]
      rfl) (fun m r => by
      show lo_laws_toStringS_4 (m + 1) a0 a0.length r = _
      simp only [lo_laws_toStringS_4, tr_laws_toStringS_4]
      rw [cLtF]
      rfl) (fu_laws_toStringS_4 a0 0 (List.replicate a0.length (ByteArray.mk #[]))) 0 (List.replicate a0.length (ByteArray.mk #[])) (by omega) (by simp [fu_laws_toStringS_4]) (by simp)
    have c1 : decide (Int.toNat (nI a0.length) * 16 ≤ 140737488355328) = true := by rw [e]; simp; omega
    rw [c1, decide_eq_true rfl, e]
    have hL' : lo_laws_toStringS_4 (fu_laws_toStringS_4 a0 0 (List.replicate a0.length (ByteArray.mk #[]))) a0 0 (List.replicate a0.length (ByteArray.mk #[])) = _ := hL
    show (lo_laws_toStringS_4 (fu_laws_toStringS_4 a0 0 (List.replicate a0.length (ByteArray.mk #[]))) a0 0 (List.replicate a0.length (ByteArray.mk #[]))).bind _ = _
    rw [hL']
    rfl
def ou_laws_toStringS_4 {R : Type} (k : Kt R) : ((List ByteArray) × Unit) → Option R := (fun d => k (.exit 0) (((pa_laws_toStringS 4).2 2).st d) (((pa_laws_toStringS 4).2 2).nid))
def L_laws_toStringS {R : Type} : Lt R pa_laws_toStringS := (addL (pat := pa_laws_toStringS) 4 (fun d k => (lo_laws_toStringS_4 (fu_laws_toStringS_4 d.1 d.2.1 d.2.2.1) d.1 d.2.1 d.2.2.1).bind (ou_laws_toStringS_4 k)) noL)
theorem rd_laws_toStringS_4 {R : Type} (nx : (pa_laws_toStringS 4).1.D → Kt R → Option R) (k : Kt R) (v0 : List ByteArray) (v4 : Int) (r0 : List ByteArray) : ev Try.prog ⟨ta_laws_toStringS, 0, 22, pa_laws_toStringS⟩ L_laws_toStringS co_laws_toStringS_4 ((pa_laws_toStringS 4).1.st (v0, v4, r0, ())) (pa_laws_toStringS 4).1.nid (roundK 0 (pa_laws_toStringS 4) nx k) = tr_laws_toStringS_4  (fun d => nx d k) (fun d => k (.exit 0) (((pa_laws_toStringS 4).2 2).st d) (((pa_laws_toStringS 4).2 2).nid)) v0 v4 r0 := by kernel_rfl
theorem lp_laws_toStringS_4 {R : Type} : ∀ (m : Nat) (d : (pa_laws_toStringS 4).1.D) (k : Kt R), loopN 0 (pa_laws_toStringS 4) (fun s nid k => ev Try.prog ⟨ta_laws_toStringS, 0, 22, pa_laws_toStringS⟩ L_laws_toStringS co_laws_toStringS_4 s nid k) m d k = (lo_laws_toStringS_4 m d.1 d.2.1 d.2.2.1).bind (ou_laws_toStringS_4 k)
  | 0, _, _ => rfl
  | m + 1, ⟨v0, v4, r0, ⟨⟩⟩, k => (rd_laws_toStringS_4 _ k v0 v4 r0).trans ((congrArg (fun F => tr_laws_toStringS_4  F (fun d => k (.exit 0) (((pa_laws_toStringS 4).2 2).st d) (((pa_laws_toStringS 4).2 2).nid)) v0 v4 r0) (funext fun d => lp_laws_toStringS_4 m d k)).trans (na_laws_toStringS_4 (f := ou_laws_toStringS_4 k)  (fun d => lo_laws_toStringS_4 m d.1 d.2.1 d.2.2.1) (fun d => some (d)) v0 v4 r0))
theorem en_laws_toStringS (a0 : List ByteArray) : evalF Try.prog ta_laws_toStringS pa_laws_toStringS sg_laws_toStringS Try.f74 L_laws_toStringS (a0, ()) = de_laws_toStringS a0 := by kernel_rfl
theorem si_laws_toStringS : SigsOk Try.prog ta_laws_toStringS := SigsOk.of fun f sd h => by
  try dsimp only [Tb.of, ta_laws_toStringS] at h
  cases h
theorem lk_laws_toStringS_4 {R : Type} : LoopOk Try.prog R 22 0 pa_laws_toStringS L_laws_toStringS co_laws_toStringS_4 :=
  loop_key (cfg := ⟨ta_laws_toStringS, 0, 22, pa_laws_toStringS⟩) (key := 4) (by kernel_rfl) (by kernel_rfl) si_laws_toStringS rfl rfl (fun d k r h => ⟨fu_laws_toStringS_4 d.1 d.2.1 d.2.2.1, (lp_laws_toStringS_4 _ d k).trans h⟩) (fun c hc => by rw [show loopsIn co_laws_toStringS_4 = [] from by kernel_rfl] at hc; cases hc)
theorem sn_laws_toStringS : Callable Try.prog 74 ∧ Sound Try.prog 74 sd_laws_toStringS.sg sd_laws_toStringS.den :=
  fn_loops (pat := pa_laws_toStringS) L_laws_toStringS (by kernel_rfl) si_laws_toStringS Try.func74 (by kernel_rfl) (by kernel_rfl) (fun c hc => by rw [show loopsIn (bodyOf Try.f74) = [co_laws_toStringS_4] from by kernel_rfl] at hc; simp only [List.mem_cons, List.not_mem_nil, or_false] at hc; rcases hc with rfl <;> first | exact lk_laws_toStringS_4) fun x r h => by
    obtain ⟨a0, ⟨⟩⟩ := x; obtain ⟨y, h1, h2⟩ := Option.bind_eq_some_iff.1 (show (m_laws_toStringS a0).bind (fun r => some ((r, ()), (()))) = some r from h); cases h2; exact (en_laws_toStringS a0).trans (eq_laws_toStringS a0 _ h1)
def m_laws_toWrite (a : Int × ByteArray × Unit) : Option (Int × ByteArray × Unit) := toM (.pair (.int .i64) (.pair .str .unit)) a
def sg_laws_toWrite : Sig := ⟨[.rd (.pair (.int .i64) (.pair .str .unit))], [some 2], [.rd (.pair (.int .i64) (.pair .str .unit))], [some 2]⟩
def sd_laws_toWrite : SD := ⟨sg_laws_toWrite, fun x => (m_laws_toWrite x.1).bind fun r => some ((r, ()), (()))⟩
def ta_laws_toWrite : Tb := Tb.of fun f => none
def pa_laws_toWrite : Nat → Pat × (Nat → Pat) := fun k => (⟨[], [], []⟩, fun _ => ⟨[], [], []⟩)
def de_laws_toWrite (a0 : Int × ByteArray × Unit) : Option ((((Int × ByteArray × Unit) × Unit) × (Unit))) :=
  some (((a0.fst, a0.snd.fst, ()), ()), ())
theorem eq_laws_toWrite (a0 : Int × ByteArray × Unit) r (h : m_laws_toWrite a0 = some r) : de_laws_toWrite a0 = some ((r, ()), (())) := by
  obtain ⟨hc, rfl⟩ := toM_some (t := (.pair (.int .i64) (.pair .str .unit))) h
  · rfl
theorem en_laws_toWrite (a0 : Int × ByteArray × Unit) : evalF Try.prog ta_laws_toWrite pa_laws_toWrite sg_laws_toWrite Try.f117 noL (a0, ()) = de_laws_toWrite a0 := by kernel_rfl
theorem si_laws_toWrite : SigsOk Try.prog ta_laws_toWrite := SigsOk.of fun f sd h => by
  try dsimp only [Tb.of, ta_laws_toWrite] at h
  cases h
theorem sn_laws_toWrite : Callable Try.prog 117 ∧ Sound Try.prog 117 sd_laws_toWrite.sg sd_laws_toWrite.den :=
  fn_plain (pat := pa_laws_toWrite) (by kernel_rfl) si_laws_toWrite Try.func117 (by kernel_rfl) (by kernel_rfl) (by kernel_rfl) fun x r h => by
    obtain ⟨a0, ⟨⟩⟩ := x; obtain ⟨y, h1, h2⟩ := Option.bind_eq_some_iff.1 (show (m_laws_toWrite a0).bind (fun r => some ((r, ()), (()))) = some r from h); cases h2; exact (en_laws_toWrite a0).trans (eq_laws_toWrite a0 _ h1)
def m_laws_toWriteS (a : List (Int × ByteArray × Unit)) : Option (List (Int × ByteArray × Unit)) := toM (.sl (.pair (.int .i64) (.pair .str .unit))) a
def sg_laws_toWriteS : Sig := ⟨[.rd (.sl (.pair (.int .i64) (.pair .str .unit)))], [none], [.own 102 (.pair (.int .i64) (.pair .str .unit))], [none]⟩
def sd_laws_toWriteS : SD := ⟨sg_laws_toWriteS, fun x => (m_laws_toWriteS x.1).bind fun r => some ((r, ()), (()))⟩
def ta_laws_toWriteS : Tb := Tb.of fun f => if f = 117 then some sd_laws_toWrite else none
def pa_laws_toWriteS : Nat → Pat × (Nat → Pat) := fun k => if k = 4 then (⟨[.sl 0 0 (.pair (.int .i64) (.pair .str .unit)), .row 3 0 102 (.pair (.int .i64) (.pair .str .unit))], [(0, .lf (.d (.sl (.pair (.int .i64) (.pair .str .unit))))), (3, .lf (.row 0)), (4, .lf (.d (.int .i64)))], [.row 102 (.pair (.int .i64) (.pair .str .unit))]⟩, fun e => if e = 2 then ⟨[.row 3 0 102 (.pair (.int .i64) (.pair .str .unit))], [(3, .lf (.row 0))], [.row 102 (.pair (.int .i64) (.pair .str .unit))]⟩ else ⟨[], [], []⟩) else (⟨[], [], []⟩, fun _ => ⟨[], [], []⟩)
noncomputable def co_laws_toWriteS_4 : Code := (loopsIn (bodyOf Try.f75)).getD 0 .skip
def fu_laws_toWriteS_4 (v0 : List (Int × ByteArray × Unit)) (v4 : Int) (r0 : List (Int × ByteArray × Unit)) : Nat := ((v0.length : Int) - v4).toNat + 1
def tr_laws_toWriteS_4 {R : Type}  (NX : ((List (Int × ByteArray × Unit)) × (Int) × (List (Int × ByteArray × Unit)) × Unit) → Option R) (X2 : ((List (Int × ByteArray × Unit)) × Unit) → Option R) (v0 : List (Int × ByteArray × Unit)) (v4 : Int) (r0 : List (Int × ByteArray × Unit)) : Option R :=
  bif decide (v4 < nI (List.length v0)) then
    bif decide (0 ≤ v4) then
      bif decide (v4 < nI (List.length v0)) then
        bif decide (0 ≤ v4) then
          bif decide (v4 < nI (List.length r0)) then
            bif decide (Int.toNat v4 < List.length r0) then
              NX
                (v0, IntKind.wrap IntKind.i64 (v4 + 1),
                  List.set r0 (Int.toNat v4) ((List.getD v0 (Int.toNat v4) (0, ByteArray.mk #[], ())).fst, (List.getD v0 (Int.toNat v4) (0, ByteArray.mk #[], ())).snd.fst, ()), ())
            else none
          else none
        else none
      else none
    else none
  else X2 (r0, ())
def lo_laws_toWriteS_4 : Nat → (List (Int × ByteArray × Unit)) → (Int) → (List (Int × ByteArray × Unit)) →  Option ((List (Int × ByteArray × Unit)) × Unit)
  | 0, _, _, _ => none
  | m + 1, v0, v4, r0 => tr_laws_toWriteS_4  (fun d => lo_laws_toWriteS_4 m d.1 d.2.1 d.2.2.1) (fun d => some (d)) v0 v4 r0
theorem na_laws_toWriteS_4 {R S : Type}  (NX : ((List (Int × ByteArray × Unit)) × (Int) × (List (Int × ByteArray × Unit)) × Unit) → Option R) (X2 : ((List (Int × ByteArray × Unit)) × Unit) → Option R) (v0 : List (Int × ByteArray × Unit)) (v4 : Int) (r0 : List (Int × ByteArray × Unit)) (f : R → Option S) : tr_laws_toWriteS_4  (fun d => (NX d).bind f) (fun d => (X2 d).bind f) v0 v4 r0 = (tr_laws_toWriteS_4  NX X2 v0 v4 r0).bind f := by
  unfold tr_laws_toWriteS_4
  simp only [cond_bind, ite_bind, onSum_bind, Option.bind_assoc, Option.bind_none, Option.bind_some]
def de_laws_toWriteS (a0 : List (Int × ByteArray × Unit)) : Option ((((List (Int × ByteArray × Unit)) × Unit) × (Unit))) :=
  bif decide (nI (List.length a0) = nI (List.length a0)) then
    bif decide (Int.toNat (nI (List.length a0)) * 24 ≤ 140737488355328) then
      Option.bind ((fun d => lo_laws_toWriteS_4 (fu_laws_toWriteS_4 d.1 d.2.1 d.2.2.1) d.1 d.2.1 d.2.2.1) (a0, 0, List.replicate (Int.toNat (nI (List.length a0))) (0, ByteArray.mk #[], ()), ())) fun val => some ((val.fst, ()), ())
    else none
  else none
theorem eq_laws_toWriteS (a0 : List (Int × ByteArray × Unit)) r (h : m_laws_toWriteS a0 = some r) : de_laws_toWriteS a0 = some ((r, ()), (())) := by
  obtain ⟨hc, rfl⟩ := toM_some (t := .sl (.pair (.int .i64) (.pair .str .unit))) h
  obtain ⟨hl0, hall⟩ := smallB_sl hc
  have hl : a0.length ≤ 1048576 := hl0
  clear hl0 hc h
  · unfold de_laws_toWriteS
    have e : Int.toNat (nI a0.length) = a0.length := by simp [nI]
    have hL := to_loop (xs := a0) (0, (ByteArray.mk #[]), ()) (g := fun m i r => lo_laws_toWriteS_4 m a0 i r) (ok := fun r => (r, ())) (fun m i r hi hr => by
      show lo_laws_toWriteS_4 (m + 1) a0 i r = _
      simp only [lo_laws_toWriteS_4, tr_laws_toWriteS_4]
      have hir : i < r.length := by omega
      rw [cLt hi, cLe0, cLt hir, wI (by omega)]
      simp only [cond_true, Int.toNat_natCast]
      rw [cLtN hir]
      rfl) (fun m r => by
      show lo_laws_toWriteS_4 (m + 1) a0 a0.length r = _
      simp only [lo_laws_toWriteS_4, tr_laws_toWriteS_4]
      rw [cLtF]
      rfl) (fu_laws_toWriteS_4 a0 0 (List.replicate a0.length (0, (ByteArray.mk #[]), ()))) 0 (List.replicate a0.length (0, (ByteArray.mk #[]), ())) (by omega) (by simp [fu_laws_toWriteS_4]) (by simp)
    have c1 : decide (Int.toNat (nI a0.length) * 24 ≤ 140737488355328) = true := by rw [e]; simp; omega
    rw [c1, decide_eq_true rfl, e]
    have hL' : lo_laws_toWriteS_4 (fu_laws_toWriteS_4 a0 0 (List.replicate a0.length (0, (ByteArray.mk #[]), ()))) a0 0 (List.replicate a0.length (0, (ByteArray.mk #[]), ())) = _ := hL
    show (lo_laws_toWriteS_4 (fu_laws_toWriteS_4 a0 0 (List.replicate a0.length (0, (ByteArray.mk #[]), ()))) a0 0 (List.replicate a0.length (0, (ByteArray.mk #[]), ()))).bind _ = _
    rw [hL']
    rfl
def ou_laws_toWriteS_4 {R : Type} (k : Kt R) : ((List (Int × ByteArray × Unit)) × Unit) → Option R := (fun d => k (.exit 0) (((pa_laws_toWriteS 4).2 2).st d) (((pa_laws_toWriteS 4).2 2).nid))
def L_laws_toWriteS {R : Type} : Lt R pa_laws_toWriteS := (addL (pat := pa_laws_toWriteS) 4 (fun d k => (lo_laws_toWriteS_4 (fu_laws_toWriteS_4 d.1 d.2.1 d.2.2.1) d.1 d.2.1 d.2.2.1).bind (ou_laws_toWriteS_4 k)) noL)
theorem rd_laws_toWriteS_4 {R : Type} (nx : (pa_laws_toWriteS 4).1.D → Kt R → Option R) (k : Kt R) (v0 : List (Int × ByteArray × Unit)) (v4 : Int) (r0 : List (Int × ByteArray × Unit)) : ev Try.prog ⟨ta_laws_toWriteS, 0, 23, pa_laws_toWriteS⟩ L_laws_toWriteS co_laws_toWriteS_4 ((pa_laws_toWriteS 4).1.st (v0, v4, r0, ())) (pa_laws_toWriteS 4).1.nid (roundK 0 (pa_laws_toWriteS 4) nx k) = tr_laws_toWriteS_4  (fun d => nx d k) (fun d => k (.exit 0) (((pa_laws_toWriteS 4).2 2).st d) (((pa_laws_toWriteS 4).2 2).nid)) v0 v4 r0 := by kernel_rfl
theorem lp_laws_toWriteS_4 {R : Type} : ∀ (m : Nat) (d : (pa_laws_toWriteS 4).1.D) (k : Kt R), loopN 0 (pa_laws_toWriteS 4) (fun s nid k => ev Try.prog ⟨ta_laws_toWriteS, 0, 23, pa_laws_toWriteS⟩ L_laws_toWriteS co_laws_toWriteS_4 s nid k) m d k = (lo_laws_toWriteS_4 m d.1 d.2.1 d.2.2.1).bind (ou_laws_toWriteS_4 k)
  | 0, _, _ => rfl
  | m + 1, ⟨v0, v4, r0, ⟨⟩⟩, k => (rd_laws_toWriteS_4 _ k v0 v4 r0).trans ((congrArg (fun F => tr_laws_toWriteS_4  F (fun d => k (.exit 0) (((pa_laws_toWriteS 4).2 2).st d) (((pa_laws_toWriteS 4).2 2).nid)) v0 v4 r0) (funext fun d => lp_laws_toWriteS_4 m d k)).trans (na_laws_toWriteS_4 (f := ou_laws_toWriteS_4 k)  (fun d => lo_laws_toWriteS_4 m d.1 d.2.1 d.2.2.1) (fun d => some (d)) v0 v4 r0))
theorem en_laws_toWriteS (a0 : List (Int × ByteArray × Unit)) : evalF Try.prog ta_laws_toWriteS pa_laws_toWriteS sg_laws_toWriteS Try.f75 L_laws_toWriteS (a0, ()) = de_laws_toWriteS a0 := by kernel_rfl
theorem si_laws_toWriteS : SigsOk Try.prog ta_laws_toWriteS := SigsOk.of fun f sd h => by
  try dsimp only [Tb.of, ta_laws_toWriteS] at h
  split at h
  · rename_i e; subst e; cases h; exact sn_laws_toWrite
  cases h
theorem lk_laws_toWriteS_4 {R : Type} : LoopOk Try.prog R 23 0 pa_laws_toWriteS L_laws_toWriteS co_laws_toWriteS_4 :=
  loop_key (cfg := ⟨ta_laws_toWriteS, 0, 23, pa_laws_toWriteS⟩) (key := 4) (by kernel_rfl) (by kernel_rfl) si_laws_toWriteS rfl rfl (fun d k r h => ⟨fu_laws_toWriteS_4 d.1 d.2.1 d.2.2.1, (lp_laws_toWriteS_4 _ d k).trans h⟩) (fun c hc => by rw [show loopsIn co_laws_toWriteS_4 = [] from by kernel_rfl] at hc; cases hc)
theorem sn_laws_toWriteS : Callable Try.prog 75 ∧ Sound Try.prog 75 sd_laws_toWriteS.sg sd_laws_toWriteS.den :=
  fn_loops (pat := pa_laws_toWriteS) L_laws_toWriteS (by kernel_rfl) si_laws_toWriteS Try.func75 (by kernel_rfl) (by kernel_rfl) (fun c hc => by rw [show loopsIn (bodyOf Try.f75) = [co_laws_toWriteS_4] from by kernel_rfl] at hc; simp only [List.mem_cons, List.not_mem_nil, or_false] at hc; rcases hc with rfl <;> first | exact lk_laws_toWriteS_4) fun x r h => by
    obtain ⟨a0, ⟨⟩⟩ := x; obtain ⟨y, h1, h2⟩ := Option.bind_eq_some_iff.1 (show (m_laws_toWriteS a0).bind (fun r => some ((r, ()), (()))) = some r from h); cases h2; exact (en_laws_toWriteS a0).trans (eq_laws_toWriteS a0 _ h1)
def m_laws_toDisk (a : (List ByteArray) × (List (Int × ByteArray × Unit)) × Unit) : Option ((List ByteArray) × (List (Int × ByteArray × Unit)) × Unit) := toM (.pair (.sl .str) (.pair (.sl (.pair (.int .i64) (.pair .str .unit))) .unit)) a
def sg_laws_toDisk : Sig := ⟨[.rd (.pair (.sl .str) (.pair (.sl (.pair (.int .i64) (.pair .str .unit))) .unit))], [some 2], [.own 9 .str, .own 102 (.pair (.int .i64) (.pair .str .unit))], [some 2]⟩
def sd_laws_toDisk : SD := ⟨sg_laws_toDisk, fun x => (m_laws_toDisk x.1).bind fun r => some ((r.1, r.2.1, ()), (()))⟩
def ta_laws_toDisk : Tb := Tb.of fun f => if f = 74 then some sd_laws_toStringS else if f = 75 then some sd_laws_toWriteS else none
def pa_laws_toDisk : Nat → Pat × (Nat → Pat) := fun k => (⟨[], [], []⟩, fun _ => ⟨[], [], []⟩)
def de_laws_toDisk (a0 : (List ByteArray) × (List (Int × ByteArray × Unit)) × Unit) : Option ((((List ByteArray) × (List (Int × ByteArray × Unit)) × Unit) × (Unit))) :=
  Option.bind (Option.bind (m_laws_toStringS a0.fst) fun val => some ((val, ()), ())) fun val =>
    Option.bind (Option.bind (m_laws_toWriteS a0.snd.fst) fun val => some ((val, ()), ())) fun val_1 => some ((val.fst.fst, val_1.fst.fst, ()), ())
theorem eq_laws_toDisk (a0 : (List ByteArray) × (List (Int × ByteArray × Unit)) × Unit) r (h : m_laws_toDisk a0 = some r) : de_laws_toDisk a0 = some ((r.1, r.2.1, ()), (())) := by
  obtain ⟨hc, rfl⟩ := toM_some (t := (.pair (.sl .str) (.pair (.sl (.pair (.int .i64) (.pair .str .unit))) .unit))) h
  · obtain ⟨s0, s1, _⟩ : smallB (.sl .str) a0.1 = true ∧ smallB (.sl (.pair (.int .i64) (.pair .str .unit))) a0.2.1 = true ∧ True := by
      have s := hc
      obtain ⟨h0, s⟩ := smallB_pair s
      obtain ⟨h1, s⟩ := smallB_pair s
      exact ⟨h0, h1, trivial⟩
    unfold de_laws_toDisk
    have e0 : m_laws_toStringS a0.1 = some a0.1 := toM_is (t := (.sl .str)) s0
    have e1 : m_laws_toWriteS a0.2.1 = some a0.2.1 := toM_is (t := (.sl (.pair (.int .i64) (.pair .str .unit)))) s1
    simp only [e0, e1]
    rfl
theorem en_laws_toDisk (a0 : (List ByteArray) × (List (Int × ByteArray × Unit)) × Unit) : evalF Try.prog ta_laws_toDisk pa_laws_toDisk sg_laws_toDisk Try.f25 noL (a0, ()) = de_laws_toDisk a0 := by kernel_rfl
theorem si_laws_toDisk : SigsOk Try.prog ta_laws_toDisk := SigsOk.of fun f sd h => by
  try dsimp only [Tb.of, ta_laws_toDisk] at h
  split at h
  · rename_i e; subst e; cases h; exact sn_laws_toStringS
  split at h
  · rename_i e; subst e; cases h; exact sn_laws_toWriteS
  cases h
theorem sn_laws_toDisk : Callable Try.prog 25 ∧ Sound Try.prog 25 sd_laws_toDisk.sg sd_laws_toDisk.den :=
  fn_plain (pat := pa_laws_toDisk) (by kernel_rfl) si_laws_toDisk Try.func25 (by kernel_rfl) (by kernel_rfl) (by kernel_rfl) fun x r h => by
    obtain ⟨a0, ⟨⟩⟩ := x; obtain ⟨y, h1, h2⟩ := Option.bind_eq_some_iff.1 (show (m_laws_toDisk a0).bind (fun r => some ((r.1, r.2.1, ()), (()))) = some r from h); cases h2; exact (en_laws_toDisk a0).trans (eq_laws_toDisk a0 _ h1)
def m_laws_eqStringS (a b : List ByteArray) : Option Bool := eqM (.sl .str) a b
def sg_laws_eqStringS : Sig := ⟨[.rd (.sl .str), .rd (.sl .str)], [none, none], [.rd .bool], [none]⟩
def sd_laws_eqStringS : SD := ⟨sg_laws_eqStringS, fun x => (m_laws_eqStringS x.1 x.2.1).bind fun r => some ((r, ()), (()))⟩
def ta_laws_eqStringS : Tb := Tb.of fun f => none
def pa_laws_eqStringS : Nat → Pat × (Nat → Pat) := fun k => if k = 5 then (⟨[.sl 0 0 .str, .sl 1 0 .str], [(0, .lf (.d (.sl .str))), (1, .lf (.d (.sl .str))), (5, .lf (.d (.int .i64)))], []⟩, fun e => if e = 1 then ⟨[], [(4, .lf (.d .bool))], []⟩ else if e = 2 then ⟨[], [], []⟩ else ⟨[], [], []⟩) else (⟨[], [], []⟩, fun _ => ⟨[], [], []⟩)
noncomputable def co_laws_eqStringS_5 : Code := (loopsIn (bodyOf Try.f77)).getD 0 .skip
def fu_laws_eqStringS_5 (v0 : List ByteArray) (v1 : List ByteArray) (v5 : Int) : Nat := ((v0.length : Int) - v5).toNat + 1
def tr_laws_eqStringS_5 {R : Type}  (NX : ((List ByteArray) × (List ByteArray) × (Int) × Unit) → Option R) (X2 : (Unit) → Option R) (X1 : ((Bool) × Unit) → Option R) (v0 : List ByteArray) (v1 : List ByteArray) (v5 : Int) : Option R :=
  bif decide (v5 < nI (List.length v0)) then
    bif decide (0 ≤ v5) then
      bif decide (v5 < nI (List.length v0)) then
        bif decide (0 ≤ v5) then
          bif decide (v5 < nI (List.length v1)) then
            bif !ByteArray.toList (List.getD v0 (Int.toNat v5) (ByteArray.mk #[])) == ByteArray.toList (List.getD v1 (Int.toNat v5) (ByteArray.mk #[])) then X1 (false, ())
            else NX (v0, v1, IntKind.wrap IntKind.i64 (v5 + 1), ())
          else none
        else none
      else none
    else none
  else X2 PUnit.unit
def lo_laws_eqStringS_5 : Nat → (List ByteArray) → (List ByteArray) → (Int) →  Option ((Unit) ⊕ ((Bool) × Unit))
  | 0, _, _, _ => none
  | m + 1, v0, v1, v5 => tr_laws_eqStringS_5  (fun d => lo_laws_eqStringS_5 m d.1 d.2.1 d.2.2.1) (fun d => some (.inl (d))) (fun d => some (.inr (d))) v0 v1 v5
theorem na_laws_eqStringS_5 {R S : Type}  (NX : ((List ByteArray) × (List ByteArray) × (Int) × Unit) → Option R) (X2 : (Unit) → Option R) (X1 : ((Bool) × Unit) → Option R) (v0 : List ByteArray) (v1 : List ByteArray) (v5 : Int) (f : R → Option S) : tr_laws_eqStringS_5  (fun d => (NX d).bind f) (fun d => (X2 d).bind f) (fun d => (X1 d).bind f) v0 v1 v5 = (tr_laws_eqStringS_5  NX X2 X1 v0 v1 v5).bind f := by
  unfold tr_laws_eqStringS_5
  simp only [cond_bind, ite_bind, onSum_bind, Option.bind_assoc, Option.bind_none, Option.bind_some]
def de_laws_eqStringS (a0 : List ByteArray) (a1 : List ByteArray) : Option ((((Bool) × Unit) × (Unit))) :=
  bif nI (List.length a0) != nI (List.length a1) then some ((false, ()), ())
  else Option.bind ((fun d => lo_laws_eqStringS_5 (fu_laws_eqStringS_5 d.1 d.2.1 d.2.2.1) d.1 d.2.1 d.2.2.1) (a0, a1, 0, ())) fun val => onSum (fun val => some ((true, ()), ())) (fun val => some ((val.fst, ()), ())) val
theorem eq_laws_eqStringS (a0 : List ByteArray) (a1 : List ByteArray) r (h : m_laws_eqStringS a0 a1 = some r) : de_laws_eqStringS a0 a1 = some ((r, ()), (())) := by
  obtain ⟨hc, hd, rfl⟩ := eqM_some (t := .sl .str) h
  obtain ⟨hlx0, hx⟩ := fineB_sl hc
  obtain ⟨hly0, hy⟩ := fineB_sl hd
  have hlx : a0.length < 1152921504606846976 := hlx0
  have hly : a1.length < 1152921504606846976 := hly0
  clear hlx0 hly0 hc hd h
  · unfold de_laws_eqStringS
    by_cases hl : a1.length = a0.length
    · have c1 : (nI a0.length != nI a1.length) = false := by simp [nI, hl]
      have hL := eq_loop (xs := a0) (ys := a1) (ByteArray.mk #[]) eqS (g := fun m i => lo_laws_eqStringS_5 m a0 a1 i) (ok := .inl ()) (bad := .inr (false, ())) hl (fun m i hi => by
        show lo_laws_eqStringS_5 (m + 1) a0 a1 i = _
        simp only [lo_laws_eqStringS_5, tr_laws_eqStringS_5]
        rw [cLt hi, cLe0, cLt (show i < a1.length by omega), wI (by omega)]
        simp only [cond_true, Int.toNat_natCast]
        show (bif !(ByteArray.toList (List.getD (α := ByteArray) a0 i (ByteArray.mk #[])) == ByteArray.toList (List.getD (α := ByteArray) a1 i (ByteArray.mk #[]))) then _ else _) = bif (ByteArray.toList (List.getD (α := ByteArray) a0 i (ByteArray.mk #[])) == ByteArray.toList (List.getD (α := ByteArray) a1 i (ByteArray.mk #[]))) then _ else _
        cases (ByteArray.toList (List.getD (α := ByteArray) a0 i (ByteArray.mk #[])) == ByteArray.toList (List.getD (α := ByteArray) a1 i (ByteArray.mk #[]))) <;> rfl) (fun m => by
        show lo_laws_eqStringS_5 (m + 1) a0 a1 a0.length = _
        simp only [lo_laws_eqStringS_5, tr_laws_eqStringS_5]
        rw [cLtF]
        rfl) (fu_laws_eqStringS_5 a0 a1 0) 0 (by omega) (by simp [fu_laws_eqStringS_5])
      rw [c1]
      have hL' : lo_laws_eqStringS_5 (fu_laws_eqStringS_5 a0 a1 0) a0 a1 0 = _ := hL
      show (lo_laws_eqStringS_5 (fu_laws_eqStringS_5 a0 a1 0) a0 a1 0).bind _ = some ((eqL (α := ByteArray) eqS a0 a1, ()), ())
      rw [hL', List.drop_zero, List.drop_zero]
      cases eqL (α := ByteArray) eqS a0 a1 <;> rfl
    · have c1 : (nI a0.length != nI a1.length) = true := by simp [nI]; omega
      rw [c1]
      show _ = some ((eqL (α := ByteArray) eqS a0 a1, ()), ())
      rw [eqL_len (fun q => hl q.symm)]
      rfl
def ou_laws_eqStringS_5 {R : Type} (k : Kt R) : ((Unit) ⊕ ((Bool) × Unit)) → Option R := (onSum (fun d => k (.exit 0) (((pa_laws_eqStringS 5).2 2).st d) (((pa_laws_eqStringS 5).2 2).nid)) (fun d => k .ret (((pa_laws_eqStringS 5).2 1).st d) (((pa_laws_eqStringS 5).2 1).nid)))
def L_laws_eqStringS {R : Type} : Lt R pa_laws_eqStringS := (addL (pat := pa_laws_eqStringS) 5 (fun d k => (lo_laws_eqStringS_5 (fu_laws_eqStringS_5 d.1 d.2.1 d.2.2.1) d.1 d.2.1 d.2.2.1).bind (ou_laws_eqStringS_5 k)) noL)
theorem rd_laws_eqStringS_5 {R : Type} (nx : (pa_laws_eqStringS 5).1.D → Kt R → Option R) (k : Kt R) (v0 : List ByteArray) (v1 : List ByteArray) (v5 : Int) : ev Try.prog ⟨ta_laws_eqStringS, 0, 26, pa_laws_eqStringS⟩ L_laws_eqStringS co_laws_eqStringS_5 ((pa_laws_eqStringS 5).1.st (v0, v1, v5, ())) (pa_laws_eqStringS 5).1.nid (roundK 0 (pa_laws_eqStringS 5) nx k) = tr_laws_eqStringS_5  (fun d => nx d k) (fun d => k (.exit 0) (((pa_laws_eqStringS 5).2 2).st d) (((pa_laws_eqStringS 5).2 2).nid)) (fun d => k .ret (((pa_laws_eqStringS 5).2 1).st d) (((pa_laws_eqStringS 5).2 1).nid)) v0 v1 v5 := by kernel_rfl
theorem lp_laws_eqStringS_5 {R : Type} : ∀ (m : Nat) (d : (pa_laws_eqStringS 5).1.D) (k : Kt R), loopN 0 (pa_laws_eqStringS 5) (fun s nid k => ev Try.prog ⟨ta_laws_eqStringS, 0, 26, pa_laws_eqStringS⟩ L_laws_eqStringS co_laws_eqStringS_5 s nid k) m d k = (lo_laws_eqStringS_5 m d.1 d.2.1 d.2.2.1).bind (ou_laws_eqStringS_5 k)
  | 0, _, _ => rfl
  | m + 1, ⟨v0, v1, v5, ⟨⟩⟩, k => (rd_laws_eqStringS_5 _ k v0 v1 v5).trans ((congrArg (fun F => tr_laws_eqStringS_5  F (fun d => k (.exit 0) (((pa_laws_eqStringS 5).2 2).st d) (((pa_laws_eqStringS 5).2 2).nid)) (fun d => k .ret (((pa_laws_eqStringS 5).2 1).st d) (((pa_laws_eqStringS 5).2 1).nid)) v0 v1 v5) (funext fun d => lp_laws_eqStringS_5 m d k)).trans (na_laws_eqStringS_5 (f := ou_laws_eqStringS_5 k)  (fun d => lo_laws_eqStringS_5 m d.1 d.2.1 d.2.2.1) (fun d => some (.inl (d))) (fun d => some (.inr (d))) v0 v1 v5))
theorem en_laws_eqStringS (a0 : List ByteArray) (a1 : List ByteArray) : evalF Try.prog ta_laws_eqStringS pa_laws_eqStringS sg_laws_eqStringS Try.f77 L_laws_eqStringS (a0, a1, ()) = de_laws_eqStringS a0 a1 := by kernel_rfl
theorem si_laws_eqStringS : SigsOk Try.prog ta_laws_eqStringS := SigsOk.of fun f sd h => by
  try dsimp only [Tb.of, ta_laws_eqStringS] at h
  cases h
theorem lk_laws_eqStringS_5 {R : Type} : LoopOk Try.prog R 26 0 pa_laws_eqStringS L_laws_eqStringS co_laws_eqStringS_5 :=
  loop_key (cfg := ⟨ta_laws_eqStringS, 0, 26, pa_laws_eqStringS⟩) (key := 5) (by kernel_rfl) (by kernel_rfl) si_laws_eqStringS rfl rfl (fun d k r h => ⟨fu_laws_eqStringS_5 d.1 d.2.1 d.2.2.1, (lp_laws_eqStringS_5 _ d k).trans h⟩) (fun c hc => by rw [show loopsIn co_laws_eqStringS_5 = [] from by kernel_rfl] at hc; cases hc)
theorem sn_laws_eqStringS : Callable Try.prog 77 ∧ Sound Try.prog 77 sd_laws_eqStringS.sg sd_laws_eqStringS.den :=
  fn_loops (pat := pa_laws_eqStringS) L_laws_eqStringS (by kernel_rfl) si_laws_eqStringS Try.func77 (by kernel_rfl) (by kernel_rfl) (fun c hc => by rw [show loopsIn (bodyOf Try.f77) = [co_laws_eqStringS_5] from by kernel_rfl] at hc; simp only [List.mem_cons, List.not_mem_nil, or_false] at hc; rcases hc with rfl <;> first | exact lk_laws_eqStringS_5) fun x r h => by
    obtain ⟨a0, a1, ⟨⟩⟩ := x; obtain ⟨y, h1, h2⟩ := Option.bind_eq_some_iff.1 (show (m_laws_eqStringS a0 a1).bind (fun r => some ((r, ()), (()))) = some r from h); cases h2; exact (en_laws_eqStringS a0 a1).trans (eq_laws_eqStringS a0 a1 _ h1)
def m_laws_eqWrite (a b : Int × ByteArray × Unit) : Option Bool := eqM (.pair (.int .i64) (.pair .str .unit)) a b
def sg_laws_eqWrite : Sig := ⟨[.rd (.pair (.int .i64) (.pair .str .unit)), .rd (.pair (.int .i64) (.pair .str .unit))], [some 2, some 2], [.rd .bool], [none]⟩
def sd_laws_eqWrite : SD := ⟨sg_laws_eqWrite, fun x => (m_laws_eqWrite x.1 x.2.1).bind fun r => some ((r, ()), (()))⟩
def ta_laws_eqWrite : Tb := Tb.of fun f => none
def pa_laws_eqWrite : Nat → Pat × (Nat → Pat) := fun k => (⟨[], [], []⟩, fun _ => ⟨[], [], []⟩)
def de_laws_eqWrite (a0 : Int × ByteArray × Unit) (a1 : Int × ByteArray × Unit) : Option ((((Bool) × Unit) × (Unit))) :=
  bif a0.fst != a1.fst then some ((false, ()), ()) else bif !ByteArray.toList a0.snd.fst == ByteArray.toList a1.snd.fst then some ((false, ()), ()) else some ((true, ()), ())
theorem eq_laws_eqWrite (a0 : Int × ByteArray × Unit) (a1 : Int × ByteArray × Unit) r (h : m_laws_eqWrite a0 a1 = some r) : de_laws_eqWrite a0 a1 = some ((r, ()), (())) := by
  obtain ⟨hc, hd, rfl⟩ := eqM_some (t := (.pair (.int .i64) (.pair .str .unit))) h
  obtain ⟨hc0, hc1, _⟩ : fineB (.int .i64) a0.1 = true ∧ fineB .str a0.2.1 = true ∧ True := by
    have s := hc
    obtain ⟨h0, s⟩ := fineB_pair s
    obtain ⟨h1, s⟩ := fineB_pair s
    exact ⟨h0, h1, trivial⟩
  obtain ⟨hd0, hd1, _⟩ : fineB (.int .i64) a1.1 = true ∧ fineB .str a1.2.1 = true ∧ True := by
    have s := hd
    obtain ⟨h0, s⟩ := fineB_pair s
    obtain ⟨h1, s⟩ := fineB_pair s
    exact ⟨h0, h1, trivial⟩
  unfold de_laws_eqWrite
  have e0 : (a0.1 != a1.1) = !eqI a0.1 a1.1 := bneI _ _
  have e1 : (!(ByteArray.toList a0.2.1 == ByteArray.toList a1.2.1)) = !eqS a0.2.1 a1.2.1 := rfl
  simp only [e0, e1, Option.bind_some]
  show _ = some (((eqI a0.1 a1.1 && (eqS a0.2.1 a1.2.1 && true)), ()), ())
  generalize eqI a0.1 a1.1 = p0
  generalize eqS a0.2.1 a1.2.1 = p1
  cases p0 <;> cases p1 <;> rfl
theorem en_laws_eqWrite (a0 : Int × ByteArray × Unit) (a1 : Int × ByteArray × Unit) : evalF Try.prog ta_laws_eqWrite pa_laws_eqWrite sg_laws_eqWrite Try.f118 noL (a0, a1, ()) = de_laws_eqWrite a0 a1 := by kernel_rfl
theorem si_laws_eqWrite : SigsOk Try.prog ta_laws_eqWrite := SigsOk.of fun f sd h => by
  try dsimp only [Tb.of, ta_laws_eqWrite] at h
  cases h
theorem sn_laws_eqWrite : Callable Try.prog 118 ∧ Sound Try.prog 118 sd_laws_eqWrite.sg sd_laws_eqWrite.den :=
  fn_plain (pat := pa_laws_eqWrite) (by kernel_rfl) si_laws_eqWrite Try.func118 (by kernel_rfl) (by kernel_rfl) (by kernel_rfl) fun x r h => by
    obtain ⟨a0, a1, ⟨⟩⟩ := x; obtain ⟨y, h1, h2⟩ := Option.bind_eq_some_iff.1 (show (m_laws_eqWrite a0 a1).bind (fun r => some ((r, ()), (()))) = some r from h); cases h2; exact (en_laws_eqWrite a0 a1).trans (eq_laws_eqWrite a0 a1 _ h1)
def m_laws_eqWriteS (a b : List (Int × ByteArray × Unit)) : Option Bool := eqM (.sl (.pair (.int .i64) (.pair .str .unit))) a b
def sg_laws_eqWriteS : Sig := ⟨[.rd (.sl (.pair (.int .i64) (.pair .str .unit))), .rd (.sl (.pair (.int .i64) (.pair .str .unit)))], [none, none], [.rd .bool], [none]⟩
def sd_laws_eqWriteS : SD := ⟨sg_laws_eqWriteS, fun x => (m_laws_eqWriteS x.1 x.2.1).bind fun r => some ((r, ()), (()))⟩
def ta_laws_eqWriteS : Tb := Tb.of fun f => if f = 118 then some sd_laws_eqWrite else none
def pa_laws_eqWriteS : Nat → Pat × (Nat → Pat) := fun k => if k = 5 then (⟨[.sl 0 0 (.pair (.int .i64) (.pair .str .unit)), .sl 1 0 (.pair (.int .i64) (.pair .str .unit))], [(0, .lf (.d (.sl (.pair (.int .i64) (.pair .str .unit))))), (1, .lf (.d (.sl (.pair (.int .i64) (.pair .str .unit))))), (5, .lf (.d (.int .i64)))], []⟩, fun e => if e = 1 then ⟨[], [(4, .lf (.d .bool))], []⟩ else if e = 2 then ⟨[], [], []⟩ else ⟨[], [], []⟩) else (⟨[], [], []⟩, fun _ => ⟨[], [], []⟩)
noncomputable def co_laws_eqWriteS_5 : Code := (loopsIn (bodyOf Try.f78)).getD 0 .skip
def fu_laws_eqWriteS_5 (v0 : List (Int × ByteArray × Unit)) (v1 : List (Int × ByteArray × Unit)) (v5 : Int) : Nat := ((v0.length : Int) - v5).toNat + 1
def tr_laws_eqWriteS_5 {R : Type}  (NX : ((List (Int × ByteArray × Unit)) × (List (Int × ByteArray × Unit)) × (Int) × Unit) → Option R) (X2 : (Unit) → Option R) (X1 : ((Bool) × Unit) → Option R) (v0 : List (Int × ByteArray × Unit)) (v1 : List (Int × ByteArray × Unit)) (v5 : Int) : Option R :=
  bif decide (v5 < nI (List.length v0)) then
    bif decide (0 ≤ v5) then
      bif decide (v5 < nI (List.length v0)) then
        bif decide (0 ≤ v5) then
          bif decide (v5 < nI (List.length v1)) then
            Option.bind
              (Option.bind
                (m_laws_eqWrite ((List.getD v0 (Int.toNat v5) (0, ByteArray.mk #[], ())).fst, (List.getD v0 (Int.toNat v5) (0, ByteArray.mk #[], ())).snd.fst, ())
                  ((List.getD v1 (Int.toNat v5) (0, ByteArray.mk #[], ())).fst, (List.getD v1 (Int.toNat v5) (0, ByteArray.mk #[], ())).snd.fst, ()))
                fun val => some ((val, ()), ()))
              fun val => bif !val.fst.fst then X1 (false, ()) else NX (v0, v1, IntKind.wrap IntKind.i64 (v5 + 1), ())
          else none
        else none
      else none
    else none
  else X2 PUnit.unit
def lo_laws_eqWriteS_5 : Nat → (List (Int × ByteArray × Unit)) → (List (Int × ByteArray × Unit)) → (Int) →  Option ((Unit) ⊕ ((Bool) × Unit))
  | 0, _, _, _ => none
  | m + 1, v0, v1, v5 => tr_laws_eqWriteS_5  (fun d => lo_laws_eqWriteS_5 m d.1 d.2.1 d.2.2.1) (fun d => some (.inl (d))) (fun d => some (.inr (d))) v0 v1 v5
theorem na_laws_eqWriteS_5 {R S : Type}  (NX : ((List (Int × ByteArray × Unit)) × (List (Int × ByteArray × Unit)) × (Int) × Unit) → Option R) (X2 : (Unit) → Option R) (X1 : ((Bool) × Unit) → Option R) (v0 : List (Int × ByteArray × Unit)) (v1 : List (Int × ByteArray × Unit)) (v5 : Int) (f : R → Option S) : tr_laws_eqWriteS_5  (fun d => (NX d).bind f) (fun d => (X2 d).bind f) (fun d => (X1 d).bind f) v0 v1 v5 = (tr_laws_eqWriteS_5  NX X2 X1 v0 v1 v5).bind f := by
  unfold tr_laws_eqWriteS_5
  simp only [cond_bind, ite_bind, onSum_bind, Option.bind_assoc, Option.bind_none, Option.bind_some]
def de_laws_eqWriteS (a0 : List (Int × ByteArray × Unit)) (a1 : List (Int × ByteArray × Unit)) : Option ((((Bool) × Unit) × (Unit))) :=
  bif nI (List.length a0) != nI (List.length a1) then some ((false, ()), ())
  else Option.bind ((fun d => lo_laws_eqWriteS_5 (fu_laws_eqWriteS_5 d.1 d.2.1 d.2.2.1) d.1 d.2.1 d.2.2.1) (a0, a1, 0, ())) fun val => onSum (fun val => some ((true, ()), ())) (fun val => some ((val.fst, ()), ())) val
theorem eq_laws_eqWriteS (a0 : List (Int × ByteArray × Unit)) (a1 : List (Int × ByteArray × Unit)) r (h : m_laws_eqWriteS a0 a1 = some r) : de_laws_eqWriteS a0 a1 = some ((r, ()), (())) := by
  obtain ⟨hc, hd, rfl⟩ := eqM_some (t := .sl (.pair (.int .i64) (.pair .str .unit))) h
  obtain ⟨hlx0, hx⟩ := fineB_sl hc
  obtain ⟨hly0, hy⟩ := fineB_sl hd
  have hlx : a0.length < 1152921504606846976 := hlx0
  have hly : a1.length < 1152921504606846976 := hly0
  clear hlx0 hly0 hc hd h
  · unfold de_laws_eqWriteS
    by_cases hl : a1.length = a0.length
    · have c1 : (nI a0.length != nI a1.length) = false := by simp [nI, hl]
      have hL := eq_loop (xs := a0) (ys := a1) (0, (ByteArray.mk #[]), ()) (fun x y : Int × ByteArray × Unit => eqB (.pair (.int .i64) (.pair .str .unit)) x y) (g := fun m i => lo_laws_eqWriteS_5 m a0 a1 i) (ok := .inl ()) (bad := .inr (false, ())) hl (fun m i hi => by
        show lo_laws_eqWriteS_5 (m + 1) a0 a1 i = _
        simp only [lo_laws_eqWriteS_5, tr_laws_eqWriteS_5]
        rw [cLt hi, cLe0, cLt (show i < a1.length by omega), wI (by omega)]
        simp only [cond_true, Int.toNat_natCast]
        have f1 : fineB (.pair (.int .i64) (.pair .str .unit)) (List.getD (α := Int × ByteArray × Unit) a0 i (0, (ByteArray.mk #[]), ())) = true := hx _ (getD_mem (0, (ByteArray.mk #[]), ()) hi)
        have f2 : fineB (.pair (.int .i64) (.pair .str .unit)) (List.getD (α := Int × ByteArray × Unit) a1 i (0, (ByteArray.mk #[]), ())) = true := hy _ (getD_mem (0, (ByteArray.mk #[]), ()) (by omega))
        have hE : m_laws_eqWrite ((List.getD (α := Int × ByteArray × Unit) a0 i (0, (ByteArray.mk #[]), ())).fst, (List.getD (α := Int × ByteArray × Unit) a0 i (0, (ByteArray.mk #[]), ())).snd.fst, ()) ((List.getD (α := Int × ByteArray × Unit) a1 i (0, (ByteArray.mk #[]), ())).fst, (List.getD (α := Int × ByteArray × Unit) a1 i (0, (ByteArray.mk #[]), ())).snd.fst, ()) = some (eqB (.pair (.int .i64) (.pair .str .unit)) (List.getD (α := Int × ByteArray × Unit) a0 i (0, (ByteArray.mk #[]), ())) (List.getD (α := Int × ByteArray × Unit) a1 i (0, (ByteArray.mk #[]), ()))) := by
          exact eqM_is (t := (.pair (.int .i64) (.pair .str .unit))) (x := (List.getD (α := Int × ByteArray × Unit) a0 i (0, (ByteArray.mk #[]), ()))) (y := (List.getD (α := Int × ByteArray × Unit) a1 i (0, (ByteArray.mk #[]), ()))) f1 f2
        rw [hE]
        cases q : eqB (.pair (.int .i64) (.pair .str .unit)) (List.getD (α := Int × ByteArray × Unit) a0 i (0, (ByteArray.mk #[]), ())) (List.getD (α := Int × ByteArray × Unit) a1 i (0, (ByteArray.mk #[]), ())) <;> simp only [Option.bind_some, q] <;> rfl) (fun m => by
        show lo_laws_eqWriteS_5 (m + 1) a0 a1 a0.length = _
        simp only [lo_laws_eqWriteS_5, tr_laws_eqWriteS_5]
        rw [cLtF]
        rfl) (fu_laws_eqWriteS_5 a0 a1 0) 0 (by omega) (by simp [fu_laws_eqWriteS_5])
      rw [c1]
      have hL' : lo_laws_eqWriteS_5 (fu_laws_eqWriteS_5 a0 a1 0) a0 a1 0 = _ := hL
      show (lo_laws_eqWriteS_5 (fu_laws_eqWriteS_5 a0 a1 0) a0 a1 0).bind _ = some ((eqL (α := Int × ByteArray × Unit) (fun x y : Int × ByteArray × Unit => eqB (.pair (.int .i64) (.pair .str .unit)) x y) a0 a1, ()), ())
      rw [hL', List.drop_zero, List.drop_zero]
      cases eqL (α := Int × ByteArray × Unit) (fun x y : Int × ByteArray × Unit => eqB (.pair (.int .i64) (.pair .str .unit)) x y) a0 a1 <;> rfl
    · have c1 : (nI a0.length != nI a1.length) = true := by simp [nI]; omega
      rw [c1]
      show _ = some ((eqL (α := Int × ByteArray × Unit) (fun x y : Int × ByteArray × Unit => eqB (.pair (.int .i64) (.pair .str .unit)) x y) a0 a1, ()), ())
      rw [eqL_len (fun q => hl q.symm)]
      rfl
def ou_laws_eqWriteS_5 {R : Type} (k : Kt R) : ((Unit) ⊕ ((Bool) × Unit)) → Option R := (onSum (fun d => k (.exit 0) (((pa_laws_eqWriteS 5).2 2).st d) (((pa_laws_eqWriteS 5).2 2).nid)) (fun d => k .ret (((pa_laws_eqWriteS 5).2 1).st d) (((pa_laws_eqWriteS 5).2 1).nid)))
def L_laws_eqWriteS {R : Type} : Lt R pa_laws_eqWriteS := (addL (pat := pa_laws_eqWriteS) 5 (fun d k => (lo_laws_eqWriteS_5 (fu_laws_eqWriteS_5 d.1 d.2.1 d.2.2.1) d.1 d.2.1 d.2.2.1).bind (ou_laws_eqWriteS_5 k)) noL)
theorem rd_laws_eqWriteS_5 {R : Type} (nx : (pa_laws_eqWriteS 5).1.D → Kt R → Option R) (k : Kt R) (v0 : List (Int × ByteArray × Unit)) (v1 : List (Int × ByteArray × Unit)) (v5 : Int) : ev Try.prog ⟨ta_laws_eqWriteS, 0, 27, pa_laws_eqWriteS⟩ L_laws_eqWriteS co_laws_eqWriteS_5 ((pa_laws_eqWriteS 5).1.st (v0, v1, v5, ())) (pa_laws_eqWriteS 5).1.nid (roundK 0 (pa_laws_eqWriteS 5) nx k) = tr_laws_eqWriteS_5  (fun d => nx d k) (fun d => k (.exit 0) (((pa_laws_eqWriteS 5).2 2).st d) (((pa_laws_eqWriteS 5).2 2).nid)) (fun d => k .ret (((pa_laws_eqWriteS 5).2 1).st d) (((pa_laws_eqWriteS 5).2 1).nid)) v0 v1 v5 := by kernel_rfl
theorem lp_laws_eqWriteS_5 {R : Type} : ∀ (m : Nat) (d : (pa_laws_eqWriteS 5).1.D) (k : Kt R), loopN 0 (pa_laws_eqWriteS 5) (fun s nid k => ev Try.prog ⟨ta_laws_eqWriteS, 0, 27, pa_laws_eqWriteS⟩ L_laws_eqWriteS co_laws_eqWriteS_5 s nid k) m d k = (lo_laws_eqWriteS_5 m d.1 d.2.1 d.2.2.1).bind (ou_laws_eqWriteS_5 k)
  | 0, _, _ => rfl
  | m + 1, ⟨v0, v1, v5, ⟨⟩⟩, k => (rd_laws_eqWriteS_5 _ k v0 v1 v5).trans ((congrArg (fun F => tr_laws_eqWriteS_5  F (fun d => k (.exit 0) (((pa_laws_eqWriteS 5).2 2).st d) (((pa_laws_eqWriteS 5).2 2).nid)) (fun d => k .ret (((pa_laws_eqWriteS 5).2 1).st d) (((pa_laws_eqWriteS 5).2 1).nid)) v0 v1 v5) (funext fun d => lp_laws_eqWriteS_5 m d k)).trans (na_laws_eqWriteS_5 (f := ou_laws_eqWriteS_5 k)  (fun d => lo_laws_eqWriteS_5 m d.1 d.2.1 d.2.2.1) (fun d => some (.inl (d))) (fun d => some (.inr (d))) v0 v1 v5))
theorem en_laws_eqWriteS (a0 : List (Int × ByteArray × Unit)) (a1 : List (Int × ByteArray × Unit)) : evalF Try.prog ta_laws_eqWriteS pa_laws_eqWriteS sg_laws_eqWriteS Try.f78 L_laws_eqWriteS (a0, a1, ()) = de_laws_eqWriteS a0 a1 := by kernel_rfl
theorem si_laws_eqWriteS : SigsOk Try.prog ta_laws_eqWriteS := SigsOk.of fun f sd h => by
  try dsimp only [Tb.of, ta_laws_eqWriteS] at h
  split at h
  · rename_i e; subst e; cases h; exact sn_laws_eqWrite
  cases h
theorem lk_laws_eqWriteS_5 {R : Type} : LoopOk Try.prog R 27 0 pa_laws_eqWriteS L_laws_eqWriteS co_laws_eqWriteS_5 :=
  loop_key (cfg := ⟨ta_laws_eqWriteS, 0, 27, pa_laws_eqWriteS⟩) (key := 5) (by kernel_rfl) (by kernel_rfl) si_laws_eqWriteS rfl rfl (fun d k r h => ⟨fu_laws_eqWriteS_5 d.1 d.2.1 d.2.2.1, (lp_laws_eqWriteS_5 _ d k).trans h⟩) (fun c hc => by rw [show loopsIn co_laws_eqWriteS_5 = [] from by kernel_rfl] at hc; cases hc)
theorem sn_laws_eqWriteS : Callable Try.prog 78 ∧ Sound Try.prog 78 sd_laws_eqWriteS.sg sd_laws_eqWriteS.den :=
  fn_loops (pat := pa_laws_eqWriteS) L_laws_eqWriteS (by kernel_rfl) si_laws_eqWriteS Try.func78 (by kernel_rfl) (by kernel_rfl) (fun c hc => by rw [show loopsIn (bodyOf Try.f78) = [co_laws_eqWriteS_5] from by kernel_rfl] at hc; simp only [List.mem_cons, List.not_mem_nil, or_false] at hc; rcases hc with rfl <;> first | exact lk_laws_eqWriteS_5) fun x r h => by
    obtain ⟨a0, a1, ⟨⟩⟩ := x; obtain ⟨y, h1, h2⟩ := Option.bind_eq_some_iff.1 (show (m_laws_eqWriteS a0 a1).bind (fun r => some ((r, ()), (()))) = some r from h); cases h2; exact (en_laws_eqWriteS a0 a1).trans (eq_laws_eqWriteS a0 a1 _ h1)
def m_laws_eqDisk (a b : (List ByteArray) × (List (Int × ByteArray × Unit)) × Unit) : Option Bool := eqM (.pair (.sl .str) (.pair (.sl (.pair (.int .i64) (.pair .str .unit))) .unit)) a b
def sg_laws_eqDisk : Sig := ⟨[.rd (.pair (.sl .str) (.pair (.sl (.pair (.int .i64) (.pair .str .unit))) .unit)), .rd (.pair (.sl .str) (.pair (.sl (.pair (.int .i64) (.pair .str .unit))) .unit))], [some 2, some 2], [.rd .bool], [none]⟩
def sd_laws_eqDisk : SD := ⟨sg_laws_eqDisk, fun x => (m_laws_eqDisk x.1 x.2.1).bind fun r => some ((r, ()), (()))⟩
def ta_laws_eqDisk : Tb := Tb.of fun f => if f = 77 then some sd_laws_eqStringS else if f = 78 then some sd_laws_eqWriteS else none
def pa_laws_eqDisk : Nat → Pat × (Nat → Pat) := fun k => (⟨[], [], []⟩, fun _ => ⟨[], [], []⟩)
def de_laws_eqDisk (a0 : (List ByteArray) × (List (Int × ByteArray × Unit)) × Unit) (a1 : (List ByteArray) × (List (Int × ByteArray × Unit)) × Unit) : Option ((((Bool) × Unit) × (Unit))) :=
  Option.bind (Option.bind (m_laws_eqStringS a0.fst a1.fst) fun val => some ((val, ()), ())) fun val =>
    bif !val.fst.fst then some ((false, ()), ())
    else Option.bind (Option.bind (m_laws_eqWriteS a0.snd.fst a1.snd.fst) fun val => some ((val, ()), ())) fun val => bif !val.fst.fst then some ((false, ()), ()) else some ((true, ()), ())
theorem eq_laws_eqDisk (a0 : (List ByteArray) × (List (Int × ByteArray × Unit)) × Unit) (a1 : (List ByteArray) × (List (Int × ByteArray × Unit)) × Unit) r (h : m_laws_eqDisk a0 a1 = some r) : de_laws_eqDisk a0 a1 = some ((r, ()), (())) := by
  obtain ⟨hc, hd, rfl⟩ := eqM_some (t := (.pair (.sl .str) (.pair (.sl (.pair (.int .i64) (.pair .str .unit))) .unit))) h
  obtain ⟨hc0, hc1, _⟩ : fineB (.sl .str) a0.1 = true ∧ fineB (.sl (.pair (.int .i64) (.pair .str .unit))) a0.2.1 = true ∧ True := by
    have s := hc
    obtain ⟨h0, s⟩ := fineB_pair s
    obtain ⟨h1, s⟩ := fineB_pair s
    exact ⟨h0, h1, trivial⟩
  obtain ⟨hd0, hd1, _⟩ : fineB (.sl .str) a1.1 = true ∧ fineB (.sl (.pair (.int .i64) (.pair .str .unit))) a1.2.1 = true ∧ True := by
    have s := hd
    obtain ⟨h0, s⟩ := fineB_pair s
    obtain ⟨h1, s⟩ := fineB_pair s
    exact ⟨h0, h1, trivial⟩
  unfold de_laws_eqDisk
  have e0 : m_laws_eqStringS a0.1 a1.1 = some (eqB (.sl .str) a0.1 a1.1) := eqM_is (t := (.sl .str)) hc0 hd0
  have e1 : m_laws_eqWriteS a0.2.1 a1.2.1 = some (eqB (.sl (.pair (.int .i64) (.pair .str .unit))) a0.2.1 a1.2.1) := eqM_is (t := (.sl (.pair (.int .i64) (.pair .str .unit)))) hc1 hd1
  simp only [e0, e1, Option.bind_some]
  show _ = some (((eqB (.sl .str) a0.1 a1.1 && (eqB (.sl (.pair (.int .i64) (.pair .str .unit))) a0.2.1 a1.2.1 && true)), ()), ())
  generalize eqB (.sl .str) a0.1 a1.1 = p0
  generalize eqB (.sl (.pair (.int .i64) (.pair .str .unit))) a0.2.1 a1.2.1 = p1
  cases p0 <;> cases p1 <;> rfl
theorem en_laws_eqDisk (a0 : (List ByteArray) × (List (Int × ByteArray × Unit)) × Unit) (a1 : (List ByteArray) × (List (Int × ByteArray × Unit)) × Unit) : evalF Try.prog ta_laws_eqDisk pa_laws_eqDisk sg_laws_eqDisk Try.f27 noL (a0, a1, ()) = de_laws_eqDisk a0 a1 := by kernel_rfl
theorem si_laws_eqDisk : SigsOk Try.prog ta_laws_eqDisk := SigsOk.of fun f sd h => by
  try dsimp only [Tb.of, ta_laws_eqDisk] at h
  split at h
  · rename_i e; subst e; cases h; exact sn_laws_eqStringS
  split at h
  · rename_i e; subst e; cases h; exact sn_laws_eqWriteS
  cases h
theorem sn_laws_eqDisk : Callable Try.prog 27 ∧ Sound Try.prog 27 sd_laws_eqDisk.sg sd_laws_eqDisk.den :=
  fn_plain (pat := pa_laws_eqDisk) (by kernel_rfl) si_laws_eqDisk Try.func27 (by kernel_rfl) (by kernel_rfl) (by kernel_rfl) fun x r h => by
    obtain ⟨a0, a1, ⟨⟩⟩ := x; obtain ⟨y, h1, h2⟩ := Option.bind_eq_some_iff.1 (show (m_laws_eqDisk a0 a1).bind (fun r => some ((r, ()), (()))) = some r from h); cases h2; exact (en_laws_eqDisk a0 a1).trans (eq_laws_eqDisk a0 a1 _ h1)
def m_spec_l2WriteOk (d : Dk) (at_ : Int) (data : ByteArray) : Bool := okWr d.1.length (at_, data, ())
def sg_spec_l2WriteOk : Sig := ⟨[.rd (.pair (.sl .str) (.pair (.sl (.pair (.int .i64) (.pair .str .unit))) .unit)), .rd (.int .i64), .rd .str], [some 2, none, none], [.rd .bool], [none]⟩
def sd_spec_l2WriteOk : SD := ⟨sg_spec_l2WriteOk, fun x => some (((m_spec_l2WriteOk x.1 x.2.1 x.2.2.1), ()), (()))⟩
def ta_spec_l2WriteOk : Tb := Tb.of fun f => none
def pa_spec_l2WriteOk : Nat → Pat × (Nat → Pat) := fun k => (⟨[], [], []⟩, fun _ => ⟨[], [], []⟩)
def de_spec_l2WriteOk (a0 : (List ByteArray) × (List (Int × ByteArray × Unit)) × Unit) (a1 : Int) (a2 : ByteArray) : Option ((((Bool) × Unit) × (Unit))) :=
  bif decide (a1 ≥ 0) then bif decide (a1 < nI (List.length a0.fst)) then some ((nI (ByteArray.size a2) == 64, ()), ()) else some ((false, ()), ()) else some ((false, ()), ())
theorem eq_spec_l2WriteOk (a0 : Dk) (a1 : Int) (a2 : ByteArray) : de_spec_l2WriteOk a0 a1 a2 = some ((m_spec_l2WriteOk a0 a1 a2, ()), ()) := by
  unfold de_spec_l2WriteOk m_spec_l2WriteOk okWr
  have e : (nI (ByteArray.size a2) == 64) = decide (a2.size = 64) := by
    have := ne64 a2.size 64
    simp only [bne] at this
    cases h : (nI (ByteArray.size a2) == ((64 : Nat) : Int)) <;> rw [h] at this <;> cases h2 : decide (a2.size = 64) <;> rw [h2] at this <;> first | (cases this; done) | exact h
  rw [e]
  by_cases h1 : a1 ≥ 0
  · have : decide (0 ≤ a1) = true := by simpa using h1
    rw [decide_eq_true h1]
    simp only [this, cond_true, Bool.true_and, nI]
    cases decide (a1 < (a0.1.length : Int)) <;> rfl
  · have : decide (0 ≤ a1) = false := by simpa using h1
    rw [decide_eq_false h1]
    simp only [this]
    rfl
theorem en_spec_l2WriteOk (a0 : (List ByteArray) × (List (Int × ByteArray × Unit)) × Unit) (a1 : Int) (a2 : ByteArray) : evalF Try.prog ta_spec_l2WriteOk pa_spec_l2WriteOk sg_spec_l2WriteOk Try.f73 noL (a0, a1, a2, ()) = de_spec_l2WriteOk a0 a1 a2 := by kernel_rfl
theorem si_spec_l2WriteOk : SigsOk Try.prog ta_spec_l2WriteOk := SigsOk.of fun f sd h => by
  try dsimp only [Tb.of, ta_spec_l2WriteOk] at h
  cases h
theorem sn_spec_l2WriteOk : Callable Try.prog 73 ∧ Sound Try.prog 73 sd_spec_l2WriteOk.sg sd_spec_l2WriteOk.den :=
  fn_plain (pat := pa_spec_l2WriteOk) (by kernel_rfl) si_spec_l2WriteOk Try.func73 (by kernel_rfl) (by kernel_rfl) (by kernel_rfl) fun x r h => by
    obtain ⟨a0, a1, a2, ⟨⟩⟩ := x; rw [← h]; exact (en_spec_l2WriteOk a0 a1 a2).trans (eq_spec_l2WriteOk a0 a1 a2)
def m_spec_ValidDisk (d : Dk) : Bool := validDisk d
def sg_spec_ValidDisk : Sig := ⟨[.rd (.pair (.sl .str) (.pair (.sl (.pair (.int .i64) (.pair .str .unit))) .unit))], [some 2], [.rd .bool], [none]⟩
def sd_spec_ValidDisk : SD := ⟨sg_spec_ValidDisk, fun x => some (((m_spec_ValidDisk x.1), ()), (()))⟩
def ta_spec_ValidDisk : Tb := Tb.of fun f => if f = 73 then some sd_spec_l2WriteOk else none
def pa_spec_ValidDisk : Nat → Pat × (Nat → Pat) := fun k => if k = 5 then (⟨[.boxSl 1 0 .str, .boxSl 1 1 (.pair (.int .i64) (.pair .str .unit))], [(1, .lf (.ptr 0 0)), (3, .lf (.d (.int .i64)))], [.box 44 [.d (.sl .str), .d (.sl (.pair (.int .i64) (.pair .str .unit)))]]⟩, fun e => if e = 1 then ⟨[], [(2, .lf (.d .bool))], []⟩ else if e = 2 then ⟨[.boxSl 1 0 .str, .boxSl 1 1 (.pair (.int .i64) (.pair .str .unit))], [(1, .lf (.ptr 0 0))], [.box 44 [.d (.sl .str), .d (.sl (.pair (.int .i64) (.pair .str .unit)))]]⟩ else ⟨[], [], []⟩) else if k = 10 then (⟨[.boxSl 1 0 .str, .boxSl 1 1 (.pair (.int .i64) (.pair .str .unit))], [(1, .lf (.ptr 0 0)), (4, .lf (.d (.int .i64)))], [.box 44 [.d (.sl .str), .d (.sl (.pair (.int .i64) (.pair .str .unit)))]]⟩, fun e => if e = 1 then ⟨[], [(2, .lf (.d .bool))], []⟩ else if e = 4 then ⟨[], [], []⟩ else ⟨[], [], []⟩) else (⟨[], [], []⟩, fun _ => ⟨[], [], []⟩)
noncomputable def co_spec_ValidDisk_5 : Code := (loopsIn (bodyOf Try.f24)).getD 0 .skip
noncomputable def co_spec_ValidDisk_10 : Code := (loopsIn (bodyOf Try.f24)).getD 1 .skip
def fu_spec_ValidDisk_10 (v4 : Int) (b0_0 : List ByteArray) (b0_1 : List (Int × ByteArray × Unit)) : Nat := ((b0_1.length : Int) - v4).toNat + 1
def tr_spec_ValidDisk_10 {R : Type}  (NX : ((Int) × (List ByteArray) × (List (Int × ByteArray × Unit)) × Unit) → Option R) (X4 : (Unit) → Option R) (X1 : ((Bool) × Unit) → Option R) (v4 : Int) (b0_0 : List ByteArray) (b0_1 : List (Int × ByteArray × Unit)) : Option R :=
  bif decide (v4 < nI (List.length b0_1)) then
    bif decide (0 ≤ v4) then
      bif decide (v4 < nI (List.length b0_1)) then
        bif decide (0 ≤ v4) then
          bif decide (v4 < nI (List.length b0_1)) then
            bif !m_spec_l2WriteOk (b0_0, b0_1, ()) (List.getD b0_1 (Int.toNat v4) (0, ByteArray.mk #[], ())).fst (List.getD b0_1 (Int.toNat v4) (0, ByteArray.mk #[], ())).snd.fst then X1 (false, ())
            else NX (IntKind.wrap IntKind.i64 (v4 + 1), b0_0, b0_1, ())
          else none
        else none
      else none
    else none
  else X4 PUnit.unit
def lo_spec_ValidDisk_10 : Nat → (Int) → (List ByteArray) → (List (Int × ByteArray × Unit)) →  Option ((Unit) ⊕ ((Bool) × Unit))
  | 0, _, _, _ => none
  | m + 1, v4, b0_0, b0_1 => tr_spec_ValidDisk_10  (fun d => lo_spec_ValidDisk_10 m d.1 d.2.1 d.2.2.1) (fun d => some (.inl (d))) (fun d => some (.inr (d))) v4 b0_0 b0_1
theorem na_spec_ValidDisk_10 {R S : Type}  (NX : ((Int) × (List ByteArray) × (List (Int × ByteArray × Unit)) × Unit) → Option R) (X4 : (Unit) → Option R) (X1 : ((Bool) × Unit) → Option R) (v4 : Int) (b0_0 : List ByteArray) (b0_1 : List (Int × ByteArray × Unit)) (f : R → Option S) : tr_spec_ValidDisk_10  (fun d => (NX d).bind f) (fun d => (X4 d).bind f) (fun d => (X1 d).bind f) v4 b0_0 b0_1 = (tr_spec_ValidDisk_10  NX X4 X1 v4 b0_0 b0_1).bind f := by
  unfold tr_spec_ValidDisk_10
  simp only [cond_bind, ite_bind, onSum_bind, Option.bind_assoc, Option.bind_none, Option.bind_some]
def fu_spec_ValidDisk_5 (v3 : Int) (b0_0 : List ByteArray) (b0_1 : List (Int × ByteArray × Unit)) : Nat := ((b0_0.length : Int) - v3).toNat + 1
def tr_spec_ValidDisk_5 {R : Type}  (NX : ((Int) × (List ByteArray) × (List (Int × ByteArray × Unit)) × Unit) → Option R) (X2 : ((List ByteArray) × (List (Int × ByteArray × Unit)) × Unit) → Option R) (X1 : ((Bool) × Unit) → Option R) (v3 : Int) (b0_0 : List ByteArray) (b0_1 : List (Int × ByteArray × Unit)) : Option R :=
  bif decide (v3 < nI (List.length b0_0)) then
    bif decide (0 ≤ v3) then
      bif decide (v3 < nI (List.length b0_0)) then
        bif nI (ByteArray.size (List.getD b0_0 (Int.toNat v3) (ByteArray.mk #[]))) != 64 then X1 (false, ()) else NX (IntKind.wrap IntKind.i64 (v3 + 1), b0_0, b0_1, ())
      else none
    else none
  else X2 (b0_0, b0_1, ())
def lo_spec_ValidDisk_5 : Nat → (Int) → (List ByteArray) → (List (Int × ByteArray × Unit)) →  Option (((List ByteArray) × (List (Int × ByteArray × Unit)) × Unit) ⊕ ((Bool) × Unit))
  | 0, _, _, _ => none
  | m + 1, v3, b0_0, b0_1 => tr_spec_ValidDisk_5  (fun d => lo_spec_ValidDisk_5 m d.1 d.2.1 d.2.2.1) (fun d => some (.inl (d))) (fun d => some (.inr (d))) v3 b0_0 b0_1
theorem na_spec_ValidDisk_5 {R S : Type}  (NX : ((Int) × (List ByteArray) × (List (Int × ByteArray × Unit)) × Unit) → Option R) (X2 : ((List ByteArray) × (List (Int × ByteArray × Unit)) × Unit) → Option R) (X1 : ((Bool) × Unit) → Option R) (v3 : Int) (b0_0 : List ByteArray) (b0_1 : List (Int × ByteArray × Unit)) (f : R → Option S) : tr_spec_ValidDisk_5  (fun d => (NX d).bind f) (fun d => (X2 d).bind f) (fun d => (X1 d).bind f) v3 b0_0 b0_1 = (tr_spec_ValidDisk_5  NX X2 X1 v3 b0_0 b0_1).bind f := by
  unfold tr_spec_ValidDisk_5
  simp only [cond_bind, ite_bind, onSum_bind, Option.bind_assoc, Option.bind_none, Option.bind_some]
def de_spec_ValidDisk (a0 : (List ByteArray) × (List (Int × ByteArray × Unit)) × Unit) : Option ((((Bool) × Unit) × (Unit))) :=
  bif decide (nI (List.length a0.fst) < 8) then some ((false, ()), ())
  else
    bif decide (nI (List.length a0.fst) > 200) then some ((false, ()), ())
    else
      bif decide (nI (List.length a0.snd.fst) > 300) then some ((false, ()), ())
      else
        Option.bind ((fun d => lo_spec_ValidDisk_5 (fu_spec_ValidDisk_5 d.1 d.2.1 d.2.2.1) d.1 d.2.1 d.2.2.1) (0, a0.fst, a0.snd.fst, ())) fun val =>
          onSum (fun val => Option.bind ((fun d => lo_spec_ValidDisk_10 (fu_spec_ValidDisk_10 d.1 d.2.1 d.2.2.1) d.1 d.2.1 d.2.2.1) (0, val.fst, val.snd.fst, ())) fun val => onSum (fun val => some ((true, ()), ())) (fun val => some ((val.fst, ()), ())) val)
            (fun val => some ((val.fst, ()), ())) val
theorem eq_spec_ValidDisk (a0 : Dk) : de_spec_ValidDisk a0 = some ((m_spec_ValidDisk a0, ()), ()) := by
  unfold de_spec_ValidDisk m_spec_ValidDisk validDisk
  have c1 : decide (nI a0.2.1.length > 300) = !decide (a0.2.1.length ≤ 300) := gt100 _ 300
  have c2 : decide (nI a0.1.length > 200) = !decide ((a0.1.length : Int) ≤ 200) := by
    rw [show decide (nI a0.1.length > 200) = !decide (a0.1.length ≤ 200) from gt100 _ 200]
    congr 1
    exact decide_eq_decide.2 (by omega)
  have c3 : decide (nI a0.1.length < 8) = !decide (8 ≤ (a0.1.length : Int)) := by
    by_cases q : 8 ≤ (a0.1.length : Int)
    · rw [decide_eq_true q, decide_eq_false (by simp [nI]; omega)]; rfl
    · rw [decide_eq_false q, decide_eq_true (by simp [nI]; omega)]; rfl
  rw [c1, c2, c3]
  unfold inB
  by_cases h8 : 8 ≤ (a0.1.length : Int)
  · rw [decide_eq_true h8]
    by_cases h2 : (a0.1.length : Int) ≤ 200
    · rw [decide_eq_true h2]
      by_cases hp : a0.2.1.length ≤ 300
      · rw [decide_eq_true hp]
        have hL := all_loop (n := a0.1.length) (fun i => decide ((a0.1.getD i z0).size = 64)) (g := fun m i => lo_spec_ValidDisk_5 m i a0.1 a0.2.1) (ok := .inl (a0.1, a0.2.1, ())) (bad := .inr (false, ())) (fun m i hi => by
          show lo_spec_ValidDisk_5 (m + 1) i a0.1 a0.2.1 = _
          simp only [lo_spec_ValidDisk_5, tr_spec_ValidDisk_5]
          have g1 : (nI (ByteArray.size (List.getD a0.1 i (ByteArray.mk #[]))) != 64) = !decide ((a0.1.getD i z0).size = 64) := ne64 _ 64
          rw [cLt hi, cLe0, wI (show i < 4611686018427387904 by omega), Int.toNat_natCast, g1]
          cases decide ((a0.1.getD i z0).size = 64) <;> rfl) (fun m => by
          show lo_spec_ValidDisk_5 (m + 1) (a0.1.length : Int) a0.1 a0.2.1 = _
          simp only [lo_spec_ValidDisk_5, tr_spec_ValidDisk_5]
          rw [cLtF]
          rfl) (fu_spec_ValidDisk_5 0 a0.1 a0.2.1) 0 (by omega) (by simp [fu_spec_ValidDisk_5])
        have hL' : lo_spec_ValidDisk_5 (fu_spec_ValidDisk_5 0 a0.1 a0.2.1) 0 a0.1 a0.2.1 = _ := hL
        have hM := all_loop (n := a0.2.1.length) (fun i => okWr a0.1.length (a0.2.1.getD i zW)) (g := fun m i => lo_spec_ValidDisk_10 m i a0.1 a0.2.1) (ok := .inl ()) (bad := .inr (false, ())) (fun m i hi => by
          show lo_spec_ValidDisk_10 (m + 1) i a0.1 a0.2.1 = _
          simp only [lo_spec_ValidDisk_10, tr_spec_ValidDisk_10]
          rw [cLt hi, cLe0, wI (show i < 4611686018427387904 by omega), Int.toNat_natCast]
          show (bif !okWr a0.1.length (a0.2.1.getD i zW) then _ else _) = _
          cases okWr a0.1.length (a0.2.1.getD i zW) <;> rfl) (fun m => by
          show lo_spec_ValidDisk_10 (m + 1) (a0.2.1.length : Int) a0.1 a0.2.1 = _
          simp only [lo_spec_ValidDisk_10, tr_spec_ValidDisk_10]
          rw [cLtF]
          rfl) (fu_spec_ValidDisk_10 0 a0.1 a0.2.1) 0 (by omega) (by simp [fu_spec_ValidDisk_10])
        have hM' : lo_spec_ValidDisk_10 (fu_spec_ValidDisk_10 0 a0.1 a0.2.1) 0 a0.1 a0.2.1 = _ := hM
        show (lo_spec_ValidDisk_5 (fu_spec_ValidDisk_5 0 a0.1 a0.2.1) 0 a0.1 a0.2.1).bind _ = _
        rw [hL']
        rw [Nat.sub_zero] at hM' ⊢
        cases (List.range' 0 a0.1.length).all (fun i => decide ((a0.1.getD i z0).size = 64)) with
        | false => rfl
        | true =>
          show (lo_spec_ValidDisk_10 (fu_spec_ValidDisk_10 0 a0.1 a0.2.1) 0 a0.1 a0.2.1).bind _ = _
          rw [hM']
          cases (List.range' 0 a0.2.1.length).all (fun i => okWr a0.1.length (a0.2.1.getD i zW)) <;> rfl
      · rw [decide_eq_false hp]
        rfl
    · rw [decide_eq_false h2]
      rfl
  · rw [decide_eq_false h8]
    rfl
def ou_spec_ValidDisk_5 {R : Type} (k : Kt R) : (((List ByteArray) × (List (Int × ByteArray × Unit)) × Unit) ⊕ ((Bool) × Unit)) → Option R := (onSum (fun d => k (.exit 0) (((pa_spec_ValidDisk 5).2 2).st d) (((pa_spec_ValidDisk 5).2 2).nid)) (fun d => k .ret (((pa_spec_ValidDisk 5).2 1).st d) (((pa_spec_ValidDisk 5).2 1).nid)))
def ou_spec_ValidDisk_10 {R : Type} (k : Kt R) : ((Unit) ⊕ ((Bool) × Unit)) → Option R := (onSum (fun d => k (.exit 2) (((pa_spec_ValidDisk 10).2 4).st d) (((pa_spec_ValidDisk 10).2 4).nid)) (fun d => k .ret (((pa_spec_ValidDisk 10).2 1).st d) (((pa_spec_ValidDisk 10).2 1).nid)))
def L_spec_ValidDisk {R : Type} : Lt R pa_spec_ValidDisk := (addL (pat := pa_spec_ValidDisk) 5 (fun d k => (lo_spec_ValidDisk_5 (fu_spec_ValidDisk_5 d.1 d.2.1 d.2.2.1) d.1 d.2.1 d.2.2.1).bind (ou_spec_ValidDisk_5 k)) (addL (pat := pa_spec_ValidDisk) 10 (fun d k => (lo_spec_ValidDisk_10 (fu_spec_ValidDisk_10 d.1 d.2.1 d.2.2.1) d.1 d.2.1 d.2.2.1).bind (ou_spec_ValidDisk_10 k)) noL))
theorem rd_spec_ValidDisk_10 {R : Type} (nx : (pa_spec_ValidDisk 10).1.D → Kt R → Option R) (k : Kt R) (v4 : Int) (b0_0 : List ByteArray) (b0_1 : List (Int × ByteArray × Unit)) : ev Try.prog ⟨ta_spec_ValidDisk, 0, 57, pa_spec_ValidDisk⟩ L_spec_ValidDisk co_spec_ValidDisk_10 ((pa_spec_ValidDisk 10).1.st (v4, b0_0, b0_1, ())) (pa_spec_ValidDisk 10).1.nid (roundK 0 (pa_spec_ValidDisk 10) nx k) = tr_spec_ValidDisk_10  (fun d => nx d k) (fun d => k (.exit 2) (((pa_spec_ValidDisk 10).2 4).st d) (((pa_spec_ValidDisk 10).2 4).nid)) (fun d => k .ret (((pa_spec_ValidDisk 10).2 1).st d) (((pa_spec_ValidDisk 10).2 1).nid)) v4 b0_0 b0_1 := by kernel_rfl
theorem lp_spec_ValidDisk_10 {R : Type} : ∀ (m : Nat) (d : (pa_spec_ValidDisk 10).1.D) (k : Kt R), loopN 0 (pa_spec_ValidDisk 10) (fun s nid k => ev Try.prog ⟨ta_spec_ValidDisk, 0, 57, pa_spec_ValidDisk⟩ L_spec_ValidDisk co_spec_ValidDisk_10 s nid k) m d k = (lo_spec_ValidDisk_10 m d.1 d.2.1 d.2.2.1).bind (ou_spec_ValidDisk_10 k)
  | 0, _, _ => rfl
  | m + 1, ⟨v4, b0_0, b0_1, ⟨⟩⟩, k => (rd_spec_ValidDisk_10 _ k v4 b0_0 b0_1).trans ((congrArg (fun F => tr_spec_ValidDisk_10  F (fun d => k (.exit 2) (((pa_spec_ValidDisk 10).2 4).st d) (((pa_spec_ValidDisk 10).2 4).nid)) (fun d => k .ret (((pa_spec_ValidDisk 10).2 1).st d) (((pa_spec_ValidDisk 10).2 1).nid)) v4 b0_0 b0_1) (funext fun d => lp_spec_ValidDisk_10 m d k)).trans (na_spec_ValidDisk_10 (f := ou_spec_ValidDisk_10 k)  (fun d => lo_spec_ValidDisk_10 m d.1 d.2.1 d.2.2.1) (fun d => some (.inl (d))) (fun d => some (.inr (d))) v4 b0_0 b0_1))
theorem rd_spec_ValidDisk_5 {R : Type} (nx : (pa_spec_ValidDisk 5).1.D → Kt R → Option R) (k : Kt R) (v3 : Int) (b0_0 : List ByteArray) (b0_1 : List (Int × ByteArray × Unit)) : ev Try.prog ⟨ta_spec_ValidDisk, 0, 57, pa_spec_ValidDisk⟩ L_spec_ValidDisk co_spec_ValidDisk_5 ((pa_spec_ValidDisk 5).1.st (v3, b0_0, b0_1, ())) (pa_spec_ValidDisk 5).1.nid (roundK 0 (pa_spec_ValidDisk 5) nx k) = tr_spec_ValidDisk_5  (fun d => nx d k) (fun d => k (.exit 0) (((pa_spec_ValidDisk 5).2 2).st d) (((pa_spec_ValidDisk 5).2 2).nid)) (fun d => k .ret (((pa_spec_ValidDisk 5).2 1).st d) (((pa_spec_ValidDisk 5).2 1).nid)) v3 b0_0 b0_1 := by kernel_rfl
theorem lp_spec_ValidDisk_5 {R : Type} : ∀ (m : Nat) (d : (pa_spec_ValidDisk 5).1.D) (k : Kt R), loopN 0 (pa_spec_ValidDisk 5) (fun s nid k => ev Try.prog ⟨ta_spec_ValidDisk, 0, 57, pa_spec_ValidDisk⟩ L_spec_ValidDisk co_spec_ValidDisk_5 s nid k) m d k = (lo_spec_ValidDisk_5 m d.1 d.2.1 d.2.2.1).bind (ou_spec_ValidDisk_5 k)
  | 0, _, _ => rfl
  | m + 1, ⟨v3, b0_0, b0_1, ⟨⟩⟩, k => (rd_spec_ValidDisk_5 _ k v3 b0_0 b0_1).trans ((congrArg (fun F => tr_spec_ValidDisk_5  F (fun d => k (.exit 0) (((pa_spec_ValidDisk 5).2 2).st d) (((pa_spec_ValidDisk 5).2 2).nid)) (fun d => k .ret (((pa_spec_ValidDisk 5).2 1).st d) (((pa_spec_ValidDisk 5).2 1).nid)) v3 b0_0 b0_1) (funext fun d => lp_spec_ValidDisk_5 m d k)).trans (na_spec_ValidDisk_5 (f := ou_spec_ValidDisk_5 k)  (fun d => lo_spec_ValidDisk_5 m d.1 d.2.1 d.2.2.1) (fun d => some (.inl (d))) (fun d => some (.inr (d))) v3 b0_0 b0_1))
theorem en_spec_ValidDisk (a0 : (List ByteArray) × (List (Int × ByteArray × Unit)) × Unit) : evalF Try.prog ta_spec_ValidDisk pa_spec_ValidDisk sg_spec_ValidDisk Try.f24 L_spec_ValidDisk (a0, ()) = de_spec_ValidDisk a0 := by kernel_rfl
theorem si_spec_ValidDisk : SigsOk Try.prog ta_spec_ValidDisk := SigsOk.of fun f sd h => by
  try dsimp only [Tb.of, ta_spec_ValidDisk] at h
  split at h
  · rename_i e; subst e; cases h; exact sn_spec_l2WriteOk
  cases h
theorem lk_spec_ValidDisk_10 {R : Type} : LoopOk Try.prog R 57 0 pa_spec_ValidDisk L_spec_ValidDisk co_spec_ValidDisk_10 :=
  loop_key (cfg := ⟨ta_spec_ValidDisk, 0, 57, pa_spec_ValidDisk⟩) (key := 10) (by kernel_rfl) (by kernel_rfl) si_spec_ValidDisk rfl rfl (fun d k r h => ⟨fu_spec_ValidDisk_10 d.1 d.2.1 d.2.2.1, (lp_spec_ValidDisk_10 _ d k).trans h⟩) (fun c hc => by rw [show loopsIn co_spec_ValidDisk_10 = [] from by kernel_rfl] at hc; cases hc)
theorem lk_spec_ValidDisk_5 {R : Type} : LoopOk Try.prog R 57 0 pa_spec_ValidDisk L_spec_ValidDisk co_spec_ValidDisk_5 :=
  loop_key (cfg := ⟨ta_spec_ValidDisk, 0, 57, pa_spec_ValidDisk⟩) (key := 5) (by kernel_rfl) (by kernel_rfl) si_spec_ValidDisk rfl rfl (fun d k r h => ⟨fu_spec_ValidDisk_5 d.1 d.2.1 d.2.2.1, (lp_spec_ValidDisk_5 _ d k).trans h⟩) (fun c hc => by rw [show loopsIn co_spec_ValidDisk_5 = [] from by kernel_rfl] at hc; cases hc)
theorem sn_spec_ValidDisk : Callable Try.prog 24 ∧ Sound Try.prog 24 sd_spec_ValidDisk.sg sd_spec_ValidDisk.den :=
  fn_loops (pat := pa_spec_ValidDisk) L_spec_ValidDisk (by kernel_rfl) si_spec_ValidDisk Try.func24 (by kernel_rfl) (by kernel_rfl) (fun c hc => by rw [show loopsIn (bodyOf Try.f24) = [co_spec_ValidDisk_5, co_spec_ValidDisk_10] from by kernel_rfl] at hc; simp only [List.mem_cons, List.not_mem_nil, or_false] at hc; rcases hc with rfl | rfl <;> first | exact lk_spec_ValidDisk_5 | exact lk_spec_ValidDisk_10) fun x r h => by
    obtain ⟨a0, ⟨⟩⟩ := x; rw [← h]; exact (en_spec_ValidDisk a0).trans (eq_spec_ValidDisk a0)
def m_spec_l2Sync (d : Dk) : Option Dk := if d.2.1.length ≤ 1099511627776 ∧ ∀ i, i < d.2.1.length → 0 ≤ (d.2.1.getD i zW).1 ∧ (d.2.1.getD i zW).1 < (d.1.length : Int) then some (syncD d) else none
def sg_spec_l2Sync : Sig := ⟨[.own 9 .str, .rd (.sl (.pair (.int .i64) (.pair .str .unit)))], [some 2], [.own 9 .str, .own 102 (.pair (.int .i64) (.pair .str .unit))], [some 2]⟩
def sd_spec_l2Sync : SD := ⟨sg_spec_l2Sync, fun x => (m_spec_l2Sync (x.1, x.2.1, ())).bind fun r => some ((r.1, r.2.1, ()), (()))⟩
def ta_spec_l2Sync : Tb := Tb.of fun f => none
def pa_spec_l2Sync : Nat → Pat × (Nat → Pat) := fun k => if k = 3 then (⟨[.boxSl 1 1 (.pair (.int .i64) (.pair .str .unit)), .boxRow 2 0 9 .str, .boxRow 2 1 102 (.pair (.int .i64) (.pair .str .unit))], [(1, .lf (.ptr 1 0)), (2, .lf (.ptr 2 0)), (3, .lf (.d (.int .i64)))], [.row 9 .str, .box 44 [.row 0, .d (.sl (.pair (.int .i64) (.pair .str .unit)))], .box 44 [.row 3, .row 4], .row 9 .str, .row 102 (.pair (.int .i64) (.pair .str .unit))]⟩, fun e => if e = 2 then ⟨[.boxSl 1 1 (.pair (.int .i64) (.pair .str .unit)), .boxRow 2 0 9 .str, .boxRow 2 1 102 (.pair (.int .i64) (.pair .str .unit))], [(1, .lf (.ptr 1 0)), (2, .lf (.ptr 2 0))], [.row 9 .str, .box 44 [.row 0, .d (.sl (.pair (.int .i64) (.pair .str .unit)))], .box 44 [.row 3, .row 4], .row 9 .str, .row 102 (.pair (.int .i64) (.pair .str .unit))]⟩ else ⟨[], [], []⟩) else (⟨[], [], []⟩, fun _ => ⟨[], [], []⟩)
noncomputable def co_spec_l2Sync_3 : Code := (loopsIn (bodyOf Try.f90)).getD 0 .skip
def fu_spec_l2Sync_3 (v3 : Int) (r0 : List ByteArray) (b1_1 : List (Int × ByteArray × Unit)) (r3 : List ByteArray) (r4 : List (Int × ByteArray × Unit)) : Nat := ((b1_1.length : Int) - v3).toNat + 1
def tr_spec_l2Sync_3 {R : Type}  (NX : ((Int) × (List ByteArray) × (List (Int × ByteArray × Unit)) × (List ByteArray) × (List (Int × ByteArray × Unit)) × Unit) → Option R) (X2 : ((List ByteArray) × (List (Int × ByteArray × Unit)) × (List ByteArray) × (List (Int × ByteArray × Unit)) × Unit) → Option R) (v3 : Int) (r0 : List ByteArray) (b1_1 : List (Int × ByteArray × Unit)) (r3 : List ByteArray) (r4 : List (Int × ByteArray × Unit)) : Option R :=
  bif decide (v3 < nI (List.length b1_1)) then
    bif decide (0 ≤ v3) then
      bif decide (v3 < nI (List.length b1_1)) then
        bif decide (0 ≤ v3) then
          bif decide (v3 < nI (List.length b1_1)) then
            bif decide (0 ≤ (List.getD b1_1 (Int.toNat v3) (0, ByteArray.mk #[], ())).fst) then
              bif decide ((List.getD b1_1 (Int.toNat v3) (0, ByteArray.mk #[], ())).fst < nI (List.length r0)) then
                bif decide (Int.toNat (List.getD b1_1 (Int.toNat v3) (0, ByteArray.mk #[], ())).fst < List.length r0) then
                  NX
                    (IntKind.wrap IntKind.i64 (v3 + 1),
                      List.set r0 (Int.toNat (List.getD b1_1 (Int.toNat v3) (0, ByteArray.mk #[], ())).fst) (List.getD b1_1 (Int.toNat v3) (0, ByteArray.mk #[], ())).snd.fst, b1_1, r3, r4, ())
                else none
              else none
            else none
          else none
        else none
      else none
    else none
  else X2 (r0, b1_1, r3, r4, ())
def lo_spec_l2Sync_3 : Nat → (Int) → (List ByteArray) → (List (Int × ByteArray × Unit)) → (List ByteArray) → (List (Int × ByteArray × Unit)) →  Option ((List ByteArray) × (List (Int × ByteArray × Unit)) × (List ByteArray) × (List (Int × ByteArray × Unit)) × Unit)
  | 0, _, _, _, _, _ => none
  | m + 1, v3, r0, b1_1, r3, r4 => tr_spec_l2Sync_3  (fun d => lo_spec_l2Sync_3 m d.1 d.2.1 d.2.2.1 d.2.2.2.1 d.2.2.2.2.1) (fun d => some (d)) v3 r0 b1_1 r3 r4
theorem na_spec_l2Sync_3 {R S : Type}  (NX : ((Int) × (List ByteArray) × (List (Int × ByteArray × Unit)) × (List ByteArray) × (List (Int × ByteArray × Unit)) × Unit) → Option R) (X2 : ((List ByteArray) × (List (Int × ByteArray × Unit)) × (List ByteArray) × (List (Int × ByteArray × Unit)) × Unit) → Option R) (v3 : Int) (r0 : List ByteArray) (b1_1 : List (Int × ByteArray × Unit)) (r3 : List ByteArray) (r4 : List (Int × ByteArray × Unit)) (f : R → Option S) : tr_spec_l2Sync_3  (fun d => (NX d).bind f) (fun d => (X2 d).bind f) v3 r0 b1_1 r3 r4 = (tr_spec_l2Sync_3  NX X2 v3 r0 b1_1 r3 r4).bind f := by
  unfold tr_spec_l2Sync_3
  simp only [cond_bind, ite_bind, onSum_bind, Option.bind_assoc, Option.bind_none, Option.bind_some]
def de_spec_l2Sync (a0 : List ByteArray) (a1 : List (Int × ByteArray × Unit)) : Option ((((List ByteArray) × (List (Int × ByteArray × Unit)) × Unit) × (Unit))) :=
  Option.bind ((fun d => lo_spec_l2Sync_3 (fu_spec_l2Sync_3 d.1 d.2.1 d.2.2.1 d.2.2.2.1 d.2.2.2.2.1) d.1 d.2.1 d.2.2.1 d.2.2.2.1 d.2.2.2.2.1) (0, a0, a1, [], [], ())) fun val => some ((val.fst, [], ()), ())
theorem eq_spec_l2Sync (a0 : List ByteArray) (a1 : List Wr) r (h : m_spec_l2Sync (a0, a1, ()) = some r) : de_spec_l2Sync a0 a1 = some ((r.1, r.2.1, ()), (())) := by
  unfold m_spec_l2Sync at h
  split at h
  · rename_i hc
    obtain ⟨hp, hw⟩ := hc
    cases h
    have hL := fold_loop (xs := a1) zW (fun s : List ByteArray => s.length = a0.length) (fun _ w s => s.set w.1.toNat w.2.1) (g := fun m i s => lo_spec_l2Sync_3 m i s a1 [] []) (ok := fun s => (s, a1, [], [], ())) (fun m i s hi hs => by
      show lo_spec_l2Sync_3 (m + 1) i s a1 [] [] = _
      simp only [lo_spec_l2Sync_3, tr_spec_l2Sync_3]
      obtain ⟨h0, h1⟩ := hw i hi
      have c1 : decide (0 ≤ (List.getD a1 i (0, ByteArray.mk #[], ())).1) = true := decide_eq_true h0
      have c2 : decide ((List.getD a1 i (0, ByteArray.mk #[], ())).1 < nI s.length) = true := decide_eq_true (by rw [hs]; exact h1)
      have c3 : decide (Int.toNat (List.getD a1 i (0, ByteArray.mk #[], ())).1 < s.length) = true := decide_eq_true (by
        rw [hs]
        have : (a1.getD i zW).1.toNat < a0.length := by
          have h0 : 0 ≤ (a1.getD i zW).1 := h0
          have h1 : (a1.getD i zW).1 < (a0.length : Int) := h1
          omega
        exact this)
      rw [cLt hi, cLe0, wI (show i < 4611686018427387904 by have hp : a1.length ≤ 1099511627776 := hp; omega), Int.toNat_natCast, c1, c2, c3]
      rfl) (fun i s hi hs => by rw [List.length_set]; exact hs) (fun m s hs => by
      show lo_spec_l2Sync_3 (m + 1) (a1.length : Int) s a1 [] [] = _
      simp only [lo_spec_l2Sync_3, tr_spec_l2Sync_3]
      rw [cLtF]
      rfl) (fu_spec_l2Sync_3 0 a0 a1 [] []) 0 a0 (by omega) (by simp [fu_spec_l2Sync_3]) rfl
    have hL' : lo_spec_l2Sync_3 (fu_spec_l2Sync_3 0 a0 a1 [] []) 0 a0 a1 [] [] = _ := hL
    unfold de_spec_l2Sync
    show (lo_spec_l2Sync_3 (fu_spec_l2Sync_3 0 a0 a1 [] []) 0 a0 a1 [] []).bind _ = _
    rw [hL']
    rfl
  · cases h
def ou_spec_l2Sync_3 {R : Type} (k : Kt R) : ((List ByteArray) × (List (Int × ByteArray × Unit)) × (List ByteArray) × (List (Int × ByteArray × Unit)) × Unit) → Option R := (fun d => k (.exit 0) (((pa_spec_l2Sync 3).2 2).st d) (((pa_spec_l2Sync 3).2 2).nid))
def L_spec_l2Sync {R : Type} : Lt R pa_spec_l2Sync := (addL (pat := pa_spec_l2Sync) 3 (fun d k => (lo_spec_l2Sync_3 (fu_spec_l2Sync_3 d.1 d.2.1 d.2.2.1 d.2.2.2.1 d.2.2.2.2.1) d.1 d.2.1 d.2.2.1 d.2.2.2.1 d.2.2.2.2.1).bind (ou_spec_l2Sync_3 k)) noL)
theorem rd_spec_l2Sync_3 {R : Type} (nx : (pa_spec_l2Sync 3).1.D → Kt R → Option R) (k : Kt R) (v3 : Int) (r0 : List ByteArray) (b1_1 : List (Int × ByteArray × Unit)) (r3 : List ByteArray) (r4 : List (Int × ByteArray × Unit)) : ev Try.prog ⟨ta_spec_l2Sync, 1, 29, pa_spec_l2Sync⟩ L_spec_l2Sync co_spec_l2Sync_3 ((pa_spec_l2Sync 3).1.st (v3, r0, b1_1, r3, r4, ())) (pa_spec_l2Sync 3).1.nid (roundK 1 (pa_spec_l2Sync 3) nx k) = tr_spec_l2Sync_3  (fun d => nx d k) (fun d => k (.exit 0) (((pa_spec_l2Sync 3).2 2).st d) (((pa_spec_l2Sync 3).2 2).nid)) v3 r0 b1_1 r3 r4 := by kernel_rfl
theorem lp_spec_l2Sync_3 {R : Type} : ∀ (m : Nat) (d : (pa_spec_l2Sync 3).1.D) (k : Kt R), loopN 1 (pa_spec_l2Sync 3) (fun s nid k => ev Try.prog ⟨ta_spec_l2Sync, 1, 29, pa_spec_l2Sync⟩ L_spec_l2Sync co_spec_l2Sync_3 s nid k) m d k = (lo_spec_l2Sync_3 m d.1 d.2.1 d.2.2.1 d.2.2.2.1 d.2.2.2.2.1).bind (ou_spec_l2Sync_3 k)
  | 0, _, _ => rfl
  | m + 1, ⟨v3, r0, b1_1, r3, r4, ⟨⟩⟩, k => (rd_spec_l2Sync_3 _ k v3 r0 b1_1 r3 r4).trans ((congrArg (fun F => tr_spec_l2Sync_3  F (fun d => k (.exit 0) (((pa_spec_l2Sync 3).2 2).st d) (((pa_spec_l2Sync 3).2 2).nid)) v3 r0 b1_1 r3 r4) (funext fun d => lp_spec_l2Sync_3 m d k)).trans (na_spec_l2Sync_3 (f := ou_spec_l2Sync_3 k)  (fun d => lo_spec_l2Sync_3 m d.1 d.2.1 d.2.2.1 d.2.2.2.1 d.2.2.2.2.1) (fun d => some (d)) v3 r0 b1_1 r3 r4))
theorem en_spec_l2Sync (a0 : List ByteArray) (a1 : List (Int × ByteArray × Unit)) : evalF Try.prog ta_spec_l2Sync pa_spec_l2Sync sg_spec_l2Sync Try.f90 L_spec_l2Sync (a0, a1, ()) = de_spec_l2Sync a0 a1 := by kernel_rfl
theorem si_spec_l2Sync : SigsOk Try.prog ta_spec_l2Sync := SigsOk.of fun f sd h => by
  try dsimp only [Tb.of, ta_spec_l2Sync] at h
  cases h
theorem lk_spec_l2Sync_3 {R : Type} : LoopOk Try.prog R 29 1 pa_spec_l2Sync L_spec_l2Sync co_spec_l2Sync_3 :=
  loop_key (cfg := ⟨ta_spec_l2Sync, 1, 29, pa_spec_l2Sync⟩) (key := 3) (by kernel_rfl) (by kernel_rfl) si_spec_l2Sync rfl rfl (fun d k r h => ⟨fu_spec_l2Sync_3 d.1 d.2.1 d.2.2.1 d.2.2.2.1 d.2.2.2.2.1, (lp_spec_l2Sync_3 _ d k).trans h⟩) (fun c hc => by rw [show loopsIn co_spec_l2Sync_3 = [] from by kernel_rfl] at hc; cases hc)
theorem sn_spec_l2Sync : Callable Try.prog 90 ∧ Sound Try.prog 90 sd_spec_l2Sync.sg sd_spec_l2Sync.den :=
  fn_loops (pat := pa_spec_l2Sync) L_spec_l2Sync (by kernel_rfl) si_spec_l2Sync Try.func90 (by kernel_rfl) (by kernel_rfl) (fun c hc => by rw [show loopsIn (bodyOf Try.f90) = [co_spec_l2Sync_3] from by kernel_rfl] at hc; simp only [List.mem_cons, List.not_mem_nil, or_false] at hc; rcases hc with rfl <;> first | exact lk_spec_l2Sync_3) fun x r h => by
    obtain ⟨a0, a1, ⟨⟩⟩ := x; obtain ⟨y, h1, h2⟩ := Option.bind_eq_some_iff.1 (show (m_spec_l2Sync (a0, a1, ())).bind (fun r => some ((r.1, r.2.1, ()), (()))) = some r from h); cases h2; exact (en_spec_l2Sync a0 a1).trans (eq_spec_l2Sync a0 a1 _ h1)
def m_spec_l2Copy (d : Dk) : Option Dk := if d.1.length ≤ 1099511627776 ∧ d.2.1.length ≤ 1099511627776 then some d else none
def sg_spec_l2Copy : Sig := ⟨[.rd (.pair (.sl .str) (.pair (.sl (.pair (.int .i64) (.pair .str .unit))) .unit))], [some 2], [.own 9 .str, .own 102 (.pair (.int .i64) (.pair .str .unit))], [some 2]⟩
def sd_spec_l2Copy : SD := ⟨sg_spec_l2Copy, fun x => (m_spec_l2Copy x.1).bind fun r => some ((r.1, r.2.1, ()), (()))⟩
def ta_spec_l2Copy : Tb := Tb.of fun f => none
def pa_spec_l2Copy : Nat → Pat × (Nat → Pat) := fun k => (⟨[], [], []⟩, fun _ => ⟨[], [], []⟩)
def de_spec_l2Copy (a0 : (List ByteArray) × (List (Int × ByteArray × Unit)) × Unit) : Option ((((List ByteArray) × (List (Int × ByteArray × Unit)) × Unit) × (Unit))) :=
  bif decide ((0 + List.length a0.fst) * 16 ≤ 140737488355328) then
    bif decide ((0 + List.length a0.snd.fst) * 24 ≤ 140737488355328) then some (([] ++ a0.fst, [] ++ a0.snd.fst, ()), ()) else none
  else none
theorem eq_spec_l2Copy (a0 : Dk) r (h : m_spec_l2Copy a0 = some r) : de_spec_l2Copy a0 = some ((r.1, r.2.1, ()), (())) := by
  unfold m_spec_l2Copy at h
  split at h
  · rename_i hc
    cases h
    unfold de_spec_l2Copy
    have c1 : (0 + List.length a0.1) * 16 ≤ 140737488355328 := by omega
    have c2 : (0 + List.length a0.2.1) * 24 ≤ 140737488355328 := by omega
    rw [decide_eq_true c1, decide_eq_true c2]
    rfl
  · cases h
theorem en_spec_l2Copy (a0 : (List ByteArray) × (List (Int × ByteArray × Unit)) × Unit) : evalF Try.prog ta_spec_l2Copy pa_spec_l2Copy sg_spec_l2Copy Try.f91 noL (a0, ()) = de_spec_l2Copy a0 := by kernel_rfl
theorem si_spec_l2Copy : SigsOk Try.prog ta_spec_l2Copy := SigsOk.of fun f sd h => by
  try dsimp only [Tb.of, ta_spec_l2Copy] at h
  cases h
theorem sn_spec_l2Copy : Callable Try.prog 91 ∧ Sound Try.prog 91 sd_spec_l2Copy.sg sd_spec_l2Copy.den :=
  fn_plain (pat := pa_spec_l2Copy) (by kernel_rfl) si_spec_l2Copy Try.func91 (by kernel_rfl) (by kernel_rfl) (by kernel_rfl) fun x r h => by
    obtain ⟨a0, ⟨⟩⟩ := x; obtain ⟨y, h1, h2⟩ := Option.bind_eq_some_iff.1 (show (m_spec_l2Copy a0).bind (fun r => some ((r.1, r.2.1, ()), (()))) = some r from h); cases h2; exact (en_spec_l2Copy a0).trans (eq_spec_l2Copy a0 _ h1)
def m_spec_Sector (d : Dk) (a : Int) : ByteArray := sectorD d a
def sg_spec_Sector : Sig := ⟨[.rd (.pair (.sl .str) (.pair (.sl (.pair (.int .i64) (.pair .str .unit))) .unit)), .rd (.int .i64)], [some 2, none], [.rd .str], [none]⟩
def sd_spec_Sector : SD := ⟨sg_spec_Sector, fun x => some (((m_spec_Sector x.1 x.2.1), ()), (()))⟩
def ta_spec_Sector : Tb := Tb.of fun f => if f = 24 then some sd_spec_ValidDisk else if f = 90 then some sd_spec_l2Sync else if f = 91 then some sd_spec_l2Copy else none
def pa_spec_Sector : Nat → Pat × (Nat → Pat) := fun k => (⟨[], [], []⟩, fun _ => ⟨[], [], []⟩)
def de_spec_Sector (a0 : (List ByteArray) × (List (Int × ByteArray × Unit)) × Unit) (a1 : Int) : Option ((((ByteArray) × Unit) × (Unit))) :=
  bif !m_spec_ValidDisk (a0.fst, a0.snd.fst, ()) then some ((ByteArray.mk #[], ()), ())
  else
    bif decide (a1 < 0) then some ((ByteArray.mk #[], ()), ())
    else
      bif decide (a1 ≥ nI (List.length a0.fst)) then some ((ByteArray.mk #[], ()), ())
      else
        Option.bind (Option.bind (m_spec_l2Copy (a0.fst, a0.snd.fst, ())) fun val => some ((val.fst, val.snd.fst, ()), ())) fun val =>
          Option.bind (Option.bind (m_spec_l2Sync (val.fst.fst, val.fst.snd.fst, ())) fun val => some ((val.fst, val.snd.fst, ()), ())) fun val =>
            bif decide (0 ≤ a1) then bif decide (a1 < nI (List.length val.fst.fst)) then some ((List.getD val.fst.fst (Int.toNat a1) (ByteArray.mk #[]), ()), ()) else none else none
theorem eq_spec_Sector (a0 : Dk) (a1 : Int) : de_spec_Sector a0 a1 = some ((m_spec_Sector a0 a1, ()), (())) := by
  unfold de_spec_Sector m_spec_Sector sectorD
  show (bif !validDisk a0 then _ else _) = _
  cases hv : validDisk a0 with
  | false => rfl
  | true =>
    obtain ⟨k1, k2, k3, k4, k5⟩ := disk_ok hv
    by_cases h0 : 0 ≤ a1
    · have n0 : ¬ a1 < 0 := by omega
      rw [decide_eq_true h0, decide_eq_false n0]
      by_cases h1 : a1 < (a0.1.length : Int)
      · have n1 : ¬ a1 ≥ nI a0.1.length := by simp only [nI]; omega
        have e1 : m_spec_l2Copy (a0.1, a0.2.1, ()) = some a0 := if_pos ⟨by show a0.1.length ≤ _; omega, by show a0.2.1.length ≤ _; omega⟩
        have e2 : m_spec_l2Sync (a0.1, a0.2.1, ()) = some (syncD a0) := if_pos ⟨by show a0.2.1.length ≤ _; omega, fun i hi => ⟨(k5 i hi).1, (k5 i hi).2.1⟩⟩
        have hlen : (syncD a0).1.length = a0.1.length := syncS_length _ _
        have c2 : decide (a1 < nI (syncD a0).1.length) = true := decide_eq_true (by rw [hlen]; exact h1)
        have hg := sync_get a0.1 a1.toNat (by omega) a0.2.1 (fun w hw => by
          obtain ⟨i, hi, rfl⟩ := mem_getD zW hw
          exact (k5 i hi).1)
        rw [Int.toNat_of_nonneg h0] at hg
        rw [decide_eq_true h1, decide_eq_false n1]
        simp only [e1, e2, Option.bind_some, cond_false, cond_true, Bool.not_true, decide_eq_true h0, c2, Bool.and_self]
        show some (((syncS a0.1 a0.2.1).getD a1.toNat z0, ()), ()) = _
        rw [hg]
        rfl
      · have n1 : a1 ≥ nI a0.1.length := by simp only [nI]; omega
        rw [decide_eq_false h1, decide_eq_true n1]
        rfl
    · have n0 : a1 < 0 := by omega
      rw [decide_eq_false h0, decide_eq_true n0]
      rfl
theorem en_spec_Sector (a0 : (List ByteArray) × (List (Int × ByteArray × Unit)) × Unit) (a1 : Int) : evalF Try.prog ta_spec_Sector pa_spec_Sector sg_spec_Sector Try.f37 noL (a0, a1, ()) = de_spec_Sector a0 a1 := by kernel_rfl
theorem si_spec_Sector : SigsOk Try.prog ta_spec_Sector := SigsOk.of fun f sd h => by
  try dsimp only [Tb.of, ta_spec_Sector] at h
  split at h
  · rename_i e; subst e; cases h; exact sn_spec_ValidDisk
  split at h
  · rename_i e; subst e; cases h; exact sn_spec_l2Sync
  split at h
  · rename_i e; subst e; cases h; exact sn_spec_l2Copy
  cases h
theorem sn_spec_Sector : Callable Try.prog 37 ∧ Sound Try.prog 37 sd_spec_Sector.sg sd_spec_Sector.den :=
  fn_plain (pat := pa_spec_Sector) (by kernel_rfl) si_spec_Sector Try.func37 (by kernel_rfl) (by kernel_rfl) (by kernel_rfl) fun x r h => by
    obtain ⟨a0, a1, ⟨⟩⟩ := x; rw [← h]; exact (en_spec_Sector a0 a1).trans (eq_spec_Sector a0 a1)
def m_impl_in (v lo hi : Int) : Bool := inB v lo hi
def sg_impl_in : Sig := ⟨[.rd (.int .i64), .rd (.int .i64), .rd (.int .i64)], [none, none, none], [.rd .bool], [none]⟩
def sd_impl_in : SD := ⟨sg_impl_in, fun x => some (((m_impl_in x.1 x.2.1 x.2.2.1), ()), (()))⟩
def ta_impl_in : Tb := Tb.of fun f => none
def pa_impl_in : Nat → Pat × (Nat → Pat) := fun k => (⟨[], [], []⟩, fun _ => ⟨[], [], []⟩)
def de_impl_in (a0 : Int) (a1 : Int) (a2 : Int) : Option ((((Bool) × Unit) × (Unit))) :=
  bif decide (a0 ≥ a1) then some ((decide (a0 ≤ a2), ()), ()) else some ((false, ()), ())
theorem eq_impl_in (a0 a1 a2 : Int) : de_impl_in a0 a1 a2 = some ((m_impl_in a0 a1 a2, ()), ()) := by
  unfold de_impl_in m_impl_in inB
  by_cases h : a0 ≥ a1
  · have : decide (a1 ≤ a0) = true := by simpa using h
    simp [h, this]
  · have : decide (a1 ≤ a0) = false := by simpa using h
    simp [h, this]
theorem en_impl_in (a0 : Int) (a1 : Int) (a2 : Int) : evalF Try.prog ta_impl_in pa_impl_in sg_impl_in Try.f76 noL (a0, a1, a2, ()) = de_impl_in a0 a1 a2 := by kernel_rfl
theorem si_impl_in : SigsOk Try.prog ta_impl_in := SigsOk.of fun f sd h => by
  try dsimp only [Tb.of, ta_impl_in] at h
  cases h
theorem sn_impl_in : Callable Try.prog 76 ∧ Sound Try.prog 76 sd_impl_in.sg sd_impl_in.den :=
  fn_plain (pat := pa_impl_in) (by kernel_rfl) si_impl_in Try.func76 (by kernel_rfl) (by kernel_rfl) (by kernel_rfl) fun x r h => by
    obtain ⟨a0, a1, a2, ⟨⟩⟩ := x; rw [← h]; exact (en_impl_in a0 a1 a2).trans (eq_impl_in a0 a1 a2)
def m_impl_ValidDisk (d : Dk) : Bool := validDisk d
def sg_impl_ValidDisk : Sig := ⟨[.rd (.pair (.sl .str) (.pair (.sl (.pair (.int .i64) (.pair .str .unit))) .unit))], [some 2], [.rd .bool], [none]⟩
def sd_impl_ValidDisk : SD := ⟨sg_impl_ValidDisk, fun x => some (((m_impl_ValidDisk x.1), ()), (()))⟩
def ta_impl_ValidDisk : Tb := Tb.of fun f => if f = 76 then some sd_impl_in else none
def pa_impl_ValidDisk : Nat → Pat × (Nat → Pat) := fun k => if k = 5 then (⟨[.sl 19 0 .str, .boxSl 1 0 .str, .boxSl 1 1 (.pair (.int .i64) (.pair .str .unit))], [(1, .lf (.ptr 0 0)), (19, .lf (.d (.sl .str))), (20, .lf (.d (.int .i64))), (21, .lf (.d (.int .i64)))], [.box 44 [.d (.sl .str), .d (.sl (.pair (.int .i64) (.pair .str .unit)))]]⟩, fun e => if e = 1 then ⟨[], [(2, .lf (.d .bool))], []⟩ else if e = 2 then ⟨[.boxSl 1 0 .str, .boxSl 1 1 (.pair (.int .i64) (.pair .str .unit))], [(1, .lf (.ptr 0 0))], [.box 44 [.d (.sl .str), .d (.sl (.pair (.int .i64) (.pair .str .unit)))]]⟩ else ⟨[], [], []⟩) else if k = 11 then (⟨[.sl 30 0 (.pair (.int .i64) (.pair .str .unit)), .boxSl 1 0 .str, .boxSl 1 1 (.pair (.int .i64) (.pair .str .unit))], [(1, .lf (.ptr 0 0)), (30, .lf (.d (.sl (.pair (.int .i64) (.pair .str .unit))))), (31, .lf (.d (.int .i64))), (32, .lf (.d (.int .i64)))], [.box 44 [.d (.sl .str), .d (.sl (.pair (.int .i64) (.pair .str .unit)))]]⟩, fun e => if e = 1 then ⟨[], [(2, .lf (.d .bool))], []⟩ else if e = 4 then ⟨[], [], []⟩ else ⟨[], [], []⟩) else (⟨[], [], []⟩, fun _ => ⟨[], [], []⟩)
noncomputable def co_impl_ValidDisk_5 : Code := (loopsIn (bodyOf Try.f26)).getD 0 .skip
noncomputable def co_impl_ValidDisk_11 : Code := (loopsIn (bodyOf Try.f26)).getD 1 .skip
def fu_impl_ValidDisk_11 (v30 : List (Int × ByteArray × Unit)) (v31 : Int) (v32 : Int) (b0_0 : List ByteArray) (b0_1 : List (Int × ByteArray × Unit)) : Nat := (v31 - v32).toNat + 1
def tr_impl_ValidDisk_11 {R : Type}  (NX : ((List (Int × ByteArray × Unit)) × (Int) × (Int) × (List ByteArray) × (List (Int × ByteArray × Unit)) × Unit) → Option R) (X4 : (Unit) → Option R) (X1 : ((Bool) × Unit) → Option R) (v30 : List (Int × ByteArray × Unit)) (v31 : Int) (v32 : Int) (b0_0 : List ByteArray) (b0_1 : List (Int × ByteArray × Unit)) : Option R :=
  bif decide (v32 < v31) then
    bif decide (0 ≤ v32) then
      bif decide (v32 < nI (List.length v30)) then
        bif !m_impl_in (List.getD v30 (Int.toNat v32) (0, ByteArray.mk #[], ())).fst 0 (IntKind.wrap IntKind.i64 (nI (List.length b0_0) - 1)) then X1 (false, ())
        else bif nI (ByteArray.size (List.getD v30 (Int.toNat v32) (0, ByteArray.mk #[], ())).snd.fst) != 64 then X1 (false, ()) else NX (v30, v31, IntKind.wrap IntKind.i64 (v32 + 1), b0_0, b0_1, ())
      else none
    else none
  else X4 PUnit.unit
def lo_impl_ValidDisk_11 : Nat → (List (Int × ByteArray × Unit)) → (Int) → (Int) → (List ByteArray) → (List (Int × ByteArray × Unit)) →  Option ((Unit) ⊕ ((Bool) × Unit))
  | 0, _, _, _, _, _ => none
  | m + 1, v30, v31, v32, b0_0, b0_1 => tr_impl_ValidDisk_11  (fun d => lo_impl_ValidDisk_11 m d.1 d.2.1 d.2.2.1 d.2.2.2.1 d.2.2.2.2.1) (fun d => some (.inl (d))) (fun d => some (.inr (d))) v30 v31 v32 b0_0 b0_1
theorem na_impl_ValidDisk_11 {R S : Type}  (NX : ((List (Int × ByteArray × Unit)) × (Int) × (Int) × (List ByteArray) × (List (Int × ByteArray × Unit)) × Unit) → Option R) (X4 : (Unit) → Option R) (X1 : ((Bool) × Unit) → Option R) (v30 : List (Int × ByteArray × Unit)) (v31 : Int) (v32 : Int) (b0_0 : List ByteArray) (b0_1 : List (Int × ByteArray × Unit)) (f : R → Option S) : tr_impl_ValidDisk_11  (fun d => (NX d).bind f) (fun d => (X4 d).bind f) (fun d => (X1 d).bind f) v30 v31 v32 b0_0 b0_1 = (tr_impl_ValidDisk_11  NX X4 X1 v30 v31 v32 b0_0 b0_1).bind f := by
  unfold tr_impl_ValidDisk_11
  simp only [cond_bind, ite_bind, onSum_bind, Option.bind_assoc, Option.bind_none, Option.bind_some]
def fu_impl_ValidDisk_5 (v19 : List ByteArray) (v20 : Int) (v21 : Int) (b0_0 : List ByteArray) (b0_1 : List (Int × ByteArray × Unit)) : Nat := (v20 - v21).toNat + 1
def tr_impl_ValidDisk_5 {R : Type}  (NX : ((List ByteArray) × (Int) × (Int) × (List ByteArray) × (List (Int × ByteArray × Unit)) × Unit) → Option R) (X2 : ((List ByteArray) × (List (Int × ByteArray × Unit)) × Unit) → Option R) (X1 : ((Bool) × Unit) → Option R) (v19 : List ByteArray) (v20 : Int) (v21 : Int) (b0_0 : List ByteArray) (b0_1 : List (Int × ByteArray × Unit)) : Option R :=
  bif decide (v21 < v20) then
    bif decide (0 ≤ v21) then
      bif decide (v21 < nI (List.length v19)) then
        bif nI (ByteArray.size (List.getD v19 (Int.toNat v21) (ByteArray.mk #[]))) != 64 then X1 (false, ()) else NX (v19, v20, IntKind.wrap IntKind.i64 (v21 + 1), b0_0, b0_1, ())
      else none
    else none
  else X2 (b0_0, b0_1, ())
def lo_impl_ValidDisk_5 : Nat → (List ByteArray) → (Int) → (Int) → (List ByteArray) → (List (Int × ByteArray × Unit)) →  Option (((List ByteArray) × (List (Int × ByteArray × Unit)) × Unit) ⊕ ((Bool) × Unit))
  | 0, _, _, _, _, _ => none
  | m + 1, v19, v20, v21, b0_0, b0_1 => tr_impl_ValidDisk_5  (fun d => lo_impl_ValidDisk_5 m d.1 d.2.1 d.2.2.1 d.2.2.2.1 d.2.2.2.2.1) (fun d => some (.inl (d))) (fun d => some (.inr (d))) v19 v20 v21 b0_0 b0_1
theorem na_impl_ValidDisk_5 {R S : Type}  (NX : ((List ByteArray) × (Int) × (Int) × (List ByteArray) × (List (Int × ByteArray × Unit)) × Unit) → Option R) (X2 : ((List ByteArray) × (List (Int × ByteArray × Unit)) × Unit) → Option R) (X1 : ((Bool) × Unit) → Option R) (v19 : List ByteArray) (v20 : Int) (v21 : Int) (b0_0 : List ByteArray) (b0_1 : List (Int × ByteArray × Unit)) (f : R → Option S) : tr_impl_ValidDisk_5  (fun d => (NX d).bind f) (fun d => (X2 d).bind f) (fun d => (X1 d).bind f) v19 v20 v21 b0_0 b0_1 = (tr_impl_ValidDisk_5  NX X2 X1 v19 v20 v21 b0_0 b0_1).bind f := by
  unfold tr_impl_ValidDisk_5
  simp only [cond_bind, ite_bind, onSum_bind, Option.bind_assoc, Option.bind_none, Option.bind_some]
def de_impl_ValidDisk (a0 : (List ByteArray) × (List (Int × ByteArray × Unit)) × Unit) : Option ((((Bool) × Unit) × (Unit))) :=
  bif !m_impl_in (nI (List.length a0.fst)) 8 200 then some ((false, ()), ())
  else
    bif decide (nI (List.length a0.snd.fst) > 300) then some ((false, ()), ())
    else
      Option.bind ((fun d => lo_impl_ValidDisk_5 (fu_impl_ValidDisk_5 d.1 d.2.1 d.2.2.1 d.2.2.2.1 d.2.2.2.2.1) d.1 d.2.1 d.2.2.1 d.2.2.2.1 d.2.2.2.2.1) (a0.fst, nI (List.length a0.fst), 0, a0.fst, a0.snd.fst, ())) fun val =>
        onSum
          (fun val =>
            Option.bind ((fun d => lo_impl_ValidDisk_11 (fu_impl_ValidDisk_11 d.1 d.2.1 d.2.2.1 d.2.2.2.1 d.2.2.2.2.1) d.1 d.2.1 d.2.2.1 d.2.2.2.1 d.2.2.2.2.1) (val.snd.fst, nI (List.length val.snd.fst), 0, val.fst, val.snd.fst, ())) fun val => onSum (fun val => some ((true, ()), ())) (fun val => some ((val.fst, ()), ())) val)
          (fun val => some ((val.fst, ()), ())) val
theorem eq_impl_ValidDisk (a0 : Dk) : de_impl_ValidDisk a0 = some ((m_impl_ValidDisk a0, ()), ()) := by
  unfold de_impl_ValidDisk m_impl_ValidDisk validDisk
  have c1 : decide (nI a0.2.1.length > 300) = !decide (a0.2.1.length ≤ 300) := gt100 _ 300
  rw [c1]
  show (bif !inB (a0.1.length : Int) 8 200 then _ else _) = _
  cases hin : inB (a0.1.length : Int) 8 200 with
  | false => rfl
  | true =>
    have hlen : a0.1.length ≤ 200 := by have := of_decide_eq_true (and2 hin).2; omega
    by_cases hp : a0.2.1.length ≤ 300
    · rw [decide_eq_true hp]
      have hL := all_loop (n := a0.1.length) (fun i => decide ((a0.1.getD i z0).size = 64)) (g := fun m i => lo_impl_ValidDisk_5 m a0.1 (nI a0.1.length) i a0.1 a0.2.1) (ok := .inl (a0.1, a0.2.1, ())) (bad := .inr (false, ())) (fun m i hi => by
        show lo_impl_ValidDisk_5 (m + 1) a0.1 (nI a0.1.length) i a0.1 a0.2.1 = _
        simp only [lo_impl_ValidDisk_5, tr_impl_ValidDisk_5]
        have g1 : (nI (ByteArray.size (List.getD a0.1 i (ByteArray.mk #[]))) != 64) = !decide ((a0.1.getD i z0).size = 64) := ne64 _ 64
        rw [cLt hi, cLe0, wI (show i < 4611686018427387904 by omega), Int.toNat_natCast, g1]
        cases decide ((a0.1.getD i z0).size = 64) <;> rfl) (fun m => by
        show lo_impl_ValidDisk_5 (m + 1) a0.1 (nI a0.1.length) (a0.1.length : Int) a0.1 a0.2.1 = _
        simp only [lo_impl_ValidDisk_5, tr_impl_ValidDisk_5]
        rw [cLtF]
        rfl) (fu_impl_ValidDisk_5 a0.1 (nI a0.1.length) 0 a0.1 a0.2.1) 0 (by omega) (by simp [fu_impl_ValidDisk_5, nI])
      have hL' : lo_impl_ValidDisk_5 (fu_impl_ValidDisk_5 a0.1 (nI a0.1.length) 0 a0.1 a0.2.1) a0.1 (nI a0.1.length) 0 a0.1 a0.2.1 = _ := hL
      have hM := all_loop (n := a0.2.1.length) (fun i => okWr a0.1.length (a0.2.1.getD i zW)) (g := fun m i => lo_impl_ValidDisk_11 m a0.2.1 (nI a0.2.1.length) i a0.1 a0.2.1) (ok := .inl ()) (bad := .inr (false, ())) (fun m i hi => by
        show lo_impl_ValidDisk_11 (m + 1) a0.2.1 (nI a0.2.1.length) i a0.1 a0.2.1 = _
        simp only [lo_impl_ValidDisk_11, tr_impl_ValidDisk_11]
        have g1 : (nI (ByteArray.size (List.getD a0.2.1 i (0, ByteArray.mk #[], ())).2.1) != 64) = !decide ((a0.2.1.getD i zW).2.1.size = 64) := ne64 _ 64
        have hw : IntKind.wrap IntKind.i64 (nI a0.1.length - 1) = (a0.1.length : Int) - 1 := wrap_ok (by simp only [nI]; omega) (by simp only [nI]; omega)
        rw [cLt hi, cLe0, wI (show i < 4611686018427387904 by omega), Int.toNat_natCast, g1, hw]
        have g2 : m_impl_in (List.getD a0.2.1 i (0, ByteArray.mk #[], ())).1 0 ((a0.1.length : Int) - 1) = (decide (0 ≤ (a0.2.1.getD i zW).1) && decide ((a0.2.1.getD i zW).1 < (a0.1.length : Int))) := by
          show (decide (0 ≤ (a0.2.1.getD i zW).1) && decide ((a0.2.1.getD i zW).1 ≤ (a0.1.length : Int) - 1)) = _
          congr 1
          exact decide_eq_decide.2 (by omega)
        rw [g2]
        unfold okWr
        cases decide (0 ≤ (a0.2.1.getD i zW).1) <;> cases decide ((a0.2.1.getD i zW).1 < (a0.1.length : Int)) <;> cases decide ((a0.2.1.getD i zW).2.1.size = 64) <;> rfl) (fun m => by
        show lo_impl_ValidDisk_11 (m + 1) a0.2.1 (nI a0.2.1.length) (a0.2.1.length : Int) a0.1 a0.2.1 = _
        simp only [lo_impl_ValidDisk_11, tr_impl_ValidDisk_11]
        rw [cLtF]
        rfl) (fu_impl_ValidDisk_11 a0.2.1 (nI a0.2.1.length) 0 a0.1 a0.2.1) 0 (by omega) (by simp [fu_impl_ValidDisk_11, nI])
      have hM' : lo_impl_ValidDisk_11 (fu_impl_ValidDisk_11 a0.2.1 (nI a0.2.1.length) 0 a0.1 a0.2.1) a0.2.1 (nI a0.2.1.length) 0 a0.1 a0.2.1 = _ := hM
      show (lo_impl_ValidDisk_5 (fu_impl_ValidDisk_5 a0.1 (nI a0.1.length) 0 a0.1 a0.2.1) a0.1 (nI a0.1.length) 0 a0.1 a0.2.1).bind _ = _
      rw [hL']
      rw [Nat.sub_zero] at hM' ⊢
      cases (List.range' 0 a0.1.length).all (fun i => decide ((a0.1.getD i z0).size = 64)) with
      | false => rfl
      | true =>
        show (lo_impl_ValidDisk_11 (fu_impl_ValidDisk_11 a0.2.1 (nI a0.2.1.length) 0 a0.1 a0.2.1) a0.2.1 (nI a0.2.1.length) 0 a0.1 a0.2.1).bind _ = _
        rw [hM']
        cases (List.range' 0 a0.2.1.length).all (fun i => okWr a0.1.length (a0.2.1.getD i zW)) <;> rfl
    · rw [decide_eq_false hp]
      rfl
def ou_impl_ValidDisk_5 {R : Type} (k : Kt R) : (((List ByteArray) × (List (Int × ByteArray × Unit)) × Unit) ⊕ ((Bool) × Unit)) → Option R := (onSum (fun d => k (.exit 0) (((pa_impl_ValidDisk 5).2 2).st d) (((pa_impl_ValidDisk 5).2 2).nid)) (fun d => k .ret (((pa_impl_ValidDisk 5).2 1).st d) (((pa_impl_ValidDisk 5).2 1).nid)))
def ou_impl_ValidDisk_11 {R : Type} (k : Kt R) : ((Unit) ⊕ ((Bool) × Unit)) → Option R := (onSum (fun d => k (.exit 2) (((pa_impl_ValidDisk 11).2 4).st d) (((pa_impl_ValidDisk 11).2 4).nid)) (fun d => k .ret (((pa_impl_ValidDisk 11).2 1).st d) (((pa_impl_ValidDisk 11).2 1).nid)))
def L_impl_ValidDisk {R : Type} : Lt R pa_impl_ValidDisk := (addL (pat := pa_impl_ValidDisk) 5 (fun d k => (lo_impl_ValidDisk_5 (fu_impl_ValidDisk_5 d.1 d.2.1 d.2.2.1 d.2.2.2.1 d.2.2.2.2.1) d.1 d.2.1 d.2.2.1 d.2.2.2.1 d.2.2.2.2.1).bind (ou_impl_ValidDisk_5 k)) (addL (pat := pa_impl_ValidDisk) 11 (fun d k => (lo_impl_ValidDisk_11 (fu_impl_ValidDisk_11 d.1 d.2.1 d.2.2.1 d.2.2.2.1 d.2.2.2.2.1) d.1 d.2.1 d.2.2.1 d.2.2.2.1 d.2.2.2.2.1).bind (ou_impl_ValidDisk_11 k)) noL))
theorem rd_impl_ValidDisk_11 {R : Type} (nx : (pa_impl_ValidDisk 11).1.D → Kt R → Option R) (k : Kt R) (v30 : List (Int × ByteArray × Unit)) (v31 : Int) (v32 : Int) (b0_0 : List ByteArray) (b0_1 : List (Int × ByteArray × Unit)) : ev Try.prog ⟨ta_impl_ValidDisk, 0, 51, pa_impl_ValidDisk⟩ L_impl_ValidDisk co_impl_ValidDisk_11 ((pa_impl_ValidDisk 11).1.st (v30, v31, v32, b0_0, b0_1, ())) (pa_impl_ValidDisk 11).1.nid (roundK 0 (pa_impl_ValidDisk 11) nx k) = tr_impl_ValidDisk_11  (fun d => nx d k) (fun d => k (.exit 2) (((pa_impl_ValidDisk 11).2 4).st d) (((pa_impl_ValidDisk 11).2 4).nid)) (fun d => k .ret (((pa_impl_ValidDisk 11).2 1).st d) (((pa_impl_ValidDisk 11).2 1).nid)) v30 v31 v32 b0_0 b0_1 := by kernel_rfl
theorem lp_impl_ValidDisk_11 {R : Type} : ∀ (m : Nat) (d : (pa_impl_ValidDisk 11).1.D) (k : Kt R), loopN 0 (pa_impl_ValidDisk 11) (fun s nid k => ev Try.prog ⟨ta_impl_ValidDisk, 0, 51, pa_impl_ValidDisk⟩ L_impl_ValidDisk co_impl_ValidDisk_11 s nid k) m d k = (lo_impl_ValidDisk_11 m d.1 d.2.1 d.2.2.1 d.2.2.2.1 d.2.2.2.2.1).bind (ou_impl_ValidDisk_11 k)
  | 0, _, _ => rfl
  | m + 1, ⟨v30, v31, v32, b0_0, b0_1, ⟨⟩⟩, k => (rd_impl_ValidDisk_11 _ k v30 v31 v32 b0_0 b0_1).trans ((congrArg (fun F => tr_impl_ValidDisk_11  F (fun d => k (.exit 2) (((pa_impl_ValidDisk 11).2 4).st d) (((pa_impl_ValidDisk 11).2 4).nid)) (fun d => k .ret (((pa_impl_ValidDisk 11).2 1).st d) (((pa_impl_ValidDisk 11).2 1).nid)) v30 v31 v32 b0_0 b0_1) (funext fun d => lp_impl_ValidDisk_11 m d k)).trans (na_impl_ValidDisk_11 (f := ou_impl_ValidDisk_11 k)  (fun d => lo_impl_ValidDisk_11 m d.1 d.2.1 d.2.2.1 d.2.2.2.1 d.2.2.2.2.1) (fun d => some (.inl (d))) (fun d => some (.inr (d))) v30 v31 v32 b0_0 b0_1))
theorem rd_impl_ValidDisk_5 {R : Type} (nx : (pa_impl_ValidDisk 5).1.D → Kt R → Option R) (k : Kt R) (v19 : List ByteArray) (v20 : Int) (v21 : Int) (b0_0 : List ByteArray) (b0_1 : List (Int × ByteArray × Unit)) : ev Try.prog ⟨ta_impl_ValidDisk, 0, 51, pa_impl_ValidDisk⟩ L_impl_ValidDisk co_impl_ValidDisk_5 ((pa_impl_ValidDisk 5).1.st (v19, v20, v21, b0_0, b0_1, ())) (pa_impl_ValidDisk 5).1.nid (roundK 0 (pa_impl_ValidDisk 5) nx k) = tr_impl_ValidDisk_5  (fun d => nx d k) (fun d => k (.exit 0) (((pa_impl_ValidDisk 5).2 2).st d) (((pa_impl_ValidDisk 5).2 2).nid)) (fun d => k .ret (((pa_impl_ValidDisk 5).2 1).st d) (((pa_impl_ValidDisk 5).2 1).nid)) v19 v20 v21 b0_0 b0_1 := by kernel_rfl
theorem lp_impl_ValidDisk_5 {R : Type} : ∀ (m : Nat) (d : (pa_impl_ValidDisk 5).1.D) (k : Kt R), loopN 0 (pa_impl_ValidDisk 5) (fun s nid k => ev Try.prog ⟨ta_impl_ValidDisk, 0, 51, pa_impl_ValidDisk⟩ L_impl_ValidDisk co_impl_ValidDisk_5 s nid k) m d k = (lo_impl_ValidDisk_5 m d.1 d.2.1 d.2.2.1 d.2.2.2.1 d.2.2.2.2.1).bind (ou_impl_ValidDisk_5 k)
  | 0, _, _ => rfl
  | m + 1, ⟨v19, v20, v21, b0_0, b0_1, ⟨⟩⟩, k => (rd_impl_ValidDisk_5 _ k v19 v20 v21 b0_0 b0_1).trans ((congrArg (fun F => tr_impl_ValidDisk_5  F (fun d => k (.exit 0) (((pa_impl_ValidDisk 5).2 2).st d) (((pa_impl_ValidDisk 5).2 2).nid)) (fun d => k .ret (((pa_impl_ValidDisk 5).2 1).st d) (((pa_impl_ValidDisk 5).2 1).nid)) v19 v20 v21 b0_0 b0_1) (funext fun d => lp_impl_ValidDisk_5 m d k)).trans (na_impl_ValidDisk_5 (f := ou_impl_ValidDisk_5 k)  (fun d => lo_impl_ValidDisk_5 m d.1 d.2.1 d.2.2.1 d.2.2.2.1 d.2.2.2.2.1) (fun d => some (.inl (d))) (fun d => some (.inr (d))) v19 v20 v21 b0_0 b0_1))
theorem en_impl_ValidDisk (a0 : (List ByteArray) × (List (Int × ByteArray × Unit)) × Unit) : evalF Try.prog ta_impl_ValidDisk pa_impl_ValidDisk sg_impl_ValidDisk Try.f26 L_impl_ValidDisk (a0, ()) = de_impl_ValidDisk a0 := by kernel_rfl
theorem si_impl_ValidDisk : SigsOk Try.prog ta_impl_ValidDisk := SigsOk.of fun f sd h => by
  try dsimp only [Tb.of, ta_impl_ValidDisk] at h
  split at h
  · rename_i e; subst e; cases h; exact sn_impl_in
  cases h
theorem lk_impl_ValidDisk_11 {R : Type} : LoopOk Try.prog R 51 0 pa_impl_ValidDisk L_impl_ValidDisk co_impl_ValidDisk_11 :=
  loop_key (cfg := ⟨ta_impl_ValidDisk, 0, 51, pa_impl_ValidDisk⟩) (key := 11) (by kernel_rfl) (by kernel_rfl) si_impl_ValidDisk rfl rfl (fun d k r h => ⟨fu_impl_ValidDisk_11 d.1 d.2.1 d.2.2.1 d.2.2.2.1 d.2.2.2.2.1, (lp_impl_ValidDisk_11 _ d k).trans h⟩) (fun c hc => by rw [show loopsIn co_impl_ValidDisk_11 = [] from by kernel_rfl] at hc; cases hc)
theorem lk_impl_ValidDisk_5 {R : Type} : LoopOk Try.prog R 51 0 pa_impl_ValidDisk L_impl_ValidDisk co_impl_ValidDisk_5 :=
  loop_key (cfg := ⟨ta_impl_ValidDisk, 0, 51, pa_impl_ValidDisk⟩) (key := 5) (by kernel_rfl) (by kernel_rfl) si_impl_ValidDisk rfl rfl (fun d k r h => ⟨fu_impl_ValidDisk_5 d.1 d.2.1 d.2.2.1 d.2.2.2.1 d.2.2.2.2.1, (lp_impl_ValidDisk_5 _ d k).trans h⟩) (fun c hc => by rw [show loopsIn co_impl_ValidDisk_5 = [] from by kernel_rfl] at hc; cases hc)
theorem sn_impl_ValidDisk : Callable Try.prog 26 ∧ Sound Try.prog 26 sd_impl_ValidDisk.sg sd_impl_ValidDisk.den :=
  fn_loops (pat := pa_impl_ValidDisk) L_impl_ValidDisk (by kernel_rfl) si_impl_ValidDisk Try.func26 (by kernel_rfl) (by kernel_rfl) (fun c hc => by rw [show loopsIn (bodyOf Try.f26) = [co_impl_ValidDisk_5, co_impl_ValidDisk_11] from by kernel_rfl] at hc; simp only [List.mem_cons, List.not_mem_nil, or_false] at hc; rcases hc with rfl | rfl <;> first | exact lk_impl_ValidDisk_5 | exact lk_impl_ValidDisk_11) fun x r h => by
    obtain ⟨a0, ⟨⟩⟩ := x; rw [← h]; exact (en_impl_ValidDisk a0).trans (eq_impl_ValidDisk a0)
def m_impl_see (d : Dk) (a : Int) : Option ByteArray := if d.2.1.length ≤ 1099511627776 ∧ 0 ≤ a ∧ a < (d.1.length : Int) then some (seeD d a) else none
def fu_impl_see_3 (v1 : Int) (v5 : Int) (b0_0 : List ByteArray) (b0_1 : List (Int × ByteArray × Unit)) : Nat := (v5 + 1).toNat + 1
def sg_impl_see : Sig := ⟨[.rd (.pair (.sl .str) (.pair (.sl (.pair (.int .i64) (.pair .str .unit))) .unit)), .rd (.int .i64)], [some 2, none], [.rd .str], [none]⟩
def sd_impl_see : SD := ⟨sg_impl_see, fun x => (m_impl_see x.1 x.2.1).bind fun r => some ((r, ()), (()))⟩
def ta_impl_see : Tb := Tb.of fun f => none
def pa_impl_see : Nat → Pat × (Nat → Pat) := fun k => if k = 3 then (⟨[.boxSl 2 0 .str, .boxSl 2 1 (.pair (.int .i64) (.pair .str .unit))], [(1, .lf (.d (.int .i64))), (2, .lf (.ptr 0 0)), (5, .lf (.d (.int .i64)))], [.box 44 [.d (.sl .str), .d (.sl (.pair (.int .i64) (.pair .str .unit)))]]⟩, fun e => if e = 1 then ⟨[], [(4, .lf (.d .str))], []⟩ else if e = 2 then ⟨[.boxSl 2 0 .str, .boxSl 2 1 (.pair (.int .i64) (.pair .str .unit))], [(1, .lf (.d (.int .i64))), (2, .lf (.ptr 0 0))], [.box 44 [.d (.sl .str), .d (.sl (.pair (.int .i64) (.pair .str .unit)))]]⟩ else ⟨[], [], []⟩) else (⟨[], [], []⟩, fun _ => ⟨[], [], []⟩)
noncomputable def co_impl_see_3 : Code := (loopsIn (bodyOf Try.f92)).getD 0 .skip
def tr_impl_see_3 {R : Type}  (NX : ((Int) × (Int) × (List ByteArray) × (List (Int × ByteArray × Unit)) × Unit) → Option R) (X2 : ((Int) × (List ByteArray) × (List (Int × ByteArray × Unit)) × Unit) → Option R) (X1 : ((ByteArray) × Unit) → Option R) (v1 : Int) (v5 : Int) (b0_0 : List ByteArray) (b0_1 : List (Int × ByteArray × Unit)) : Option R :=
  bif decide (v5 ≥ 0) then
    bif decide (0 ≤ v5) then
      bif decide (v5 < nI (List.length b0_1)) then
        bif (List.getD b0_1 (Int.toNat v5) (0, ByteArray.mk #[], ())).fst == v1 then
          bif decide (0 ≤ v5) then bif decide (v5 < nI (List.length b0_1)) then X1 ((List.getD b0_1 (Int.toNat v5) (0, ByteArray.mk #[], ())).snd.fst, ()) else none else none
        else NX (v1, IntKind.wrap IntKind.i64 (v5 - 1), b0_0, b0_1, ())
      else none
    else none
  else X2 (v1, b0_0, b0_1, ())
def lo_impl_see_3 : Nat → (Int) → (Int) → (List ByteArray) → (List (Int × ByteArray × Unit)) →  Option (((Int) × (List ByteArray) × (List (Int × ByteArray × Unit)) × Unit) ⊕ ((ByteArray) × Unit))
  | 0, _, _, _, _ => none
  | m + 1, v1, v5, b0_0, b0_1 => tr_impl_see_3  (fun d => lo_impl_see_3 m d.1 d.2.1 d.2.2.1 d.2.2.2.1) (fun d => some (.inl (d))) (fun d => some (.inr (d))) v1 v5 b0_0 b0_1
theorem na_impl_see_3 {R S : Type}  (NX : ((Int) × (Int) × (List ByteArray) × (List (Int × ByteArray × Unit)) × Unit) → Option R) (X2 : ((Int) × (List ByteArray) × (List (Int × ByteArray × Unit)) × Unit) → Option R) (X1 : ((ByteArray) × Unit) → Option R) (v1 : Int) (v5 : Int) (b0_0 : List ByteArray) (b0_1 : List (Int × ByteArray × Unit)) (f : R → Option S) : tr_impl_see_3  (fun d => (NX d).bind f) (fun d => (X2 d).bind f) (fun d => (X1 d).bind f) v1 v5 b0_0 b0_1 = (tr_impl_see_3  NX X2 X1 v1 v5 b0_0 b0_1).bind f := by
  unfold tr_impl_see_3
  simp only [cond_bind, ite_bind, onSum_bind, Option.bind_assoc, Option.bind_none, Option.bind_some]
def de_impl_see (a0 : (List ByteArray) × (List (Int × ByteArray × Unit)) × Unit) (a1 : Int) : Option ((((ByteArray) × Unit) × (Unit))) :=
  Option.bind ((fun d => lo_impl_see_3 (fu_impl_see_3 d.1 d.2.1 d.2.2.1 d.2.2.2.1) d.1 d.2.1 d.2.2.1 d.2.2.2.1) (a1, IntKind.wrap IntKind.i64 (nI (List.length a0.snd.fst) - 1), a0.fst, a0.snd.fst, ())) fun val =>
    onSum
      (fun val =>
        bif decide (0 ≤ val.fst) then bif decide (val.fst < nI (List.length val.snd.fst)) then some ((List.getD val.snd.fst (Int.toNat val.fst) (ByteArray.mk #[]), ()), ()) else none else none)
      (fun val => some ((val.fst, ()), ())) val
theorem eq_impl_see (a0 : Dk) (a1 : Int) r (h : m_impl_see a0 a1 = some r) : de_impl_see a0 a1 = some ((r, ()), (())) := by
  unfold m_impl_see at h
  split at h
  · rename_i hc
    obtain ⟨hp, h0, h1⟩ := hc
    cases h
    have hw : IntKind.wrap IntKind.i64 (nI a0.2.1.length - 1) = (a0.2.1.length : Int) - 1 := wrap_ok (by simp only [nI]; omega) (by simp only [nI]; omega)
    have hL := rfind_loop (xs := a0.2.1) zW (fun w => w.1 == a1) (fun w => .inr (w.2.1, ())) (g := fun m i => lo_impl_see_3 m a1 i a0.1 a0.2.1) (ok := .inl (a1, a0.1, a0.2.1, ())) (fun m i hi => by
      show lo_impl_see_3 (m + 1) a1 i a0.1 a0.2.1 = _
      simp only [lo_impl_see_3, tr_impl_see_3]
      have hi0 : (i : Int) ≥ 0 := by omega
      have hw : IntKind.wrap IntKind.i64 ((i : Int) - 1) = (i : Int) - 1 := wrap_ok (by omega) (by omega)
      rw [decide_eq_true hi0, cLt hi, Int.toNat_natCast, hw]
      rfl) (fun m => by
      show lo_impl_see_3 (m + 1) a1 (-1) a0.1 a0.2.1 = _
      simp only [lo_impl_see_3, tr_impl_see_3]
      rfl) (fu_impl_see_3 a1 ((a0.2.1.length : Int) - 1) a0.1 a0.2.1) a0.2.1.length (by omega) (by simp [fu_impl_see_3])
    have hL' : lo_impl_see_3 (fu_impl_see_3 a1 ((a0.2.1.length : Int) - 1) a0.1 a0.2.1) a1 ((a0.2.1.length : Int) - 1) a0.1 a0.2.1 = _ := hL
    unfold de_impl_see
    rw [hw]
    show (lo_impl_see_3 (fu_impl_see_3 a1 ((a0.2.1.length : Int) - 1) a0.1 a0.2.1) a1 ((a0.2.1.length : Int) - 1) a0.1 a0.2.1).bind _ = _
    rw [hL', List.take_length]
    show onSum _ _ _ = _
    have hc1 : decide (0 ≤ a1) = true := decide_eq_true h0
    have hc2 : decide (a1 < nI a0.1.length) = true := decide_eq_true h1
    unfold seeD
    rw [findGo_map (onSum _ _), findGo_map (fun r : ByteArray => some ((r, ()), ()))]
    simp only [onSum, hc1, hc2, cond_true]
    rfl
  · cases h
def ou_impl_see_3 {R : Type} (k : Kt R) : (((Int) × (List ByteArray) × (List (Int × ByteArray × Unit)) × Unit) ⊕ ((ByteArray) × Unit)) → Option R := (onSum (fun d => k (.exit 0) (((pa_impl_see 3).2 2).st d) (((pa_impl_see 3).2 2).nid)) (fun d => k .ret (((pa_impl_see 3).2 1).st d) (((pa_impl_see 3).2 1).nid)))
def L_impl_see {R : Type} : Lt R pa_impl_see := (addL (pat := pa_impl_see) 3 (fun d k => (lo_impl_see_3 (fu_impl_see_3 d.1 d.2.1 d.2.2.1 d.2.2.2.1) d.1 d.2.1 d.2.2.1 d.2.2.2.1).bind (ou_impl_see_3 k)) noL)
theorem rd_impl_see_3 {R : Type} (nx : (pa_impl_see 3).1.D → Kt R → Option R) (k : Kt R) (v1 : Int) (v5 : Int) (b0_0 : List ByteArray) (b0_1 : List (Int × ByteArray × Unit)) : ev Try.prog ⟨ta_impl_see, 0, 33, pa_impl_see⟩ L_impl_see co_impl_see_3 ((pa_impl_see 3).1.st (v1, v5, b0_0, b0_1, ())) (pa_impl_see 3).1.nid (roundK 0 (pa_impl_see 3) nx k) = tr_impl_see_3  (fun d => nx d k) (fun d => k (.exit 0) (((pa_impl_see 3).2 2).st d) (((pa_impl_see 3).2 2).nid)) (fun d => k .ret (((pa_impl_see 3).2 1).st d) (((pa_impl_see 3).2 1).nid)) v1 v5 b0_0 b0_1 := by kernel_rfl
theorem lp_impl_see_3 {R : Type} : ∀ (m : Nat) (d : (pa_impl_see 3).1.D) (k : Kt R), loopN 0 (pa_impl_see 3) (fun s nid k => ev Try.prog ⟨ta_impl_see, 0, 33, pa_impl_see⟩ L_impl_see co_impl_see_3 s nid k) m d k = (lo_impl_see_3 m d.1 d.2.1 d.2.2.1 d.2.2.2.1).bind (ou_impl_see_3 k)
  | 0, _, _ => rfl
  | m + 1, ⟨v1, v5, b0_0, b0_1, ⟨⟩⟩, k => (rd_impl_see_3 _ k v1 v5 b0_0 b0_1).trans ((congrArg (fun F => tr_impl_see_3  F (fun d => k (.exit 0) (((pa_impl_see 3).2 2).st d) (((pa_impl_see 3).2 2).nid)) (fun d => k .ret (((pa_impl_see 3).2 1).st d) (((pa_impl_see 3).2 1).nid)) v1 v5 b0_0 b0_1) (funext fun d => lp_impl_see_3 m d k)).trans (na_impl_see_3 (f := ou_impl_see_3 k)  (fun d => lo_impl_see_3 m d.1 d.2.1 d.2.2.1 d.2.2.2.1) (fun d => some (.inl (d))) (fun d => some (.inr (d))) v1 v5 b0_0 b0_1))
theorem en_impl_see (a0 : (List ByteArray) × (List (Int × ByteArray × Unit)) × Unit) (a1 : Int) : evalF Try.prog ta_impl_see pa_impl_see sg_impl_see Try.f92 L_impl_see (a0, a1, ()) = de_impl_see a0 a1 := by kernel_rfl
theorem si_impl_see : SigsOk Try.prog ta_impl_see := SigsOk.of fun f sd h => by
  try dsimp only [Tb.of, ta_impl_see] at h
  cases h
theorem lk_impl_see_3 {R : Type} : LoopOk Try.prog R 33 0 pa_impl_see L_impl_see co_impl_see_3 :=
  loop_key (cfg := ⟨ta_impl_see, 0, 33, pa_impl_see⟩) (key := 3) (by kernel_rfl) (by kernel_rfl) si_impl_see rfl rfl (fun d k r h => ⟨fu_impl_see_3 d.1 d.2.1 d.2.2.1 d.2.2.2.1, (lp_impl_see_3 _ d k).trans h⟩) (fun c hc => by rw [show loopsIn co_impl_see_3 = [] from by kernel_rfl] at hc; cases hc)
theorem sn_impl_see : Callable Try.prog 92 ∧ Sound Try.prog 92 sd_impl_see.sg sd_impl_see.den :=
  fn_loops (pat := pa_impl_see) L_impl_see (by kernel_rfl) si_impl_see Try.func92 (by kernel_rfl) (by kernel_rfl) (fun c hc => by rw [show loopsIn (bodyOf Try.f92) = [co_impl_see_3] from by kernel_rfl] at hc; simp only [List.mem_cons, List.not_mem_nil, or_false] at hc; rcases hc with rfl <;> first | exact lk_impl_see_3) fun x r h => by
    obtain ⟨a0, a1, ⟨⟩⟩ := x; obtain ⟨y, h1, h2⟩ := Option.bind_eq_some_iff.1 (show (m_impl_see a0 a1).bind (fun r => some ((r, ()), (()))) = some r from h); cases h2; exact (en_impl_see a0 a1).trans (eq_impl_see a0 a1 _ h1)
def m_impl_Sector (d : Dk) (a : Int) : ByteArray := sectorD d a
def sg_impl_Sector : Sig := ⟨[.rd (.pair (.sl .str) (.pair (.sl (.pair (.int .i64) (.pair .str .unit))) .unit)), .rd (.int .i64)], [some 2, none], [.rd .str], [none]⟩
def sd_impl_Sector : SD := ⟨sg_impl_Sector, fun x => some (((m_impl_Sector x.1 x.2.1), ()), (()))⟩
def ta_impl_Sector : Tb := Tb.of fun f => if f = 26 then some sd_impl_ValidDisk else if f = 76 then some sd_impl_in else if f = 92 then some sd_impl_see else none
def pa_impl_Sector : Nat → Pat × (Nat → Pat) := fun k => (⟨[], [], []⟩, fun _ => ⟨[], [], []⟩)
def de_impl_Sector (a0 : (List ByteArray) × (List (Int × ByteArray × Unit)) × Unit) (a1 : Int) : Option ((((ByteArray) × Unit) × (Unit))) :=
  bif !m_impl_ValidDisk (a0.fst, a0.snd.fst, ()) then some ((ByteArray.mk #[], ()), ())
  else
    bif !m_impl_in a1 0 (IntKind.wrap IntKind.i64 (nI (List.length a0.fst) - 1)) then some ((ByteArray.mk #[], ()), ())
    else Option.bind (Option.bind (m_impl_see (a0.fst, a0.snd.fst, ()) a1) fun val => some ((val, ()), ())) fun val => some ((val.fst.fst, ()), ())
theorem eq_impl_Sector (a0 : Dk) (a1 : Int) : de_impl_Sector a0 a1 = some ((m_impl_Sector a0 a1, ()), (())) := by
  unfold de_impl_Sector m_impl_Sector sectorD
  show (bif !validDisk a0 then _ else _) = _
  cases hv : validDisk a0 with
  | false => rfl
  | true =>
    obtain ⟨k1, k2, k3, k4, k5⟩ := disk_ok hv
    have hw : IntKind.wrap IntKind.i64 (nI a0.1.length - 1) = (a0.1.length : Int) - 1 := wrap_ok (by simp only [nI]; omega) (by simp only [nI]; omega)
    have e : m_impl_in a1 0 ((a0.1.length : Int) - 1) = (decide (0 ≤ a1) && decide (a1 < (a0.1.length : Int))) := by
      show (decide (0 ≤ a1) && decide (a1 ≤ (a0.1.length : Int) - 1)) = _
      congr 1
      exact decide_eq_decide.2 (by omega)
    rw [hw, e]
    by_cases h0 : 0 ≤ a1
    · by_cases h1 : a1 < (a0.1.length : Int)
      · have hs : m_impl_see (a0.1, a0.2.1, ()) a1 = some (seeD a0 a1) := if_pos ⟨by show a0.2.1.length ≤ _; omega, h0, h1⟩
        rw [decide_eq_true h0, decide_eq_true h1, hs]
        rfl
      · rw [decide_eq_false h1, Bool.and_false]
        rfl
    · rw [decide_eq_false h0]
      rfl
theorem en_impl_Sector (a0 : (List ByteArray) × (List (Int × ByteArray × Unit)) × Unit) (a1 : Int) : evalF Try.prog ta_impl_Sector pa_impl_Sector sg_impl_Sector Try.f38 noL (a0, a1, ()) = de_impl_Sector a0 a1 := by kernel_rfl
theorem si_impl_Sector : SigsOk Try.prog ta_impl_Sector := SigsOk.of fun f sd h => by
  try dsimp only [Tb.of, ta_impl_Sector] at h
  split at h
  · rename_i e; subst e; cases h; exact sn_impl_ValidDisk
  split at h
  · rename_i e; subst e; cases h; exact sn_impl_in
  split at h
  · rename_i e; subst e; cases h; exact sn_impl_see
  cases h
theorem sn_impl_Sector : Callable Try.prog 38 ∧ Sound Try.prog 38 sd_impl_Sector.sg sd_impl_Sector.den :=
  fn_plain (pat := pa_impl_Sector) (by kernel_rfl) si_impl_Sector Try.func38 (by kernel_rfl) (by kernel_rfl) (by kernel_rfl) fun x r h => by
    obtain ⟨a0, a1, ⟨⟩⟩ := x; rw [← h]; exact (en_impl_Sector a0 a1).trans (eq_impl_Sector a0 a1)
def sg_laws_FnExactSector : Sig := ⟨[.rd (.pair (.sl .str) (.pair (.sl (.pair (.int .i64) (.pair .str .unit))) .unit)), .rd (.int .i64)], [some 2, none], [.rd .bool], [none]⟩
def ta_laws_FnExactSector : Tb := Tb.of fun f => if f = 23 then some sd_laws_szDisk else if f = 25 then some sd_laws_toDisk else if f = 27 then some sd_laws_eqDisk else if f = 37 then some sd_spec_Sector else if f = 38 then some sd_impl_Sector else none
def pa_laws_FnExactSector : Nat → Pat × (Nat → Pat) := fun k => (⟨[], [], []⟩, fun _ => ⟨[], [], []⟩)
def de_laws_FnExactSector (a0 : (List ByteArray) × (List (Int × ByteArray × Unit)) × Unit) (a1 : Int) : Option ((((Bool) × Unit) × (Unit))) :=
  Option.bind (Option.bind (m_laws_szDisk (a0.fst, a0.snd.fst, ()) 1048576) fun val => some ((val, ()), ())) fun val =>
    bif decide (val.fst.fst < 0) then some ((true, ()), ())
    else
      Option.bind (Option.bind (m_laws_toDisk (a0.fst, a0.snd.fst, ())) fun val => some ((val.fst, val.snd.fst, ()), ())) fun val =>
        Option.bind (Option.bind (m_laws_toDisk (a0.fst, a0.snd.fst, ())) fun val => some ((val.fst, val.snd.fst, ()), ())) fun val_1 =>
          bif !ByteArray.toList (m_impl_Sector (val_1.fst.fst, val_1.fst.snd.fst, ()) a1) == ByteArray.toList (m_spec_Sector (val.fst.fst, val.fst.snd.fst, ()) a1) then some ((false, ()), ())
          else
            Option.bind (Option.bind (m_laws_toDisk (a0.fst, a0.snd.fst, ())) fun val => some ((val.fst, val.snd.fst, ()), ())) fun val =>
              Option.bind (Option.bind (m_laws_eqDisk (val_1.fst.fst, val_1.fst.snd.fst, ()) (val.fst.fst, val.fst.snd.fst, ())) fun val => some ((val, ()), ())) fun val =>
                bif !val.fst.fst then some ((false, ()), ()) else some ((true, ()), ())
def sd_laws_FnExactSector : SD := ⟨sg_laws_FnExactSector, fun x => de_laws_FnExactSector x.1 x.2.1⟩
theorem law_FnExactSector (a0 : (List ByteArray) × (List (Int × ByteArray × Unit)) × Unit)  (a1 : Int) (h0 : FineD (.pair (.sl .str) (.pair (.sl (.pair (.int .i64) (.pair .str .unit))) .unit)) a0) (h1 : FineD (.int .i64) a1) : de_laws_FnExactSector a0 a1 = some ((true, ()), ()) := by
  have hf0 := fine_of h0
  have hf1 := fine_of h1
  unfold de_laws_FnExactSector
  rcases sz_cases (l0 := 1048576) hf0 (by first | decide | assumption) (by first | decide | assumption) (m := m_laws_szDisk (a0.fst, a0.snd.fst, ()) 1048576) rfl with e0 | ⟨l0, e0, g0, k0, s0, q0⟩
  · simp only [e0, Option.bind_some, lt_m1, cond_true]
  · skip
    have t0 : m_laws_toDisk (a0.fst, a0.snd.fst, ()) = some (a0.fst, a0.snd.fst, ()) := toM_is (t := (.pair (.sl .str) (.pair (.sl (.pair (.int .i64) (.pair .str .unit))) .unit))) (x := a0) s0
    have u0 : m_laws_eqDisk (a0.fst, a0.snd.fst, ()) (a0.fst, a0.snd.fst, ()) = some true := eqM_self (t := (.pair (.sl .str) (.pair (.sl (.pair (.int .i64) (.pair .str .unit))) .unit))) (x := a0) hf0
    simp only [e0, q0, t0, u0, Option.bind_some, cond_false, cond_true, beq_self_eq_true, Bool.not_true, Bool.or_self, m_impl_Sector, m_spec_Sector]
theorem en_laws_FnExactSector (a0 : (List ByteArray) × (List (Int × ByteArray × Unit)) × Unit) (a1 : Int) : evalF Try.prog ta_laws_FnExactSector pa_laws_FnExactSector sg_laws_FnExactSector Try.f8 noL (a0, a1, ()) = de_laws_FnExactSector a0 a1 := by kernel_rfl
theorem si_laws_FnExactSector : SigsOk Try.prog ta_laws_FnExactSector := SigsOk.of fun f sd h => by
  try dsimp only [Tb.of, ta_laws_FnExactSector] at h
  split at h
  · rename_i e; subst e; cases h; exact sn_laws_szDisk
  split at h
  · rename_i e; subst e; cases h; exact sn_laws_toDisk
  split at h
  · rename_i e; subst e; cases h; exact sn_laws_eqDisk
  split at h
  · rename_i e; subst e; cases h; exact sn_spec_Sector
  split at h
  · rename_i e; subst e; cases h; exact sn_impl_Sector
  cases h
theorem sn_laws_FnExactSector : Callable Try.prog 8 ∧ Sound Try.prog 8 sd_laws_FnExactSector.sg sd_laws_FnExactSector.den :=
  fn_plain (pat := pa_laws_FnExactSector) (by kernel_rfl) si_laws_FnExactSector Try.func8 (by kernel_rfl) (by kernel_rfl) (by kernel_rfl) fun x r h => by
    obtain ⟨a0, a1, ⟨⟩⟩ := x; exact (en_laws_FnExactSector a0 a1).trans h
end Go.Proofs.Ytmhjcfgkheihdaa.V
