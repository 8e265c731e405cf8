/- What the functions that FnExactForged reaches come to: part 1. No condition. -/
import Derived.Test.YteaoabdlcefkhaaQBase
import Derived.Test.YteaoabdlcefkhaaTLay
import Derived.Test.YteaoabdlcefkhaaProg
import Derived.Test.YteaoabdlcefkhaaQS
import Derived.KernelRfl
namespace Go.Proofs.Yteaoabdlcefkhaa.V
open Go Go.Proofs.Yteaoabdlcefkhaa.R Go.Proofs
set_option maxRecDepth 100000
set_option linter.unusedVariables false
set_option linter.unusedSimpArgs false
def m_laws_szPair (a : ByteArray × ByteArray × Unit) (left : Int) : Option Int := szM (.pair .str (.pair .str .unit)) a left
def sg_laws_szPair : Sig := ⟨[.rd (.pair .str (.pair .str .unit)), .rd (.int .i64)], [some 2, none], [.rd (.int .i64)], [none]⟩
noncomputable def sd_laws_szPair : SD := ⟨sg_laws_szPair, fun x => (m_laws_szPair x.1 x.2.1).bind fun r => some ((r, ()), (()))⟩
noncomputable def ta_laws_szPair : Tb := Tb.of fun f => none
def pa_laws_szPair : Nat → Pat × (Nat → Pat) := fun k => (⟨[], [], []⟩, fun _ => ⟨[], [], []⟩)
noncomputable def de_laws_szPair (a0 : ByteArray × ByteArray × Unit) (a1 : Int) : Option ((((Int) × Unit) × (Unit))) :=
  bif decide (IntKind.wrap IntKind.i64 (a1 - nI (ByteArray.size a0.fst)) < 0) then some ((-1, ()), ())
  else
    bif decide (IntKind.wrap IntKind.i64 (IntKind.wrap IntKind.i64 (a1 - nI (ByteArray.size a0.fst)) - nI (ByteArray.size a0.snd.fst)) < 0) then some ((-1, ()), ())
    else some ((IntKind.wrap IntKind.i64 (IntKind.wrap IntKind.i64 (a1 - nI (ByteArray.size a0.fst)) - nI (ByteArray.size a0.snd.fst)), ()), ())
theorem eq_laws_szPair (a0 : ByteArray × ByteArray × Unit) (a1 : Int) r (h : m_laws_szPair a0 a1 = some r) : de_laws_szPair a0 a1 = some ((r, ()), (())) := by
  obtain ⟨hc, g0, g1, rfl⟩ := szM_some (t := (.pair .str (.pair .str .unit))) h
  obtain ⟨hc0, hc1, _⟩ : fineB .str a0.1 = true ∧ fineB .str a0.2.1 = true ∧ True := by
    have s := hc
    obtain ⟨h0, s⟩ := fineB_pair s
    obtain ⟨h1, s⟩ := fineB_pair s
    exact ⟨h0, h1, trivial⟩
  unfold de_laws_szPair
  have hwt : (wt (.pair .str (.pair .str .unit)) a0 : Int) = (ByteArray.size a0.1 : Int) + (ByteArray.size a0.2.1 : Int) := by simp only [wt]; omega
  rw [hwt]
  have hs0 : ByteArray.size a0.1 < 1152921504606846976 := fineB_str hc0
  have e0 : IntKind.i64.wrap (a1 - nI (ByteArray.size a0.1)) = a1 - (ByteArray.size a0.1 : Int) := wrap_ok (by simp only [nI]; omega) (by simp only [nI]; omega)
  simp only [e0]
  by_cases q0 : a1 - (ByteArray.size a0.1 : Int) < 0
  · simp only [decide_eq_true q0, cond_true]; try rw [if_pos (by omega)]
  · simp only [decide_eq_false q0, cond_false]
    have hs1 : ByteArray.size a0.2.1 < 1152921504606846976 := fineB_str hc1
    have e1 : IntKind.i64.wrap (a1 - (ByteArray.size a0.1 : Int) - nI (ByteArray.size a0.2.1)) = a1 - (ByteArray.size a0.1 : Int) - (ByteArray.size a0.2.1 : Int) := wrap_ok (by simp only [nI]; omega) (by simp only [nI]; omega)
    simp only [e1]
    by_cases q1 : a1 - (ByteArray.size a0.1 : Int) - (ByteArray.size a0.2.1 : Int) < 0
    · simp only [decide_eq_true q1, cond_true]; try rw [if_pos (by omega)]
    · simp only [decide_eq_false q1, cond_false]
      rw [if_neg (by omega)]
      simp only [Int.sub_sub, Int.add_assoc]
theorem en_laws_szPair (a0 : ByteArray × ByteArray × Unit) (a1 : Int) : evalF Try.prog ta_laws_szPair pa_laws_szPair sg_laws_szPair Try.f161 noL (a0, a1, ()) = de_laws_szPair a0 a1 := by kernel_rfl
theorem si_laws_szPair : SigsOk Try.prog ta_laws_szPair := SigsOk.of fun f sd h => by
  try dsimp only [Tb.of, ta_laws_szPair] at h
  cases h
theorem sn_laws_szPair : Callable Try.prog 161 ∧ Sound Try.prog 161 sd_laws_szPair.sg sd_laws_szPair.den :=
  fn_plain (pat := pa_laws_szPair) (by kernel_rfl) si_laws_szPair Try.func161 (by kernel_rfl) (by kernel_rfl) (by kernel_rfl) fun x r h => by
    obtain ⟨a0, a1, ⟨⟩⟩ := x; obtain ⟨y, h1, h2⟩ := Option.bind_eq_some_iff.1 (show (m_laws_szPair a0 a1).bind (fun r => some ((r, ()), (()))) = some r from h); cases h2; exact (en_laws_szPair a0 a1).trans (eq_laws_szPair a0 a1 _ h1)
def m_laws_szPairS (a : List (ByteArray × ByteArray × Unit)) (left : Int) : Option Int := szM (.sl (.pair .str (.pair .str .unit))) a left
def sg_laws_szPairS : Sig := ⟨[.rd (.sl (.pair .str (.pair .str .unit))), .rd (.int .i64)], [none, none], [.rd (.int .i64)], [none]⟩
noncomputable def sd_laws_szPairS : SD := ⟨sg_laws_szPairS, fun x => (m_laws_szPairS x.1 x.2.1).bind fun r => some ((r, ()), (()))⟩
noncomputable def ta_laws_szPairS : Tb := Tb.of fun f => if f = 161 then some sd_laws_szPair else none
def pa_laws_szPairS : Nat → Pat × (Nat → Pat) := fun k => if k = 6 then (⟨[.sl 0 0 (.pair .str (.pair .str .unit))], [(0, .lf (.d (.sl (.pair .str (.pair .str .unit))))), (1, .lf (.d (.int .i64))), (5, .lf (.d (.int .i64)))], []⟩, fun e => if e = 1 then ⟨[], [(4, .lf (.d (.int .i64)))], []⟩ else if e = 2 then ⟨[], [(1, .lf (.d (.int .i64)))], []⟩ else ⟨[], [], []⟩) else (⟨[], [], []⟩, fun _ => ⟨[], [], []⟩)
noncomputable def co_laws_szPairS_6 : Code := (loopsIn (bodyOf Try.f113)).getD 0 .skip
def fu_laws_szPairS_6 (v0 : List (ByteArray × ByteArray × Unit)) (v1 : Int) (v5 : Int) : Nat := ((v0.length : Int) - v5).toNat + 1
noncomputable def tr_laws_szPairS_6 {R : Type}  (NX : ((List (ByteArray × ByteArray × Unit)) × (Int) × (Int) × Unit) → Option R) (X2 : ((Int) × Unit) → Option R) (X1 : ((Int) × Unit) → Option R) (v0 : List (ByteArray × ByteArray × Unit)) (v1 : Int) (v5 : Int) : Option R :=
  bif decide (v5 < nI (List.length v0)) then
    bif decide (0 ≤ v5) then
      bif decide (v5 < nI (List.length v0)) then
        Option.bind
          (Option.bind (m_laws_szPair ((List.getD v0 (Int.toNat v5) (ByteArray.mk #[], ByteArray.mk #[], ())).fst, (List.getD v0 (Int.toNat v5) (ByteArray.mk #[], ByteArray.mk #[], ())).snd.fst, ()) v1)
            fun val => some ((val, ()), ()))
          fun val => bif decide (val.fst.fst < 0) then X1 (-1, ()) else NX (v0, val.fst.fst, IntKind.wrap IntKind.i64 (v5 + 1), ())
      else none
    else none
  else X2 (v1, ())
noncomputable def lo_laws_szPairS_6 : Nat → (List (ByteArray × ByteArray × Unit)) → (Int) → (Int) →  Option (((Int) × Unit) ⊕ ((Int) × Unit))
  | 0, _, _, _ => none
  | m + 1, v0, v1, v5 => tr_laws_szPairS_6  (fun d => lo_laws_szPairS_6 m d.1 d.2.1 d.2.2.1) (fun d => some (.inl (d))) (fun d => some (.inr (d))) v0 v1 v5
theorem na_laws_szPairS_6 {R S : Type}  (NX : ((List (ByteArray × ByteArray × Unit)) × (Int) × (Int) × Unit) → Option R) (X2 : ((Int) × Unit) → Option R) (X1 : ((Int) × Unit) → Option R) (v0 : List (ByteArray × ByteArray × Unit)) (v1 : Int) (v5 : Int) (f : R → Option S) : tr_laws_szPairS_6  (fun d => (NX d).bind f) (fun d => (X2 d).bind f) (fun d => (X1 d).bind f) v0 v1 v5 = (tr_laws_szPairS_6  NX X2 X1 v0 v1 v5).bind f := by
  unfold tr_laws_szPairS_6
  simp only [cond_bind, ite_bind, onSum_bind, Option.bind_assoc, Option.bind_none, Option.bind_some]
noncomputable def de_laws_szPairS (a0 : List (ByteArray × ByteArray × Unit)) (a1 : Int) : Option ((((Int) × Unit) × (Unit))) :=
  bif decide (IntKind.wrap IntKind.i64 (a1 - nI (List.length a0)) < 0) then some ((-1, ()), ())
  else Option.bind ((fun d => lo_laws_szPairS_6 (fu_laws_szPairS_6 d.1 d.2.1 d.2.2.1) d.1 d.2.1 d.2.2.1) (a0, IntKind.wrap IntKind.i64 (a1 - nI (List.length a0)), 0, ())) fun val => onSum (fun val => some ((val.fst, ()), ())) (fun val => some ((val.fst, ()), ())) val
theorem eq_laws_szPairS (a0 : List (ByteArray × ByteArray × Unit)) (a1 : Int) r (h : m_laws_szPairS a0 a1 = some r) : de_laws_szPairS a0 a1 = some ((r, ()), (())) := by
  obtain ⟨hc, g0, g1, rfl⟩ := szM_some (t := .sl (.pair .str (.pair .str .unit))) h
  obtain ⟨hl0, hall⟩ := fineB_sl hc
  have hl : a0.length < 1152921504606846976 := hl0
  clear hl0 hc
  · unfold de_laws_szPairS
    have hw1 : IntKind.i64.wrap (a1 - nI a0.length) = a1 - (a0.length : Int) := wrap_ok (by simp only [nI]; omega) (by simp only [nI]; omega)
    rw [hw1]
    have hL := sz_loop (xs := a0) ((ByteArray.mk #[]), (ByteArray.mk #[]), ()) (fun x : ByteArray × ByteArray × Unit => wt (.pair .str (.pair .str .unit)) x) (g := fun m l i => lo_laws_szPairS_6 m a0 l i) (ok := fun l => .inl (l, ())) (bad := .inr (-1, ())) (fun m i l hi h0 h1 => by
      show lo_laws_szPairS_6 (m + 1) a0 l i = _
      simp only [lo_laws_szPairS_6, tr_laws_szPairS_6]
      rw [cLt hi, cLe0, wI (by omega)]
      simp only [cond_true, Int.toNat_natCast]
      have hE : m_laws_szPair ((List.getD (α := ByteArray × ByteArray × Unit) a0 i ((ByteArray.mk #[]), (ByteArray.mk #[]), ())).fst, (List.getD (α := ByteArray × ByteArray × Unit) a0 i ((ByteArray.mk #[]), (ByteArray.mk #[]), ())).snd.fst, ()) l = some (if l - (wt (.pair .str (.pair .str .unit)) (List.getD (α := ByteArray × ByteArray × Unit) a0 i ((ByteArray.mk #[]), (ByteArray.mk #[]), ())) : Int) < 0 then -1 else l - wt (.pair .str (.pair .str .unit)) (List.getD (α := ByteArray × ByteArray × Unit) a0 i ((ByteArray.mk #[]), (ByteArray.mk #[]), ()))) := by
        exact szM_is (t := (.pair .str (.pair .str .unit))) (x := (List.getD (α := ByteArray × ByteArray × Unit) a0 i ((ByteArray.mk #[]), (ByteArray.mk #[]), ()))) (hall _ (getD_mem ((ByteArray.mk #[]), (ByteArray.mk #[]), ()) hi)) h0 h1
      rw [hE]
      by_cases q : l - (wt (.pair .str (.pair .str .unit)) (List.getD (α := ByteArray × ByteArray × Unit) a0 i ((ByteArray.mk #[]), (ByteArray.mk #[]), ())) : Int) < 0
      · simp only [if_pos q, decide_eq_true q, Option.bind_some, cond_true]; rfl
      · simp only [if_neg q, decide_eq_false q, Option.bind_some, cond_false]
    ) (fun m l => by
      show lo_laws_szPairS_6 (m + 1) a0 l a0.length = _
      simp only [lo_laws_szPairS_6, tr_laws_szPairS_6]
      rw [cLtF]
      rfl) (fu_laws_szPairS_6 a0 (a1 - (a0.length : Int)) 0) 0 (a1 - (a0.length : Int)) (by omega) (by simp [fu_laws_szPairS_6])
    have hW : wt (.sl (.pair .str (.pair .str .unit))) a0 = a0.length + (a0.map (fun x : ByteArray × ByteArray × Unit => wt (.pair .str (.pair .str .unit)) x)).sum := rfl
    rw [hW]
    by_cases q : a1 - (a0.length : Int) < 0
    · simp only [decide_eq_true q, cond_true]; rw [if_pos (by omega)]
    · simp only [decide_eq_false q, cond_false]
      have hL := hL (by omega) (by omega)
      rw [List.drop_zero] at hL
      show (lo_laws_szPairS_6 (fu_laws_szPairS_6 a0 (a1 - (a0.length : Int)) 0) a0 (a1 - (a0.length : Int)) 0).bind _ = _
      have hL' : lo_laws_szPairS_6 (fu_laws_szPairS_6 a0 (a1 - (a0.length : Int)) 0) a0 (a1 - (a0.length : Int)) 0 = _ := hL
      rw [hL']
      have hsum : a1 - ((a0.length + (a0.map (fun x : ByteArray × ByteArray × Unit => wt (.pair .str (.pair .str .unit)) x)).sum : Nat) : Int) = a1 - (a0.length : Int) - ((a0.map (fun x : ByteArray × ByteArray × Unit => wt (.pair .str (.pair .str .unit)) x)).sum : Int) := by omega
      rw [hsum]
      by_cases q2 : a1 - (a0.length : Int) - ((a0.map (fun x : ByteArray × ByteArray × Unit => wt (.pair .str (.pair .str .unit)) x)).sum : Int) < 0
      · simp only [if_pos q2]; rfl
      · simp only [if_neg q2]; rfl
noncomputable def ou_laws_szPairS_6 {R : Type} (k : Kt R) : (((Int) × Unit) ⊕ ((Int) × Unit)) → Option R := (onSum (fun d => k (.exit 0) (((pa_laws_szPairS 6).2 2).st d) (((pa_laws_szPairS 6).2 2).nid)) (fun d => k .ret (((pa_laws_szPairS 6).2 1).st d) (((pa_laws_szPairS 6).2 1).nid)))
noncomputable def L_laws_szPairS {R : Type} : Lt R pa_laws_szPairS := (addL (pat := pa_laws_szPairS) 6 (fun d k => (lo_laws_szPairS_6 (fu_laws_szPairS_6 d.1 d.2.1 d.2.2.1) d.1 d.2.1 d.2.2.1).bind (ou_laws_szPairS_6 k)) noL)
theorem rd_laws_szPairS_6 {R : Type} (nx : (pa_laws_szPairS 6).1.D → Kt R → Option R) (k : Kt R) (v0 : List (ByteArray × ByteArray × Unit)) (v1 : Int) (v5 : Int) : ev Try.prog ⟨ta_laws_szPairS, 0, 27, pa_laws_szPairS⟩ L_laws_szPairS co_laws_szPairS_6 ((pa_laws_szPairS 6).1.st (v0, v1, v5, ())) (pa_laws_szPairS 6).1.nid (roundK 0 (pa_laws_szPairS 6) nx k) = tr_laws_szPairS_6  (fun d => nx d k) (fun d => k (.exit 0) (((pa_laws_szPairS 6).2 2).st d) (((pa_laws_szPairS 6).2 2).nid)) (fun d => k .ret (((pa_laws_szPairS 6).2 1).st d) (((pa_laws_szPairS 6).2 1).nid)) v0 v1 v5 := by kernel_rfl
theorem lp_laws_szPairS_6 {R : Type} : ∀ (m : Nat) (d : (pa_laws_szPairS 6).1.D) (k : Kt R), loopN 0 (pa_laws_szPairS 6) (fun s nid k => ev Try.prog ⟨ta_laws_szPairS, 0, 27, pa_laws_szPairS⟩ L_laws_szPairS co_laws_szPairS_6 s nid k) m d k = (lo_laws_szPairS_6 m d.1 d.2.1 d.2.2.1).bind (ou_laws_szPairS_6 k)
  | 0, _, _ => rfl
  | m + 1, ⟨v0, v1, v5, ⟨⟩⟩, k => (rd_laws_szPairS_6 _ k v0 v1 v5).trans ((congrArg (fun F => tr_laws_szPairS_6  F (fun d => k (.exit 0) (((pa_laws_szPairS 6).2 2).st d) (((pa_laws_szPairS 6).2 2).nid)) (fun d => k .ret (((pa_laws_szPairS 6).2 1).st d) (((pa_laws_szPairS 6).2 1).nid)) v0 v1 v5) (funext fun d => lp_laws_szPairS_6 m d k)).trans (na_laws_szPairS_6 (f := ou_laws_szPairS_6 k)  (fun d => lo_laws_szPairS_6 m d.1 d.2.1 d.2.2.1) (fun d => some (.inl (d))) (fun d => some (.inr (d))) v0 v1 v5))
theorem en_laws_szPairS (a0 : List (ByteArray × ByteArray × Unit)) (a1 : Int) : evalF Try.prog ta_laws_szPairS pa_laws_szPairS sg_laws_szPairS Try.f113 L_laws_szPairS (a0, a1, ()) = de_laws_szPairS a0 a1 := by kernel_rfl
theorem si_laws_szPairS : SigsOk Try.prog ta_laws_szPairS := SigsOk.of fun f sd h => by
  try dsimp only [Tb.of, ta_laws_szPairS] at h
  split at h
  · rename_i e; subst e; cases h; exact sn_laws_szPair
  cases h
theorem lk_laws_szPairS_6 {R : Type} : LoopOk Try.prog R 27 0 pa_laws_szPairS L_laws_szPairS co_laws_szPairS_6 :=
  loop_key (cfg := ⟨ta_laws_szPairS, 0, 27, pa_laws_szPairS⟩) (key := 6) (by kernel_rfl) (by kernel_rfl) si_laws_szPairS rfl rfl (fun d k r h => ⟨fu_laws_szPairS_6 d.1 d.2.1 d.2.2.1, (lp_laws_szPairS_6 _ d k).trans h⟩) (fun c hc => by rw [show loopsIn co_laws_szPairS_6 = [] from by kernel_rfl] at hc; cases hc)
theorem sn_laws_szPairS : Callable Try.prog 113 ∧ Sound Try.prog 113 sd_laws_szPairS.sg sd_laws_szPairS.den :=
  fn_loops (pat := pa_laws_szPairS) L_laws_szPairS (by kernel_rfl) si_laws_szPairS Try.func113 (by kernel_rfl) (by kernel_rfl) (fun c hc => by rw [show loopsIn (bodyOf Try.f113) = [co_laws_szPairS_6] from by kernel_rfl] at hc; simp only [List.mem_cons, List.not_mem_nil, or_false] at hc; rcases hc with rfl <;> first | exact lk_laws_szPairS_6) fun x r h => by
    obtain ⟨a0, a1, ⟨⟩⟩ := x; obtain ⟨y, h1, h2⟩ := Option.bind_eq_some_iff.1 (show (m_laws_szPairS a0 a1).bind (fun r => some ((r, ()), (()))) = some r from h); cases h2; exact (en_laws_szPairS a0 a1).trans (eq_laws_szPairS a0 a1 _ h1)
def m_laws_szState (a : (List (ByteArray × ByteArray × Unit)) × Unit) (left : Int) : Option Int := szM (.pair (.sl (.pair .str (.pair .str .unit))) .unit) a left
def sg_laws_szState : Sig := ⟨[.rd (.pair (.sl (.pair .str (.pair .str .unit))) .unit), .rd (.int .i64)], [some 1, none], [.rd (.int .i64)], [none]⟩
noncomputable def sd_laws_szState : SD := ⟨sg_laws_szState, fun x => (m_laws_szState x.1 x.2.1).bind fun r => some ((r, ()), (()))⟩
noncomputable def ta_laws_szState : Tb := Tb.of fun f => if f = 113 then some sd_laws_szPairS else none
def pa_laws_szState : Nat → Pat × (Nat → Pat) := fun k => (⟨[], [], []⟩, fun _ => ⟨[], [], []⟩)
noncomputable def de_laws_szState (a0 : (List (ByteArray × ByteArray × Unit)) × Unit) (a1 : Int) : Option ((((Int) × Unit) × (Unit))) :=
  Option.bind (Option.bind (m_laws_szPairS a0.fst a1) fun val => some ((val, ()), ())) fun val => bif decide (val.fst.fst < 0) then some ((-1, ()), ()) else some ((val.fst.fst, ()), ())
theorem eq_laws_szState (a0 : (List (ByteArray × ByteArray × Unit)) × Unit) (a1 : Int) r (h : m_laws_szState a0 a1 = some r) : de_laws_szState a0 a1 = some ((r, ()), (())) := by
  obtain ⟨hc, g0, g1, rfl⟩ := szM_some (t := (.pair (.sl (.pair .str (.pair .str .unit))) .unit)) h
  obtain ⟨hc0, _⟩ : fineB (.sl (.pair .str (.pair .str .unit))) a0.1 = true ∧ True := by
    have s := hc
    obtain ⟨h0, s⟩ := fineB_pair s
    exact ⟨h0, trivial⟩
  unfold de_laws_szState
  have hwt : (wt (.pair (.sl (.pair .str (.pair .str .unit))) .unit) a0 : Int) = (wt (.sl (.pair .str (.pair .str .unit))) a0.1 : Int) := by simp only [wt]; omega
  rw [hwt]
  have e0 : m_laws_szPairS a0.1 (a1) = some (if a1 - (wt (.sl (.pair .str (.pair .str .unit))) a0.1 : Int) < 0 then -1 else a1 - (wt (.sl (.pair .str (.pair .str .unit))) a0.1 : Int)) := szM_is (t := (.sl (.pair .str (.pair .str .unit)))) (x := a0.1) hc0 (by omega) (by omega)
  simp only [show m_laws_szPairS a0.1 (a1) = _ from e0, Option.bind_some]
  by_cases q0 : a1 - (wt (.sl (.pair .str (.pair .str .unit))) a0.1 : Int) < 0
  · simp only [if_pos q0, show decide ((-1 : Int) < 0) = true from rfl, cond_true]; try rw [if_pos (by omega)]
  · simp only [if_neg q0, decide_eq_false q0, cond_false]
    try rw [if_neg q0]
theorem en_laws_szState (a0 : (List (ByteArray × ByteArray × Unit)) × Unit) (a1 : Int) : evalF Try.prog ta_laws_szState pa_laws_szState sg_laws_szState Try.f47 noL (a0, a1, ()) = de_laws_szState a0 a1 := by kernel_rfl
theorem si_laws_szState : SigsOk Try.prog ta_laws_szState := SigsOk.of fun f sd h => by
  try dsimp only [Tb.of, ta_laws_szState] at h
  split at h
  · rename_i e; subst e; cases h; exact sn_laws_szPairS
  cases h
theorem sn_laws_szState : Callable Try.prog 47 ∧ Sound Try.prog 47 sd_laws_szState.sg sd_laws_szState.den :=
  fn_plain (pat := pa_laws_szState) (by kernel_rfl) si_laws_szState Try.func47 (by kernel_rfl) (by kernel_rfl) (by kernel_rfl) fun x r h => by
    obtain ⟨a0, a1, ⟨⟩⟩ := x; obtain ⟨y, h1, h2⟩ := Option.bind_eq_some_iff.1 (show (m_laws_szState a0 a1).bind (fun r => some ((r, ()), (()))) = some r from h); cases h2; exact (en_laws_szState a0 a1).trans (eq_laws_szState a0 a1 _ h1)
def m_laws_szStore (a : Int × Int × Int × (Int × Int × Int × Int × Unit) × Int × Int × ((List (ByteArray × ByteArray × Unit)) × Unit) × Unit) (left : Int) : Option Int := szM (.pair (.int .i64) (.pair (.int .i64) (.pair (.int .i64) (.pair (.pair (.int .i64) (.pair (.int .i64) (.pair (.int .i64) (.pair (.int .i64) .unit)))) (.pair (.int .i64) (.pair (.int .i64) (.pair (.pair (.sl (.pair .str (.pair .str .unit))) .unit) .unit))))))) a left
def sg_laws_szStore : Sig := ⟨[.rd (.pair (.int .i64) (.pair (.int .i64) (.pair (.int .i64) (.pair (.pair (.int .i64) (.pair (.int .i64) (.pair (.int .i64) (.pair (.int .i64) .unit)))) (.pair (.int .i64) (.pair (.int .i64) (.pair (.pair (.sl (.pair .str (.pair .str .unit))) .unit) .unit))))))), .rd (.int .i64)], [some 10, none], [.rd (.int .i64)], [none]⟩
noncomputable def sd_laws_szStore : SD := ⟨sg_laws_szStore, fun x => (m_laws_szStore x.1 x.2.1).bind fun r => some ((r, ()), (()))⟩
noncomputable def ta_laws_szStore : Tb := Tb.of fun f => if f = 47 then some sd_laws_szState else none
def pa_laws_szStore : Nat → Pat × (Nat → Pat) := fun k => (⟨[], [], []⟩, fun _ => ⟨[], [], []⟩)
noncomputable def de_laws_szStore (a0 : Int × Int × Int × (Int × Int × Int × Int × Unit) × Int × Int × ((List (ByteArray × ByteArray × Unit)) × Unit) × Unit) (a1 : Int) : Option ((((Int) × Unit) × (Unit))) :=
  Option.bind (Option.bind (m_laws_szState (a0.snd.snd.snd.snd.snd.snd.fst.fst, ()) a1) fun val => some ((val, ()), ())) fun val =>
    bif decide (val.fst.fst < 0) then some ((-1, ()), ()) else some ((val.fst.fst, ()), ())
theorem eq_laws_szStore (a0 : Int × Int × Int × (Int × Int × Int × Int × Unit) × Int × Int × ((List (ByteArray × ByteArray × Unit)) × Unit) × Unit) (a1 : Int) r (h : m_laws_szStore a0 a1 = some r) : de_laws_szStore a0 a1 = some ((r, ()), (())) := by
  obtain ⟨hc, g0, g1, rfl⟩ := szM_some (t := (.pair (.int .i64) (.pair (.int .i64) (.pair (.int .i64) (.pair (.pair (.int .i64) (.pair (.int .i64) (.pair (.int .i64) (.pair (.int .i64) .unit)))) (.pair (.int .i64) (.pair (.int .i64) (.pair (.pair (.sl (.pair .str (.pair .str .unit))) .unit) .unit)))))))) h
  obtain ⟨hc0, hc1, hc2, hc3, hc4, hc5, hc6, _⟩ : fineB (.int .i64) a0.1 = true ∧ fineB (.int .i64) a0.2.1 = true ∧ fineB (.int .i64) a0.2.2.1 = true ∧ fineB (.pair (.int .i64) (.pair (.int .i64) (.pair (.int .i64) (.pair (.int .i64) .unit)))) a0.2.2.2.1 = true ∧ fineB (.int .i64) a0.2.2.2.2.1 = true ∧ fineB (.int .i64) a0.2.2.2.2.2.1 = true ∧ fineB (.pair (.sl (.pair .str (.pair .str .unit))) .unit) a0.2.2.2.2.2.2.1 = true ∧ True := by
    have s := hc
    obtain ⟨h0, s⟩ := fineB_pair s
    obtain ⟨h1, s⟩ := fineB_pair s
    obtain ⟨h2, s⟩ := fineB_pair s
    obtain ⟨h3, s⟩ := fineB_pair s
    obtain ⟨h4, s⟩ := fineB_pair s
    obtain ⟨h5, s⟩ := fineB_pair s
    obtain ⟨h6, s⟩ := fineB_pair s
    exact ⟨h0, h1, h2, h3, h4, h5, h6, trivial⟩
  unfold de_laws_szStore
  have hwt : (wt (.pair (.int .i64) (.pair (.int .i64) (.pair (.int .i64) (.pair (.pair (.int .i64) (.pair (.int .i64) (.pair (.int .i64) (.pair (.int .i64) .unit)))) (.pair (.int .i64) (.pair (.int .i64) (.pair (.pair (.sl (.pair .str (.pair .str .unit))) .unit) .unit))))))) a0 : Int) = (wt (.pair (.sl (.pair .str (.pair .str .unit))) .unit) a0.2.2.2.2.2.2.1 : Int) := by simp only [wt]; omega
  rw [hwt]
  have e0 : m_laws_szState a0.2.2.2.2.2.2.1 (a1) = some (if a1 - (wt (.pair (.sl (.pair .str (.pair .str .unit))) .unit) a0.2.2.2.2.2.2.1 : Int) < 0 then -1 else a1 - (wt (.pair (.sl (.pair .str (.pair .str .unit))) .unit) a0.2.2.2.2.2.2.1 : Int)) := szM_is (t := (.pair (.sl (.pair .str (.pair .str .unit))) .unit)) (x := a0.2.2.2.2.2.2.1) hc6 (by omega) (by omega)
  simp only [show m_laws_szState (a0.2.2.2.2.2.2.1.fst, ()) (a1) = _ from e0, Option.bind_some]
  by_cases q0 : a1 - (wt (.pair (.sl (.pair .str (.pair .str .unit))) .unit) a0.2.2.2.2.2.2.1 : Int) < 0
  · simp only [if_pos q0, show decide ((-1 : Int) < 0) = true from rfl, cond_true]; try rw [if_pos (by omega)]
  · simp only [if_neg q0, decide_eq_false q0, cond_false]
    try rw [if_neg q0]
theorem en_laws_szStore (a0 : Int × Int × Int × (Int × Int × Int × Int × Unit) × Int × Int × ((List (ByteArray × ByteArray × Unit)) × Unit) × Unit) (a1 : Int) : evalF Try.prog ta_laws_szStore pa_laws_szStore sg_laws_szStore Try.f8 noL (a0, a1, ()) = de_laws_szStore a0 a1 := by kernel_rfl
theorem si_laws_szStore : SigsOk Try.prog ta_laws_szStore := SigsOk.of fun f sd h => by
  try dsimp only [Tb.of, ta_laws_szStore] at h
  split at h
  · rename_i e; subst e; cases h; exact sn_laws_szState
  cases h
theorem sn_laws_szStore : Callable Try.prog 8 ∧ Sound Try.prog 8 sd_laws_szStore.sg sd_laws_szStore.den :=
  fn_plain (pat := pa_laws_szStore) (by kernel_rfl) si_laws_szStore Try.func8 (by kernel_rfl) (by kernel_rfl) (by kernel_rfl) fun x r h => by
    obtain ⟨a0, a1, ⟨⟩⟩ := x; obtain ⟨y, h1, h2⟩ := Option.bind_eq_some_iff.1 (show (m_laws_szStore a0 a1).bind (fun r => some ((r, ()), (()))) = some r from h); cases h2; exact (en_laws_szStore a0 a1).trans (eq_laws_szStore a0 a1 _ h1)
def m_laws_szStringS (a : List ByteArray) (left : Int) : Option Int := szM (.sl .str) a left
def sg_laws_szStringS : Sig := ⟨[.rd (.sl .str), .rd (.int .i64)], [none, none], [.rd (.int .i64)], [none]⟩
noncomputable def sd_laws_szStringS : SD := ⟨sg_laws_szStringS, fun x => (m_laws_szStringS x.1 x.2.1).bind fun r => some ((r, ()), (()))⟩
noncomputable def ta_laws_szStringS : Tb := Tb.of fun f => none
def pa_laws_szStringS : Nat → Pat × (Nat → Pat) := fun k => if k = 6 then (⟨[.sl 0 0 .str], [(0, .lf (.d (.sl .str))), (1, .lf (.d (.int .i64))), (5, .lf (.d (.int .i64)))], []⟩, fun e => if e = 1 then ⟨[], [(4, .lf (.d (.int .i64)))], []⟩ else if e = 2 then ⟨[], [(1, .lf (.d (.int .i64)))], []⟩ else ⟨[], [], []⟩) else (⟨[], [], []⟩, fun _ => ⟨[], [], []⟩)
noncomputable def co_laws_szStringS_6 : Code := (loopsIn (bodyOf Try.f75)).getD 0 .skip
def fu_laws_szStringS_6 (v0 : List ByteArray) (v1 : Int) (v5 : Int) : Nat := ((v0.length : Int) - v5).toNat + 1
noncomputable def tr_laws_szStringS_6 {R : Type}  (NX : ((List ByteArray) × (Int) × (Int) × Unit) → Option R) (X2 : ((Int) × Unit) → Option R) (X1 : ((Int) × Unit) → Option R) (v0 : List ByteArray) (v1 : Int) (v5 : Int) : Option R :=
  bif decide (v5 < nI (List.length v0)) then
    bif decide (0 ≤ v5) then
      bif decide (v5 < nI (List.length v0)) then
        bif decide (IntKind.wrap IntKind.i64 (v1 - nI (ByteArray.size (List.getD v0 (Int.toNat v5) (ByteArray.mk #[])))) < 0) then X1 (-1, ())
        else NX (v0, IntKind.wrap IntKind.i64 (v1 - nI (ByteArray.size (List.getD v0 (Int.toNat v5) (ByteArray.mk #[])))), IntKind.wrap IntKind.i64 (v5 + 1), ())
      else none
    else none
  else X2 (v1, ())
noncomputable def lo_laws_szStringS_6 : Nat → (List ByteArray) → (Int) → (Int) →  Option (((Int) × Unit) ⊕ ((Int) × Unit))
  | 0, _, _, _ => none
  | m + 1, v0, v1, v5 => tr_laws_szStringS_6  (fun d => lo_laws_szStringS_6 m d.1 d.2.1 d.2.2.1) (fun d => some (.inl (d))) (fun d => some (.inr (d))) v0 v1 v5
theorem na_laws_szStringS_6 {R S : Type}  (NX : ((List ByteArray) × (Int) × (Int) × Unit) → Option R) (X2 : ((Int) × Unit) → Option R) (X1 : ((Int) × Unit) → Option R) (v0 : List ByteArray) (v1 : Int) (v5 : Int) (f : R → Option S) : tr_laws_szStringS_6  (fun d => (NX d).bind f) (fun d => (X2 d).bind f) (fun d => (X1 d).bind f) v0 v1 v5 = (tr_laws_szStringS_6  NX X2 X1 v0 v1 v5).bind f := by
  unfold tr_laws_szStringS_6
  simp only [cond_bind, ite_bind, onSum_bind, Option.bind_assoc, Option.bind_none, Option.bind_some]
noncomputable def de_laws_szStringS (a0 : List ByteArray) (a1 : Int) : Option ((((Int) × Unit) × (Unit))) :=
  bif decide (IntKind.wrap IntKind.i64 (a1 - nI (List.length a0)) < 0) then some ((-1, ()), ())
  else Option.bind ((fun d => lo_laws_szStringS_6 (fu_laws_szStringS_6 d.1 d.2.1 d.2.2.1) d.1 d.2.1 d.2.2.1) (a0, IntKind.wrap IntKind.i64 (a1 - nI (List.length a0)), 0, ())) fun val => onSum (fun val => some ((val.fst, ()), ())) (fun val => some ((val.fst, ()), ())) val
theorem eq_laws_szStringS (a0 : List ByteArray) (a1 : Int) r (h : m_laws_szStringS a0 a1 = some r) : de_laws_szStringS a0 a1 = some ((r, ()), (())) := by
  obtain ⟨hc, g0, g1, rfl⟩ := szM_some (t := .sl .str) h
  obtain ⟨hl0, hall⟩ := fineB_sl hc
  have hl : a0.length < 1152921504606846976 := hl0
  clear hl0 hc
  · unfold de_laws_szStringS
    have hw1 : IntKind.i64.wrap (a1 - nI a0.length) = a1 - (a0.length : Int) := wrap_ok (by simp only [nI]; omega) (by simp only [nI]; omega)
    rw [hw1]
    have hL := sz_loop (xs := a0) (ByteArray.mk #[]) ByteArray.size (g := fun m l i => lo_laws_szStringS_6 m a0 l i) (ok := fun l => .inl (l, ())) (bad := .inr (-1, ())) (fun m i l hi h0 h1 => by
      show lo_laws_szStringS_6 (m + 1) a0 l i = _
      simp only [lo_laws_szStringS_6, tr_laws_szStringS_6]
      rw [cLt hi, cLe0, wI (by omega)]
      simp only [cond_true, Int.toNat_natCast]
      have hf : ByteArray.size (List.getD (α := ByteArray) a0 i (ByteArray.mk #[])) < 1152921504606846976 := fineB_str (hall _ (getD_mem (ByteArray.mk #[]) hi))
      have hw : IntKind.i64.wrap (l - nI (ByteArray.size (List.getD (α := ByteArray) a0 i (ByteArray.mk #[])))) = l - (ByteArray.size (List.getD (α := ByteArray) a0 i (ByteArray.mk #[])) : Int) := wrap_ok (by simp only [nI]; omega) (by simp only [nI]; omega)
      simp only [hw]
    ) (fun m l => by
      show lo_laws_szStringS_6 (m + 1) a0 l a0.length = _
      simp only [lo_laws_szStringS_6, tr_laws_szStringS_6]
      rw [cLtF]
      rfl) (fu_laws_szStringS_6 a0 (a1 - (a0.length : Int)) 0) 0 (a1 - (a0.length : Int)) (by omega) (by simp [fu_laws_szStringS_6])
    have hW : wt (.sl .str) a0 = a0.length + (a0.map ByteArray.size).sum := rfl
    rw [hW]
    by_cases q : a1 - (a0.length : Int) < 0
    · simp only [decide_eq_true q, cond_true]; rw [if_pos (by omega)]
    · simp only [decide_eq_false q, cond_false]
      have hL := hL (by omega) (by omega)
      rw [List.drop_zero] at hL
      show (lo_laws_szStringS_6 (fu_laws_szStringS_6 a0 (a1 - (a0.length : Int)) 0) a0 (a1 - (a0.length : Int)) 0).bind _ = _
      have hL' : lo_laws_szStringS_6 (fu_laws_szStringS_6 a0 (a1 - (a0.length : Int)) 0) a0 (a1 - (a0.length : Int)) 0 = _ := hL
      rw [hL']
      have hsum : a1 - ((a0.length + (a0.map ByteArray.size).sum : Nat) : Int) = a1 - (a0.length : Int) - ((a0.map ByteArray.size).sum : Int) := by omega
      rw [hsum]
      by_cases q2 : a1 - (a0.length : Int) - ((a0.map ByteArray.size).sum : Int) < 0
      · simp only [if_pos q2]; rfl
      · simp only [if_neg q2]; rfl
noncomputable def ou_laws_szStringS_6 {R : Type} (k : Kt R) : (((Int) × Unit) ⊕ ((Int) × Unit)) → Option R := (onSum (fun d => k (.exit 0) (((pa_laws_szStringS 6).2 2).st d) (((pa_laws_szStringS 6).2 2).nid)) (fun d => k .ret (((pa_laws_szStringS 6).2 1).st d) (((pa_laws_szStringS 6).2 1).nid)))
noncomputable def L_laws_szStringS {R : Type} : Lt R pa_laws_szStringS := (addL (pat := pa_laws_szStringS) 6 (fun d k => (lo_laws_szStringS_6 (fu_laws_szStringS_6 d.1 d.2.1 d.2.2.1) d.1 d.2.1 d.2.2.1).bind (ou_laws_szStringS_6 k)) noL)
theorem rd_laws_szStringS_6 {R : Type} (nx : (pa_laws_szStringS 6).1.D → Kt R → Option R) (k : Kt R) (v0 : List ByteArray) (v1 : Int) (v5 : Int) : ev Try.prog ⟨ta_laws_szStringS, 0, 28, pa_laws_szStringS⟩ L_laws_szStringS co_laws_szStringS_6 ((pa_laws_szStringS 6).1.st (v0, v1, v5, ())) (pa_laws_szStringS 6).1.nid (roundK 0 (pa_laws_szStringS 6) nx k) = tr_laws_szStringS_6  (fun d => nx d k) (fun d => k (.exit 0) (((pa_laws_szStringS 6).2 2).st d) (((pa_laws_szStringS 6).2 2).nid)) (fun d => k .ret (((pa_laws_szStringS 6).2 1).st d) (((pa_laws_szStringS 6).2 1).nid)) v0 v1 v5 := by kernel_rfl
theorem lp_laws_szStringS_6 {R : Type} : ∀ (m : Nat) (d : (pa_laws_szStringS 6).1.D) (k : Kt R), loopN 0 (pa_laws_szStringS 6) (fun s nid k => ev Try.prog ⟨ta_laws_szStringS, 0, 28, pa_laws_szStringS⟩ L_laws_szStringS co_laws_szStringS_6 s nid k) m d k = (lo_laws_szStringS_6 m d.1 d.2.1 d.2.2.1).bind (ou_laws_szStringS_6 k)
  | 0, _, _ => rfl
  | m + 1, ⟨v0, v1, v5, ⟨⟩⟩, k => (rd_laws_szStringS_6 _ k v0 v1 v5).trans ((congrArg (fun F => tr_laws_szStringS_6  F (fun d => k (.exit 0) (((pa_laws_szStringS 6).2 2).st d) (((pa_laws_szStringS 6).2 2).nid)) (fun d => k .ret (((pa_laws_szStringS 6).2 1).st d) (((pa_laws_szStringS 6).2 1).nid)) v0 v1 v5) (funext fun d => lp_laws_szStringS_6 m d k)).trans (na_laws_szStringS_6 (f := ou_laws_szStringS_6 k)  (fun d => lo_laws_szStringS_6 m d.1 d.2.1 d.2.2.1) (fun d => some (.inl (d))) (fun d => some (.inr (d))) v0 v1 v5))
theorem en_laws_szStringS (a0 : List ByteArray) (a1 : Int) : evalF Try.prog ta_laws_szStringS pa_laws_szStringS sg_laws_szStringS Try.f75 L_laws_szStringS (a0, a1, ()) = de_laws_szStringS a0 a1 := by kernel_rfl
theorem si_laws_szStringS : SigsOk Try.prog ta_laws_szStringS := SigsOk.of fun f sd h => by
  try dsimp only [Tb.of, ta_laws_szStringS] at h
  cases h
theorem lk_laws_szStringS_6 {R : Type} : LoopOk Try.prog R 28 0 pa_laws_szStringS L_laws_szStringS co_laws_szStringS_6 :=
  loop_key (cfg := ⟨ta_laws_szStringS, 0, 28, pa_laws_szStringS⟩) (key := 6) (by kernel_rfl) (by kernel_rfl) si_laws_szStringS rfl rfl (fun d k r h => ⟨fu_laws_szStringS_6 d.1 d.2.1 d.2.2.1, (lp_laws_szStringS_6 _ d k).trans h⟩) (fun c hc => by rw [show loopsIn co_laws_szStringS_6 = [] from by kernel_rfl] at hc; cases hc)
theorem sn_laws_szStringS : Callable Try.prog 75 ∧ Sound Try.prog 75 sd_laws_szStringS.sg sd_laws_szStringS.den :=
  fn_loops (pat := pa_laws_szStringS) L_laws_szStringS (by kernel_rfl) si_laws_szStringS Try.func75 (by kernel_rfl) (by kernel_rfl) (fun c hc => by rw [show loopsIn (bodyOf Try.f75) = [co_laws_szStringS_6] from by kernel_rfl] at hc; simp only [List.mem_cons, List.not_mem_nil, or_false] at hc; rcases hc with rfl <;> first | exact lk_laws_szStringS_6) fun x r h => by
    obtain ⟨a0, a1, ⟨⟩⟩ := x; obtain ⟨y, h1, h2⟩ := Option.bind_eq_some_iff.1 (show (m_laws_szStringS a0 a1).bind (fun r => some ((r, ()), (()))) = some r from h); cases h2; exact (en_laws_szStringS a0 a1).trans (eq_laws_szStringS a0 a1 _ h1)
def m_laws_szWrite (a : Int × ByteArray × Unit) (left : Int) : Option Int := szM (.pair (.int .i64) (.pair .str .unit)) a left
def sg_laws_szWrite : Sig := ⟨[.rd (.pair (.int .i64) (.pair .str .unit)), .rd (.int .i64)], [some 2, none], [.rd (.int .i64)], [none]⟩
noncomputable def sd_laws_szWrite : SD := ⟨sg_laws_szWrite, fun x => (m_laws_szWrite x.1 x.2.1).bind fun r => some ((r, ()), (()))⟩
noncomputable def ta_laws_szWrite : Tb := Tb.of fun f => none
def pa_laws_szWrite : Nat → Pat × (Nat → Pat) := fun k => (⟨[], [], []⟩, fun _ => ⟨[], [], []⟩)
noncomputable def de_laws_szWrite (a0 : Int × ByteArray × Unit) (a1 : Int) : Option ((((Int) × Unit) × (Unit))) :=
  bif decide (IntKind.wrap IntKind.i64 (a1 - nI (ByteArray.size a0.snd.fst)) < 0) then some ((-1, ()), ()) else some ((IntKind.wrap IntKind.i64 (a1 - nI (ByteArray.size a0.snd.fst)), ()), ())
theorem eq_laws_szWrite (a0 : Int × ByteArray × Unit) (a1 : Int) r (h : m_laws_szWrite a0 a1 = some r) : de_laws_szWrite a0 a1 = some ((r, ()), (())) := by
  obtain ⟨hc, g0, g1, rfl⟩ := szM_some (t := (.pair (.int .i64) (.pair .str .unit))) h
  obtain ⟨hc0, hc1, _⟩ : fineB (.int .i64) a0.1 = true ∧ fineB .str a0.2.1 = true ∧ True := by
    have s := hc
    obtain ⟨h0, s⟩ := fineB_pair s
    obtain ⟨h1, s⟩ := fineB_pair s
    exact ⟨h0, h1, trivial⟩
  unfold de_laws_szWrite
  have hwt : (wt (.pair (.int .i64) (.pair .str .unit)) a0 : Int) = (ByteArray.size a0.2.1 : Int) := by simp only [wt]; omega
  rw [hwt]
  have hs0 : ByteArray.size a0.2.1 < 1152921504606846976 := fineB_str hc1
  have e0 : IntKind.i64.wrap (a1 - nI (ByteArray.size a0.2.1)) = a1 - (ByteArray.size a0.2.1 : Int) := wrap_ok (by simp only [nI]; omega) (by simp only [nI]; omega)
  simp only [e0]
  by_cases q0 : a1 - (ByteArray.size a0.2.1 : Int) < 0
  · simp only [decide_eq_true q0, cond_true]; try rw [if_pos (by omega)]
  · simp only [decide_eq_false q0, cond_false]
    try rw [if_neg q0]
theorem en_laws_szWrite (a0 : Int × ByteArray × Unit) (a1 : Int) : evalF Try.prog ta_laws_szWrite pa_laws_szWrite sg_laws_szWrite Try.f167 noL (a0, a1, ()) = de_laws_szWrite a0 a1 := by kernel_rfl
theorem si_laws_szWrite : SigsOk Try.prog ta_laws_szWrite := SigsOk.of fun f sd h => by
  try dsimp only [Tb.of, ta_laws_szWrite] at h
  cases h
theorem sn_laws_szWrite : Callable Try.prog 167 ∧ Sound Try.prog 167 sd_laws_szWrite.sg sd_laws_szWrite.den :=
  fn_plain (pat := pa_laws_szWrite) (by kernel_rfl) si_laws_szWrite Try.func167 (by kernel_rfl) (by kernel_rfl) (by kernel_rfl) fun x r h => by
    obtain ⟨a0, a1, ⟨⟩⟩ := x; obtain ⟨y, h1, h2⟩ := Option.bind_eq_some_iff.1 (show (m_laws_szWrite a0 a1).bind (fun r => some ((r, ()), (()))) = some r from h); cases h2; exact (en_laws_szWrite a0 a1).trans (eq_laws_szWrite a0 a1 _ h1)
def m_laws_szWriteS (a : List (Int × ByteArray × Unit)) (left : Int) : Option Int := szM (.sl (.pair (.int .i64) (.pair .str .unit))) a left
def sg_laws_szWriteS : Sig := ⟨[.rd (.sl (.pair (.int .i64) (.pair .str .unit))), .rd (.int .i64)], [none, none], [.rd (.int .i64)], [none]⟩
noncomputable def sd_laws_szWriteS : SD := ⟨sg_laws_szWriteS, fun x => (m_laws_szWriteS x.1 x.2.1).bind fun r => some ((r, ()), (()))⟩
noncomputable def ta_laws_szWriteS : Tb := Tb.of fun f => if f = 167 then some sd_laws_szWrite else none
def pa_laws_szWriteS : Nat → Pat × (Nat → Pat) := fun k => if k = 6 then (⟨[.sl 0 0 (.pair (.int .i64) (.pair .str .unit))], [(0, .lf (.d (.sl (.pair (.int .i64) (.pair .str .unit))))), (1, .lf (.d (.int .i64))), (5, .lf (.d (.int .i64)))], []⟩, fun e => if e = 1 then ⟨[], [(4, .lf (.d (.int .i64)))], []⟩ else if e = 2 then ⟨[], [(1, .lf (.d (.int .i64)))], []⟩ else ⟨[], [], []⟩) else (⟨[], [], []⟩, fun _ => ⟨[], [], []⟩)
noncomputable def co_laws_szWriteS_6 : Code := (loopsIn (bodyOf Try.f134)).getD 0 .skip
def fu_laws_szWriteS_6 (v0 : List (Int × ByteArray × Unit)) (v1 : Int) (v5 : Int) : Nat := ((v0.length : Int) - v5).toNat + 1
noncomputable def tr_laws_szWriteS_6 {R : Type}  (NX : ((List (Int × ByteArray × Unit)) × (Int) × (Int) × Unit) → Option R) (X2 : ((Int) × Unit) → Option R) (X1 : ((Int) × Unit) → Option R) (v0 : List (Int × ByteArray × Unit)) (v1 : Int) (v5 : Int) : Option R :=
  bif decide (v5 < nI (List.length v0)) then
    bif decide (0 ≤ v5) then
      bif decide (v5 < nI (List.length v0)) then
        Option.bind
          (Option.bind (m_laws_szWrite ((List.getD v0 (Int.toNat v5) (0, ByteArray.mk #[], ())).fst, (List.getD v0 (Int.toNat v5) (0, ByteArray.mk #[], ())).snd.fst, ()) v1) fun val =>
            some ((val, ()), ()))
          fun val => bif decide (val.fst.fst < 0) then X1 (-1, ()) else NX (v0, val.fst.fst, IntKind.wrap IntKind.i64 (v5 + 1), ())
      else none
    else none
  else X2 (v1, ())
noncomputable def lo_laws_szWriteS_6 : Nat → (List (Int × ByteArray × Unit)) → (Int) → (Int) →  Option (((Int) × Unit) ⊕ ((Int) × Unit))
  | 0, _, _, _ => none
  | m + 1, v0, v1, v5 => tr_laws_szWriteS_6  (fun d => lo_laws_szWriteS_6 m d.1 d.2.1 d.2.2.1) (fun d => some (.inl (d))) (fun d => some (.inr (d))) v0 v1 v5
theorem na_laws_szWriteS_6 {R S : Type}  (NX : ((List (Int × ByteArray × Unit)) × (Int) × (Int) × Unit) → Option R) (X2 : ((Int) × Unit) → Option R) (X1 : ((Int) × Unit) → Option R) (v0 : List (Int × ByteArray × Unit)) (v1 : Int) (v5 : Int) (f : R → Option S) : tr_laws_szWriteS_6  (fun d => (NX d).bind f) (fun d => (X2 d).bind f) (fun d => (X1 d).bind f) v0 v1 v5 = (tr_laws_szWriteS_6  NX X2 X1 v0 v1 v5).bind f := by
  unfold tr_laws_szWriteS_6
  simp only [cond_bind, ite_bind, onSum_bind, Option.bind_assoc, Option.bind_none, Option.bind_some]
noncomputable def de_laws_szWriteS (a0 : List (Int × ByteArray × Unit)) (a1 : Int) : Option ((((Int) × Unit) × (Unit))) :=
  bif decide (IntKind.wrap IntKind.i64 (a1 - nI (List.length a0)) < 0) then some ((-1, ()), ())
  else Option.bind ((fun d => lo_laws_szWriteS_6 (fu_laws_szWriteS_6 d.1 d.2.1 d.2.2.1) d.1 d.2.1 d.2.2.1) (a0, IntKind.wrap IntKind.i64 (a1 - nI (List.length a0)), 0, ())) fun val => onSum (fun val => some ((val.fst, ()), ())) (fun val => some ((val.fst, ()), ())) val
theorem eq_laws_szWriteS (a0 : List (Int × ByteArray × Unit)) (a1 : Int) r (h : m_laws_szWriteS a0 a1 = some r) : de_laws_szWriteS a0 a1 = some ((r, ()), (())) := by
  obtain ⟨hc, g0, g1, rfl⟩ := szM_some (t := .sl (.pair (.int .i64) (.pair .str .unit))) h
  obtain ⟨hl0, hall⟩ := fineB_sl hc
  have hl : a0.length < 1152921504606846976 := hl0
  clear hl0 hc
  · unfold de_laws_szWriteS
    have hw1 : IntKind.i64.wrap (a1 - nI a0.length) = a1 - (a0.length : Int) := wrap_ok (by simp only [nI]; omega) (by simp only [nI]; omega)
    rw [hw1]
    have hL := sz_loop (xs := a0) (0, (ByteArray.mk #[]), ()) (fun x : Int × ByteArray × Unit => wt (.pair (.int .i64) (.pair .str .unit)) x) (g := fun m l i => lo_laws_szWriteS_6 m a0 l i) (ok := fun l => .inl (l, ())) (bad := .inr (-1, ())) (fun m i l hi h0 h1 => by
      show lo_laws_szWriteS_6 (m + 1) a0 l i = _
      simp only [lo_laws_szWriteS_6, tr_laws_szWriteS_6]
      rw [cLt hi, cLe0, wI (by omega)]
      simp only [cond_true, Int.toNat_natCast]
      have hE : m_laws_szWrite ((List.getD (α := Int × ByteArray × Unit) a0 i (0, (ByteArray.mk #[]), ())).fst, (List.getD (α := Int × ByteArray × Unit) a0 i (0, (ByteArray.mk #[]), ())).snd.fst, ()) l = some (if l - (wt (.pair (.int .i64) (.pair .str .unit)) (List.getD (α := Int × ByteArray × Unit) a0 i (0, (ByteArray.mk #[]), ())) : Int) < 0 then -1 else l - wt (.pair (.int .i64) (.pair .str .unit)) (List.getD (α := Int × ByteArray × Unit) a0 i (0, (ByteArray.mk #[]), ()))) := by
        exact szM_is (t := (.pair (.int .i64) (.pair .str .unit))) (x := (List.getD (α := Int × ByteArray × Unit) a0 i (0, (ByteArray.mk #[]), ()))) (hall _ (getD_mem (0, (ByteArray.mk #[]), ()) hi)) h0 h1
      rw [hE]
      by_cases q : l - (wt (.pair (.int .i64) (.pair .str .unit)) (List.getD (α := Int × ByteArray × Unit) a0 i (0, (ByteArray.mk #[]), ())) : Int) < 0
      · simp only [if_pos q, decide_eq_true q, Option.bind_some, cond_true]; rfl
      · simp only [if_neg q, decide_eq_false q, Option.bind_some, cond_false]
    ) (fun m l => by
      show lo_laws_szWriteS_6 (m + 1) a0 l a0.length = _
      simp only [lo_laws_szWriteS_6, tr_laws_szWriteS_6]
      rw [cLtF]
      rfl) (fu_laws_szWriteS_6 a0 (a1 - (a0.length : Int)) 0) 0 (a1 - (a0.length : Int)) (by omega) (by simp [fu_laws_szWriteS_6])
    have hW : wt (.sl (.pair (.int .i64) (.pair .str .unit))) a0 = a0.length + (a0.map (fun x : Int × ByteArray × Unit => wt (.pair (.int .i64) (.pair .str .unit)) x)).sum := rfl
    rw [hW]
    by_cases q : a1 - (a0.length : Int) < 0
    · simp only [decide_eq_true q, cond_true]; rw [if_pos (by omega)]
    · simp only [decide_eq_false q, cond_false]
      have hL := hL (by omega) (by omega)
      rw [List.drop_zero] at hL
      show (lo_laws_szWriteS_6 (fu_laws_szWriteS_6 a0 (a1 - (a0.length : Int)) 0) a0 (a1 - (a0.length : Int)) 0).bind _ = _
      have hL' : lo_laws_szWriteS_6 (fu_laws_szWriteS_6 a0 (a1 - (a0.length : Int)) 0) a0 (a1 - (a0.length : Int)) 0 = _ := hL
      rw [hL']
      have hsum : a1 - ((a0.length + (a0.map (fun x : Int × ByteArray × Unit => wt (.pair (.int .i64) (.pair .str .unit)) x)).sum : Nat) : Int) = a1 - (a0.length : Int) - ((a0.map (fun x : Int × ByteArray × Unit => wt (.pair (.int .i64) (.pair .str .unit)) x)).sum : Int) := by omega
      rw [hsum]
      by_cases q2 : a1 - (a0.length : Int) - ((a0.map (fun x : Int × ByteArray × Unit => wt (.pair (.int .i64) (.pair .str .unit)) x)).sum : Int) < 0
      · simp only [if_pos q2]; rfl
      · simp only [if_neg q2]; rfl
noncomputable def ou_laws_szWriteS_6 {R : Type} (k : Kt R) : (((Int) × Unit) ⊕ ((Int) × Unit)) → Option R := (onSum (fun d => k (.exit 0) (((pa_laws_szWriteS 6).2 2).st d) (((pa_laws_szWriteS 6).2 2).nid)) (fun d => k .ret (((pa_laws_szWriteS 6).2 1).st d) (((pa_laws_szWriteS 6).2 1).nid)))
noncomputable def L_laws_szWriteS {R : Type} : Lt R pa_laws_szWriteS := (addL (pat := pa_laws_szWriteS) 6 (fun d k => (lo_laws_szWriteS_6 (fu_laws_szWriteS_6 d.1 d.2.1 d.2.2.1) d.1 d.2.1 d.2.2.1).bind (ou_laws_szWriteS_6 k)) noL)
theorem rd_laws_szWriteS_6 {R : Type} (nx : (pa_laws_szWriteS 6).1.D → Kt R → Option R) (k : Kt R) (v0 : List (Int × ByteArray × Unit)) (v1 : Int) (v5 : Int) : ev Try.prog ⟨ta_laws_szWriteS, 0, 27, pa_laws_szWriteS⟩ L_laws_szWriteS co_laws_szWriteS_6 ((pa_laws_szWriteS 6).1.st (v0, v1, v5, ())) (pa_laws_szWriteS 6).1.nid (roundK 0 (pa_laws_szWriteS 6) nx k) = tr_laws_szWriteS_6  (fun d => nx d k) (fun d => k (.exit 0) (((pa_laws_szWriteS 6).2 2).st d) (((pa_laws_szWriteS 6).2 2).nid)) (fun d => k .ret (((pa_laws_szWriteS 6).2 1).st d) (((pa_laws_szWriteS 6).2 1).nid)) v0 v1 v5 := by kernel_rfl
theorem lp_laws_szWriteS_6 {R : Type} : ∀ (m : Nat) (d : (pa_laws_szWriteS 6).1.D) (k : Kt R), loopN 0 (pa_laws_szWriteS 6) (fun s nid k => ev Try.prog ⟨ta_laws_szWriteS, 0, 27, pa_laws_szWriteS⟩ L_laws_szWriteS co_laws_szWriteS_6 s nid k) m d k = (lo_laws_szWriteS_6 m d.1 d.2.1 d.2.2.1).bind (ou_laws_szWriteS_6 k)
  | 0, _, _ => rfl
  | m + 1, ⟨v0, v1, v5, ⟨⟩⟩, k => (rd_laws_szWriteS_6 _ k v0 v1 v5).trans ((congrArg (fun F => tr_laws_szWriteS_6  F (fun d => k (.exit 0) (((pa_laws_szWriteS 6).2 2).st d) (((pa_laws_szWriteS 6).2 2).nid)) (fun d => k .ret (((pa_laws_szWriteS 6).2 1).st d) (((pa_laws_szWriteS 6).2 1).nid)) v0 v1 v5) (funext fun d => lp_laws_szWriteS_6 m d k)).trans (na_laws_szWriteS_6 (f := ou_laws_szWriteS_6 k)  (fun d => lo_laws_szWriteS_6 m d.1 d.2.1 d.2.2.1) (fun d => some (.inl (d))) (fun d => some (.inr (d))) v0 v1 v5))
theorem en_laws_szWriteS (a0 : List (Int × ByteArray × Unit)) (a1 : Int) : evalF Try.prog ta_laws_szWriteS pa_laws_szWriteS sg_laws_szWriteS Try.f134 L_laws_szWriteS (a0, a1, ()) = de_laws_szWriteS a0 a1 := by kernel_rfl
theorem si_laws_szWriteS : SigsOk Try.prog ta_laws_szWriteS := SigsOk.of fun f sd h => by
  try dsimp only [Tb.of, ta_laws_szWriteS] at h
  split at h
  · rename_i e; subst e; cases h; exact sn_laws_szWrite
  cases h
theorem lk_laws_szWriteS_6 {R : Type} : LoopOk Try.prog R 27 0 pa_laws_szWriteS L_laws_szWriteS co_laws_szWriteS_6 :=
  loop_key (cfg := ⟨ta_laws_szWriteS, 0, 27, pa_laws_szWriteS⟩) (key := 6) (by kernel_rfl) (by kernel_rfl) si_laws_szWriteS rfl rfl (fun d k r h => ⟨fu_laws_szWriteS_6 d.1 d.2.1 d.2.2.1, (lp_laws_szWriteS_6 _ d k).trans h⟩) (fun c hc => by rw [show loopsIn co_laws_szWriteS_6 = [] from by kernel_rfl] at hc; cases hc)
theorem sn_laws_szWriteS : Callable Try.prog 134 ∧ Sound Try.prog 134 sd_laws_szWriteS.sg sd_laws_szWriteS.den :=
  fn_loops (pat := pa_laws_szWriteS) L_laws_szWriteS (by kernel_rfl) si_laws_szWriteS Try.func134 (by kernel_rfl) (by kernel_rfl) (fun c hc => by rw [show loopsIn (bodyOf Try.f134) = [co_laws_szWriteS_6] from by kernel_rfl] at hc; simp only [List.mem_cons, List.not_mem_nil, or_false] at hc; rcases hc with rfl <;> first | exact lk_laws_szWriteS_6) fun x r h => by
    obtain ⟨a0, a1, ⟨⟩⟩ := x; obtain ⟨y, h1, h2⟩ := Option.bind_eq_some_iff.1 (show (m_laws_szWriteS a0 a1).bind (fun r => some ((r, ()), (()))) = some r from h); cases h2; exact (en_laws_szWriteS a0 a1).trans (eq_laws_szWriteS a0 a1 _ h1)
def m_laws_szDisk (a : (List ByteArray) × (List (Int × ByteArray × Unit)) × Unit) (left : Int) : Option Int := szM (.pair (.sl .str) (.pair (.sl (.pair (.int .i64) (.pair .str .unit))) .unit)) a left
def sg_laws_szDisk : Sig := ⟨[.rd (.pair (.sl .str) (.pair (.sl (.pair (.int .i64) (.pair .str .unit))) .unit)), .rd (.int .i64)], [some 2, none], [.rd (.int .i64)], [none]⟩
noncomputable def sd_laws_szDisk : SD := ⟨sg_laws_szDisk, fun x => (m_laws_szDisk x.1 x.2.1).bind fun r => some ((r, ()), (()))⟩
noncomputable def ta_laws_szDisk : Tb := Tb.of fun f => if f = 75 then some sd_laws_szStringS else if f = 134 then some sd_laws_szWriteS else none
def pa_laws_szDisk : Nat → Pat × (Nat → Pat) := fun k => (⟨[], [], []⟩, fun _ => ⟨[], [], []⟩)
noncomputable def de_laws_szDisk (a0 : (List ByteArray) × (List (Int × ByteArray × Unit)) × Unit) (a1 : Int) : Option ((((Int) × Unit) × (Unit))) :=
  Option.bind (Option.bind (m_laws_szStringS a0.fst a1) fun val => some ((val, ()), ())) fun val =>
    bif decide (val.fst.fst < 0) then some ((-1, ()), ())
    else
      Option.bind (Option.bind (m_laws_szWriteS a0.snd.fst val.fst.fst) fun val => some ((val, ()), ())) fun val =>
        bif decide (val.fst.fst < 0) then some ((-1, ()), ()) else some ((val.fst.fst, ()), ())
theorem eq_laws_szDisk (a0 : (List ByteArray) × (List (Int × ByteArray × Unit)) × Unit) (a1 : Int) r (h : m_laws_szDisk a0 a1 = some r) : de_laws_szDisk a0 a1 = some ((r, ()), (())) := by
  obtain ⟨hc, g0, g1, rfl⟩ := szM_some (t := (.pair (.sl .str) (.pair (.sl (.pair (.int .i64) (.pair .str .unit))) .unit))) h
  obtain ⟨hc0, hc1, _⟩ : fineB (.sl .str) a0.1 = true ∧ fineB (.sl (.pair (.int .i64) (.pair .str .unit))) a0.2.1 = true ∧ True := by
    have s := hc
    obtain ⟨h0, s⟩ := fineB_pair s
    obtain ⟨h1, s⟩ := fineB_pair s
    exact ⟨h0, h1, trivial⟩
  unfold de_laws_szDisk
  have hwt : (wt (.pair (.sl .str) (.pair (.sl (.pair (.int .i64) (.pair .str .unit))) .unit)) a0 : Int) = (wt (.sl .str) a0.1 : Int) + (wt (.sl (.pair (.int .i64) (.pair .str .unit))) a0.2.1 : Int) := by simp only [wt]; omega
  rw [hwt]
  have e0 : m_laws_szStringS a0.1 (a1) = some (if a1 - (wt (.sl .str) a0.1 : Int) < 0 then -1 else a1 - (wt (.sl .str) a0.1 : Int)) := szM_is (t := (.sl .str)) (x := a0.1) hc0 (by omega) (by omega)
  simp only [show m_laws_szStringS a0.1 (a1) = _ from e0, Option.bind_some]
  by_cases q0 : a1 - (wt (.sl .str) a0.1 : Int) < 0
  · simp only [if_pos q0, show decide ((-1 : Int) < 0) = true from rfl, cond_true]; try rw [if_pos (by omega)]
  · simp only [if_neg q0, decide_eq_false q0, cond_false]
    have e1 : m_laws_szWriteS a0.2.1 (a1 - (wt (.sl .str) a0.1 : Int)) = some (if a1 - (wt (.sl .str) a0.1 : Int) - (wt (.sl (.pair (.int .i64) (.pair .str .unit))) a0.2.1 : Int) < 0 then -1 else a1 - (wt (.sl .str) a0.1 : Int) - (wt (.sl (.pair (.int .i64) (.pair .str .unit))) a0.2.1 : Int)) := szM_is (t := (.sl (.pair (.int .i64) (.pair .str .unit)))) (x := a0.2.1) hc1 (by omega) (by omega)
    simp only [show m_laws_szWriteS a0.2.1 (a1 - (wt (.sl .str) a0.1 : Int)) = _ from e1, Option.bind_some]
    by_cases q1 : a1 - (wt (.sl .str) a0.1 : Int) - (wt (.sl (.pair (.int .i64) (.pair .str .unit))) a0.2.1 : Int) < 0
    · simp only [if_pos q1, show decide ((-1 : Int) < 0) = true from rfl, cond_true]; try rw [if_pos (by omega)]
    · simp only [if_neg q1, decide_eq_false q1, cond_false]
      rw [if_neg (by omega)]
      simp only [Int.sub_sub, Int.add_assoc]
theorem en_laws_szDisk (a0 : (List ByteArray) × (List (Int × ByteArray × Unit)) × Unit) (a1 : Int) : evalF Try.prog ta_laws_szDisk pa_laws_szDisk sg_laws_szDisk Try.f73 noL (a0, a1, ()) = de_laws_szDisk a0 a1 := by kernel_rfl
theorem si_laws_szDisk : SigsOk Try.prog ta_laws_szDisk := SigsOk.of fun f sd h => by
  try dsimp only [Tb.of, ta_laws_szDisk] at h
  split at h
  · rename_i e; subst e; cases h; exact sn_laws_szStringS
  split at h
  · rename_i e; subst e; cases h; exact sn_laws_szWriteS
  cases h
theorem sn_laws_szDisk : Callable Try.prog 73 ∧ Sound Try.prog 73 sd_laws_szDisk.sg sd_laws_szDisk.den :=
  fn_plain (pat := pa_laws_szDisk) (by kernel_rfl) si_laws_szDisk Try.func73 (by kernel_rfl) (by kernel_rfl) (by kernel_rfl) fun x r h => by
    obtain ⟨a0, a1, ⟨⟩⟩ := x; obtain ⟨y, h1, h2⟩ := Option.bind_eq_some_iff.1 (show (m_laws_szDisk a0 a1).bind (fun r => some ((r, ()), (()))) = some r from h); cases h2; exact (en_laws_szDisk a0 a1).trans (eq_laws_szDisk a0 a1 _ h1)
def m_laws_szStateS (a : List ((List (ByteArray × ByteArray × Unit)) × Unit)) (left : Int) : Option Int := szM (.sl (.pair (.sl (.pair .str (.pair .str .unit))) .unit)) a left
def sg_laws_szStateS : Sig := ⟨[.rd (.sl (.pair (.sl (.pair .str (.pair .str .unit))) .unit)), .rd (.int .i64)], [none, none], [.rd (.int .i64)], [none]⟩
noncomputable def sd_laws_szStateS : SD := ⟨sg_laws_szStateS, fun x => (m_laws_szStateS x.1 x.2.1).bind fun r => some ((r, ()), (()))⟩
noncomputable def ta_laws_szStateS : Tb := Tb.of fun f => if f = 47 then some sd_laws_szState else none
def pa_laws_szStateS : Nat → Pat × (Nat → Pat) := fun k => if k = 6 then (⟨[.sl 0 0 (.pair (.sl (.pair .str (.pair .str .unit))) .unit)], [(0, .lf (.d (.sl (.pair (.sl (.pair .str (.pair .str .unit))) .unit)))), (1, .lf (.d (.int .i64))), (5, .lf (.d (.int .i64)))], []⟩, fun e => if e = 1 then ⟨[], [(4, .lf (.d (.int .i64)))], []⟩ else if e = 2 then ⟨[], [(1, .lf (.d (.int .i64)))], []⟩ else ⟨[], [], []⟩) else (⟨[], [], []⟩, fun _ => ⟨[], [], []⟩)
noncomputable def co_laws_szStateS_6 : Code := (loopsIn (bodyOf Try.f74)).getD 0 .skip
def fu_laws_szStateS_6 (v0 : List ((List (ByteArray × ByteArray × Unit)) × Unit)) (v1 : Int) (v5 : Int) : Nat := ((v0.length : Int) - v5).toNat + 1
noncomputable def tr_laws_szStateS_6 {R : Type}  (NX : ((List ((List (ByteArray × ByteArray × Unit)) × Unit)) × (Int) × (Int) × Unit) → Option R) (X2 : ((Int) × Unit) → Option R) (X1 : ((Int) × Unit) → Option R) (v0 : List ((List (ByteArray × ByteArray × Unit)) × Unit)) (v1 : Int) (v5 : Int) : Option R :=
  bif decide (v5 < nI (List.length v0)) then
    bif decide (0 ≤ v5) then
      bif decide (v5 < nI (List.length v0)) then
        Option.bind (Option.bind (m_laws_szState ((List.getD v0 (Int.toNat v5) ([], ())).fst, ()) v1) fun val => some ((val, ()), ())) fun val =>
          bif decide (val.fst.fst < 0) then X1 (-1, ()) else NX (v0, val.fst.fst, IntKind.wrap IntKind.i64 (v5 + 1), ())
      else none
    else none
  else X2 (v1, ())
noncomputable def lo_laws_szStateS_6 : Nat → (List ((List (ByteArray × ByteArray × Unit)) × Unit)) → (Int) → (Int) →  Option (((Int) × Unit) ⊕ ((Int) × Unit))
  | 0, _, _, _ => none
  | m + 1, v0, v1, v5 => tr_laws_szStateS_6  (fun d => lo_laws_szStateS_6 m d.1 d.2.1 d.2.2.1) (fun d => some (.inl (d))) (fun d => some (.inr (d))) v0 v1 v5
theorem na_laws_szStateS_6 {R S : Type}  (NX : ((List ((List (ByteArray × ByteArray × Unit)) × Unit)) × (Int) × (Int) × Unit) → Option R) (X2 : ((Int) × Unit) → Option R) (X1 : ((Int) × Unit) → Option R) (v0 : List ((List (ByteArray × ByteArray × Unit)) × Unit)) (v1 : Int) (v5 : Int) (f : R → Option S) : tr_laws_szStateS_6  (fun d => (NX d).bind f) (fun d => (X2 d).bind f) (fun d => (X1 d).bind f) v0 v1 v5 = (tr_laws_szStateS_6  NX X2 X1 v0 v1 v5).bind f := by
  unfold tr_laws_szStateS_6
  simp only [cond_bind, ite_bind, onSum_bind, Option.bind_assoc, Option.bind_none, Option.bind_some]
noncomputable def de_laws_szStateS (a0 : List ((List (ByteArray × ByteArray × Unit)) × Unit)) (a1 : Int) : Option ((((Int) × Unit) × (Unit))) :=
  bif decide (IntKind.wrap IntKind.i64 (a1 - nI (List.length a0)) < 0) then some ((-1, ()), ())
  else Option.bind ((fun d => lo_laws_szStateS_6 (fu_laws_szStateS_6 d.1 d.2.1 d.2.2.1) d.1 d.2.1 d.2.2.1) (a0, IntKind.wrap IntKind.i64 (a1 - nI (List.length a0)), 0, ())) fun val => onSum (fun val => some ((val.fst, ()), ())) (fun val => some ((val.fst, ()), ())) val
theorem eq_laws_szStateS (a0 : List ((List (ByteArray × ByteArray × Unit)) × Unit)) (a1 : Int) r (h : m_laws_szStateS a0 a1 = some r) : de_laws_szStateS a0 a1 = some ((r, ()), (())) := by
  obtain ⟨hc, g0, g1, rfl⟩ := szM_some (t := .sl (.pair (.sl (.pair .str (.pair .str .unit))) .unit)) h
  obtain ⟨hl0, hall⟩ := fineB_sl hc
  have hl : a0.length < 1152921504606846976 := hl0
  clear hl0 hc
  · unfold de_laws_szStateS
    have hw1 : IntKind.i64.wrap (a1 - nI a0.length) = a1 - (a0.length : Int) := wrap_ok (by simp only [nI]; omega) (by simp only [nI]; omega)
    rw [hw1]
    have hL := sz_loop (xs := a0) ([], ()) (fun x : (List (ByteArray × ByteArray × Unit)) × Unit => wt (.pair (.sl (.pair .str (.pair .str .unit))) .unit) x) (g := fun m l i => lo_laws_szStateS_6 m a0 l i) (ok := fun l => .inl (l, ())) (bad := .inr (-1, ())) (fun m i l hi h0 h1 => by
      show lo_laws_szStateS_6 (m + 1) a0 l i = _
      simp only [lo_laws_szStateS_6, tr_laws_szStateS_6]
      rw [cLt hi, cLe0, wI (by omega)]
      simp only [cond_true, Int.toNat_natCast]
      have hE : m_laws_szState ((List.getD (α := (List (ByteArray × ByteArray × Unit)) × Unit) a0 i ([], ())).fst, ()) l = some (if l - (wt (.pair (.sl (.pair .str (.pair .str .unit))) .unit) (List.getD (α := (List (ByteArray × ByteArray × Unit)) × Unit) a0 i ([], ())) : Int) < 0 then -1 else l - wt (.pair (.sl (.pair .str (.pair .str .unit))) .unit) (List.getD (α := (List (ByteArray × ByteArray × Unit)) × Unit) a0 i ([], ()))) := by
        exact szM_is (t := (.pair (.sl (.pair .str (.pair .str .unit))) .unit)) (x := (List.getD (α := (List (ByteArray × ByteArray × Unit)) × Unit) a0 i ([], ()))) (hall _ (getD_mem ([], ()) hi)) h0 h1
      rw [hE]
      by_cases q : l - (wt (.pair (.sl (.pair .str (.pair .str .unit))) .unit) (List.getD (α := (List (ByteArray × ByteArray × Unit)) × Unit) a0 i ([], ())) : Int) < 0
      · simp only [if_pos q, decide_eq_true q, Option.bind_some, cond_true]; rfl
      · simp only [if_neg q, decide_eq_false q, Option.bind_some, cond_false]
    ) (fun m l => by
      show lo_laws_szStateS_6 (m + 1) a0 l a0.length = _
      simp only [lo_laws_szStateS_6, tr_laws_szStateS_6]
      rw [cLtF]
      rfl) (fu_laws_szStateS_6 a0 (a1 - (a0.length : Int)) 0) 0 (a1 - (a0.length : Int)) (by omega) (by simp [fu_laws_szStateS_6])
    have hW : wt (.sl (.pair (.sl (.pair .str (.pair .str .unit))) .unit)) a0 = a0.length + (a0.map (fun x : (List (ByteArray × ByteArray × Unit)) × Unit => wt (.pair (.sl (.pair .str (.pair .str .unit))) .unit) x)).sum := rfl
    rw [hW]
    by_cases q : a1 - (a0.length : Int) < 0
    · simp only [decide_eq_true q, cond_true]; rw [if_pos (by omega)]
    · simp only [decide_eq_false q, cond_false]
      have hL := hL (by omega) (by omega)
      rw [List.drop_zero] at hL
      show (lo_laws_szStateS_6 (fu_laws_szStateS_6 a0 (a1 - (a0.length : Int)) 0) a0 (a1 - (a0.length : Int)) 0).bind _ = _
      have hL' : lo_laws_szStateS_6 (fu_laws_szStateS_6 a0 (a1 - (a0.length : Int)) 0) a0 (a1 - (a0.length : Int)) 0 = _ := hL
      rw [hL']
      have hsum : a1 - ((a0.length + (a0.map (fun x : (List (ByteArray × ByteArray × Unit)) × Unit => wt (.pair (.sl (.pair .str (.pair .str .unit))) .unit) x)).sum : Nat) : Int) = a1 - (a0.length : Int) - ((a0.map (fun x : (List (ByteArray × ByteArray × Unit)) × Unit => wt (.pair (.sl (.pair .str (.pair .str .unit))) .unit) x)).sum : Int) := by omega
      rw [hsum]
      by_cases q2 : a1 - (a0.length : Int) - ((a0.map (fun x : (List (ByteArray × ByteArray × Unit)) × Unit => wt (.pair (.sl (.pair .str (.pair .str .unit))) .unit) x)).sum : Int) < 0
      · simp only [if_pos q2]; rfl
      · simp only [if_neg q2]; rfl
noncomputable def ou_laws_szStateS_6 {R : Type} (k : Kt R) : (((Int) × Unit) ⊕ ((Int) × Unit)) → Option R := (onSum (fun d => k (.exit 0) (((pa_laws_szStateS 6).2 2).st d) (((pa_laws_szStateS 6).2 2).nid)) (fun d => k .ret (((pa_laws_szStateS 6).2 1).st d) (((pa_laws_szStateS 6).2 1).nid)))
noncomputable def L_laws_szStateS {R : Type} : Lt R pa_laws_szStateS := (addL (pat := pa_laws_szStateS) 6 (fun d k => (lo_laws_szStateS_6 (fu_laws_szStateS_6 d.1 d.2.1 d.2.2.1) d.1 d.2.1 d.2.2.1).bind (ou_laws_szStateS_6 k)) noL)
theorem rd_laws_szStateS_6 {R : Type} (nx : (pa_laws_szStateS 6).1.D → Kt R → Option R) (k : Kt R) (v0 : List ((List (ByteArray × ByteArray × Unit)) × Unit)) (v1 : Int) (v5 : Int) : ev Try.prog ⟨ta_laws_szStateS, 0, 27, pa_laws_szStateS⟩ L_laws_szStateS co_laws_szStateS_6 ((pa_laws_szStateS 6).1.st (v0, v1, v5, ())) (pa_laws_szStateS 6).1.nid (roundK 0 (pa_laws_szStateS 6) nx k) = tr_laws_szStateS_6  (fun d => nx d k) (fun d => k (.exit 0) (((pa_laws_szStateS 6).2 2).st d) (((pa_laws_szStateS 6).2 2).nid)) (fun d => k .ret (((pa_laws_szStateS 6).2 1).st d) (((pa_laws_szStateS 6).2 1).nid)) v0 v1 v5 := by kernel_rfl
theorem lp_laws_szStateS_6 {R : Type} : ∀ (m : Nat) (d : (pa_laws_szStateS 6).1.D) (k : Kt R), loopN 0 (pa_laws_szStateS 6) (fun s nid k => ev Try.prog ⟨ta_laws_szStateS, 0, 27, pa_laws_szStateS⟩ L_laws_szStateS co_laws_szStateS_6 s nid k) m d k = (lo_laws_szStateS_6 m d.1 d.2.1 d.2.2.1).bind (ou_laws_szStateS_6 k)
  | 0, _, _ => rfl
  | m + 1, ⟨v0, v1, v5, ⟨⟩⟩, k => (rd_laws_szStateS_6 _ k v0 v1 v5).trans ((congrArg (fun F => tr_laws_szStateS_6  F (fun d => k (.exit 0) (((pa_laws_szStateS 6).2 2).st d) (((pa_laws_szStateS 6).2 2).nid)) (fun d => k .ret (((pa_laws_szStateS 6).2 1).st d) (((pa_laws_szStateS 6).2 1).nid)) v0 v1 v5) (funext fun d => lp_laws_szStateS_6 m d k)).trans (na_laws_szStateS_6 (f := ou_laws_szStateS_6 k)  (fun d => lo_laws_szStateS_6 m d.1 d.2.1 d.2.2.1) (fun d => some (.inl (d))) (fun d => some (.inr (d))) v0 v1 v5))
theorem en_laws_szStateS (a0 : List ((List (ByteArray × ByteArray × Unit)) × Unit)) (a1 : Int) : evalF Try.prog ta_laws_szStateS pa_laws_szStateS sg_laws_szStateS Try.f74 L_laws_szStateS (a0, a1, ()) = de_laws_szStateS a0 a1 := by kernel_rfl
theorem si_laws_szStateS : SigsOk Try.prog ta_laws_szStateS := SigsOk.of fun f sd h => by
  try dsimp only [Tb.of, ta_laws_szStateS] at h
  split at h
  · rename_i e; subst e; cases h; exact sn_laws_szState
  cases h
theorem lk_laws_szStateS_6 {R : Type} : LoopOk Try.prog R 27 0 pa_laws_szStateS L_laws_szStateS co_laws_szStateS_6 :=
  loop_key (cfg := ⟨ta_laws_szStateS, 0, 27, pa_laws_szStateS⟩) (key := 6) (by kernel_rfl) (by kernel_rfl) si_laws_szStateS rfl rfl (fun d k r h => ⟨fu_laws_szStateS_6 d.1 d.2.1 d.2.2.1, (lp_laws_szStateS_6 _ d k).trans h⟩) (fun c hc => by rw [show loopsIn co_laws_szStateS_6 = [] from by kernel_rfl] at hc; cases hc)
theorem sn_laws_szStateS : Callable Try.prog 74 ∧ Sound Try.prog 74 sd_laws_szStateS.sg sd_laws_szStateS.den :=
  fn_loops (pat := pa_laws_szStateS) L_laws_szStateS (by kernel_rfl) si_laws_szStateS Try.func74 (by kernel_rfl) (by kernel_rfl) (fun c hc => by rw [show loopsIn (bodyOf Try.f74) = [co_laws_szStateS_6] from by kernel_rfl] at hc; simp only [List.mem_cons, List.not_mem_nil, or_false] at hc; rcases hc with rfl <;> first | exact lk_laws_szStateS_6) fun x r h => by
    obtain ⟨a0, a1, ⟨⟩⟩ := x; obtain ⟨y, h1, h2⟩ := Option.bind_eq_some_iff.1 (show (m_laws_szStateS a0 a1).bind (fun r => some ((r, ()), (()))) = some r from h); cases h2; exact (en_laws_szStateS a0 a1).trans (eq_laws_szStateS a0 a1 _ h1)
def m_laws_szWorld (a : Int × ((List ByteArray) × (List (Int × ByteArray × Unit)) × Unit) × Bool × (Int × Int × Int × (Int × Int × Int × Int × Unit) × Int × Int × ((List (ByteArray × ByteArray × Unit)) × Unit) × Unit) × (List ((List (ByteArray × ByteArray × Unit)) × Unit)) × (List ByteArray) × Unit) (left : Int) : Option Int := szM (.pair (.int .i64) (.pair (.pair (.sl .str) (.pair (.sl (.pair (.int .i64) (.pair .str .unit))) .unit)) (.pair .bool (.pair (.pair (.int .i64) (.pair (.int .i64) (.pair (.int .i64) (.pair (.pair (.int .i64) (.pair (.int .i64) (.pair (.int .i64) (.pair (.int .i64) .unit)))) (.pair (.int .i64) (.pair (.int .i64) (.pair (.pair (.sl (.pair .str (.pair .str .unit))) .unit) .unit))))))) (.pair (.sl (.pair (.sl (.pair .str (.pair .str .unit))) .unit)) (.pair (.sl .str) .unit)))))) a left
def sg_laws_szWorld : Sig := ⟨[.rd (.pair (.int .i64) (.pair (.pair (.sl .str) (.pair (.sl (.pair (.int .i64) (.pair .str .unit))) .unit)) (.pair .bool (.pair (.pair (.int .i64) (.pair (.int .i64) (.pair (.int .i64) (.pair (.pair (.int .i64) (.pair (.int .i64) (.pair (.int .i64) (.pair (.int .i64) .unit)))) (.pair (.int .i64) (.pair (.int .i64) (.pair (.pair (.sl (.pair .str (.pair .str .unit))) .unit) .unit))))))) (.pair (.sl (.pair (.sl (.pair .str (.pair .str .unit))) .unit)) (.pair (.sl .str) .unit)))))), .rd (.int .i64)], [some 16, none], [.rd (.int .i64)], [none]⟩
noncomputable def sd_laws_szWorld : SD := ⟨sg_laws_szWorld, fun x => (m_laws_szWorld x.1 x.2.1).bind fun r => some ((r, ()), (()))⟩
noncomputable def ta_laws_szWorld : Tb := Tb.of fun f => if f = 8 then some sd_laws_szStore else if f = 73 then some sd_laws_szDisk else if f = 74 then some sd_laws_szStateS else if f = 75 then some sd_laws_szStringS else none
def pa_laws_szWorld : Nat → Pat × (Nat → Pat) := fun k => (⟨[], [], []⟩, fun _ => ⟨[], [], []⟩)
noncomputable def de_laws_szWorld (a0 : Int × ((List ByteArray) × (List (Int × ByteArray × Unit)) × Unit) × Bool × (Int × Int × Int × (Int × Int × Int × Int × Unit) × Int × Int × ((List (ByteArray × ByteArray × Unit)) × Unit) × Unit) × (List ((List (ByteArray × ByteArray × Unit)) × Unit)) × (List ByteArray) × Unit) (a1 : Int) : Option ((((Int) × Unit) × (Unit))) :=
  Option.bind (Option.bind (m_laws_szDisk (a0.snd.fst.fst, a0.snd.fst.snd.fst, ()) a1) fun val => some ((val, ()), ())) fun val =>
    bif decide (val.fst.fst < 0) then some ((-1, ()), ())
    else
      Option.bind
        (Option.bind
          (m_laws_szStore
            (a0.snd.snd.snd.fst.fst, a0.snd.snd.snd.fst.snd.fst, a0.snd.snd.snd.fst.snd.snd.fst,
              (a0.snd.snd.snd.fst.snd.snd.snd.fst.fst, a0.snd.snd.snd.fst.snd.snd.snd.fst.snd.fst, a0.snd.snd.snd.fst.snd.snd.snd.fst.snd.snd.fst, a0.snd.snd.snd.fst.snd.snd.snd.fst.snd.snd.snd.fst,
                ()),
              a0.snd.snd.snd.fst.snd.snd.snd.snd.fst, a0.snd.snd.snd.fst.snd.snd.snd.snd.snd.fst, (a0.snd.snd.snd.fst.snd.snd.snd.snd.snd.snd.fst.fst, ()), ())
            val.fst.fst)
          fun val => some ((val, ()), ()))
        fun val =>
        bif decide (val.fst.fst < 0) then some ((-1, ()), ())
        else
          Option.bind (Option.bind (m_laws_szStateS a0.snd.snd.snd.snd.fst val.fst.fst) fun val => some ((val, ()), ())) fun val =>
            bif decide (val.fst.fst < 0) then some ((-1, ()), ())
            else
              Option.bind (Option.bind (m_laws_szStringS a0.snd.snd.snd.snd.snd.fst val.fst.fst) fun val => some ((val, ()), ())) fun val =>
                bif decide (val.fst.fst < 0) then some ((-1, ()), ()) else some ((val.fst.fst, ()), ())
theorem eq_laws_szWorld (a0 : Int × ((List ByteArray) × (List (Int × ByteArray × Unit)) × Unit) × Bool × (Int × Int × Int × (Int × Int × Int × Int × Unit) × Int × Int × ((List (ByteArray × ByteArray × Unit)) × Unit) × Unit) × (List ((List (ByteArray × ByteArray × Unit)) × Unit)) × (List ByteArray) × Unit) (a1 : Int) r (h : m_laws_szWorld a0 a1 = some r) : de_laws_szWorld a0 a1 = some ((r, ()), (())) := by
  obtain ⟨hc, g0, g1, rfl⟩ := szM_some (t := (.pair (.int .i64) (.pair (.pair (.sl .str) (.pair (.sl (.pair (.int .i64) (.pair .str .unit))) .unit)) (.pair .bool (.pair (.pair (.int .i64) (.pair (.int .i64) (.pair (.int .i64) (.pair (.pair (.int .i64) (.pair (.int .i64) (.pair (.int .i64) (.pair (.int .i64) .unit)))) (.pair (.int .i64) (.pair (.int .i64) (.pair (.pair (.sl (.pair .str (.pair .str .unit))) .unit) .unit))))))) (.pair (.sl (.pair (.sl (.pair .str (.pair .str .unit))) .unit)) (.pair (.sl .str) .unit))))))) h
  obtain ⟨hc0, hc1, hc2, hc3, hc4, hc5, _⟩ : fineB (.int .i64) a0.1 = true ∧ fineB (.pair (.sl .str) (.pair (.sl (.pair (.int .i64) (.pair .str .unit))) .unit)) a0.2.1 = true ∧ fineB .bool a0.2.2.1 = true ∧ fineB (.pair (.int .i64) (.pair (.int .i64) (.pair (.int .i64) (.pair (.pair (.int .i64) (.pair (.int .i64) (.pair (.int .i64) (.pair (.int .i64) .unit)))) (.pair (.int .i64) (.pair (.int .i64) (.pair (.pair (.sl (.pair .str (.pair .str .unit))) .unit) .unit))))))) a0.2.2.2.1 = true ∧ fineB (.sl (.pair (.sl (.pair .str (.pair .str .unit))) .unit)) a0.2.2.2.2.1 = true ∧ fineB (.sl .str) a0.2.2.2.2.2.1 = true ∧ True := by
    have s := hc
    obtain ⟨h0, s⟩ := fineB_pair s
    obtain ⟨h1, s⟩ := fineB_pair s
    obtain ⟨h2, s⟩ := fineB_pair s
    obtain ⟨h3, s⟩ := fineB_pair s
    obtain ⟨h4, s⟩ := fineB_pair s
    obtain ⟨h5, s⟩ := fineB_pair s
    exact ⟨h0, h1, h2, h3, h4, h5, trivial⟩
  unfold de_laws_szWorld
  have hwt : (wt (.pair (.int .i64) (.pair (.pair (.sl .str) (.pair (.sl (.pair (.int .i64) (.pair .str .unit))) .unit)) (.pair .bool (.pair (.pair (.int .i64) (.pair (.int .i64) (.pair (.int .i64) (.pair (.pair (.int .i64) (.pair (.int .i64) (.pair (.int .i64) (.pair (.int .i64) .unit)))) (.pair (.int .i64) (.pair (.int .i64) (.pair (.pair (.sl (.pair .str (.pair .str .unit))) .unit) .unit))))))) (.pair (.sl (.pair (.sl (.pair .str (.pair .str .unit))) .unit)) (.pair (.sl .str) .unit)))))) a0 : Int) = (wt (.pair (.sl .str) (.pair (.sl (.pair (.int .i64) (.pair .str .unit))) .unit)) a0.2.1 : Int) + (wt (.pair (.int .i64) (.pair (.int .i64) (.pair (.int .i64) (.pair (.pair (.int .i64) (.pair (.int .i64) (.pair (.int .i64) (.pair (.int .i64) .unit)))) (.pair (.int .i64) (.pair (.int .i64) (.pair (.pair (.sl (.pair .str (.pair .str .unit))) .unit) .unit))))))) a0.2.2.2.1 : Int) + (wt (.sl (.pair (.sl (.pair .str (.pair .str .unit))) .unit)) a0.2.2.2.2.1 : Int) + (wt (.sl .str) a0.2.2.2.2.2.1 : Int) := by simp only [wt]; omega
  rw [hwt]
  have e0 : m_laws_szDisk a0.2.1 (a1) = some (if a1 - (wt (.pair (.sl .str) (.pair (.sl (.pair (.int .i64) (.pair .str .unit))) .unit)) a0.2.1 : Int) < 0 then -1 else a1 - (wt (.pair (.sl .str) (.pair (.sl (.pair (.int .i64) (.pair .str .unit))) .unit)) a0.2.1 : Int)) := szM_is (t := (.pair (.sl .str) (.pair (.sl (.pair (.int .i64) (.pair .str .unit))) .unit))) (x := a0.2.1) hc1 (by omega) (by omega)
  simp only [show m_laws_szDisk (a0.2.1.fst, a0.2.1.snd.fst, ()) (a1) = _ from e0, Option.bind_some]
  by_cases q0 : a1 - (wt (.pair (.sl .str) (.pair (.sl (.pair (.int .i64) (.pair .str .unit))) .unit)) a0.2.1 : Int) < 0
  · simp only [if_pos q0, show decide ((-1 : Int) < 0) = true from rfl, cond_true]; try rw [if_pos (by omega)]
  · simp only [if_neg q0, decide_eq_false q0, cond_false]
    have e1 : m_laws_szStore a0.2.2.2.1 (a1 - (wt (.pair (.sl .str) (.pair (.sl (.pair (.int .i64) (.pair .str .unit))) .unit)) a0.2.1 : Int)) = some (if a1 - (wt (.pair (.sl .str) (.pair (.sl (.pair (.int .i64) (.pair .str .unit))) .unit)) a0.2.1 : Int) - (wt (.pair (.int .i64) (.pair (.int .i64) (.pair (.int .i64) (.pair (.pair (.int .i64) (.pair (.int .i64) (.pair (.int .i64) (.pair (.int .i64) .unit)))) (.pair (.int .i64) (.pair (.int .i64) (.pair (.pair (.sl (.pair .str (.pair .str .unit))) .unit) .unit))))))) a0.2.2.2.1 : Int) < 0 then -1 else a1 - (wt (.pair (.sl .str) (.pair (.sl (.pair (.int .i64) (.pair .str .unit))) .unit)) a0.2.1 : Int) - (wt (.pair (.int .i64) (.pair (.int .i64) (.pair (.int .i64) (.pair (.pair (.int .i64) (.pair (.int .i64) (.pair (.int .i64) (.pair (.int .i64) .unit)))) (.pair (.int .i64) (.pair (.int .i64) (.pair (.pair (.sl (.pair .str (.pair .str .unit))) .unit) .unit))))))) a0.2.2.2.1 : Int)) := szM_is (t := (.pair (.int .i64) (.pair (.int .i64) (.pair (.int .i64) (.pair (.pair (.int .i64) (.pair (.int .i64) (.pair (.int .i64) (.pair (.int .i64) .unit)))) (.pair (.int .i64) (.pair (.int .i64) (.pair (.pair (.sl (.pair .str (.pair .str .unit))) .unit) .unit)))))))) (x := a0.2.2.2.1) hc3 (by omega) (by omega)
    simp only [show m_laws_szStore (a0.2.2.2.1.fst, a0.2.2.2.1.snd.fst, a0.2.2.2.1.snd.snd.fst, (a0.2.2.2.1.snd.snd.snd.fst.fst, a0.2.2.2.1.snd.snd.snd.fst.snd.fst, a0.2.2.2.1.snd.snd.snd.fst.snd.snd.fst, a0.2.2.2.1.snd.snd.snd.fst.snd.snd.snd.fst, ()), a0.2.2.2.1.snd.snd.snd.snd.fst, a0.2.2.2.1.snd.snd.snd.snd.snd.fst, (a0.2.2.2.1.snd.snd.snd.snd.snd.snd.fst.fst, ()), ()) (a1 - (wt (.pair (.sl .str) (.pair (.sl (.pair (.int .i64) (.pair .str .unit))) .unit)) a0.2.1 : Int)) = _ from e1, Option.bind_some]
    by_cases q1 : a1 - (wt (.pair (.sl .str) (.pair (.sl (.pair (.int .i64) (.pair .str .unit))) .unit)) a0.2.1 : Int) - (wt (.pair (.int .i64) (.pair (.int .i64) (.pair (.int .i64) (.pair (.pair (.int .i64) (.pair (.int .i64) (.pair (.int .i64) (.pair (.int .i64) .unit)))) (.pair (.int .i64) (.pair (.int .i64) (.pair (.pair (.sl (.pair .str (.pair .str .unit))) .unit) .unit))))))) a0.2.2.2.1 : Int) < 0
    · simp only [if_pos q1, show decide ((-1 : Int) < 0) = true from rfl, cond_true]; try rw [if_pos (by omega)]
    · simp only [if_neg q1, decide_eq_false q1, cond_false]
      have e2 : m_laws_szStateS a0.2.2.2.2.1 (a1 - (wt (.pair (.sl .str) (.pair (.sl (.pair (.int .i64) (.pair .str .unit))) .unit)) a0.2.1 : Int) - (wt (.pair (.int .i64) (.pair (.int .i64) (.pair (.int .i64) (.pair (.pair (.int .i64) (.pair (.int .i64) (.pair (.int .i64) (.pair (.int .i64) .unit)))) (.pair (.int .i64) (.pair (.int .i64) (.pair (.pair (.sl (.pair .str (.pair .str .unit))) .unit) .unit))))))) a0.2.2.2.1 : Int)) = some (if a1 - (wt (.pair (.sl .str) (.pair (.sl (.pair (.int .i64) (.pair .str .unit))) .unit)) a0.2.1 : Int) - (wt (.pair (.int .i64) (.pair (.int .i64) (.pair (.int .i64) (.pair (.pair (.int .i64) (.pair (.int .i64) (.pair (.int .i64) (.pair (.int .i64) .unit)))) (.pair (.int .i64) (.pair (.int .i64) (.pair (.pair (.sl (.pair .str (.pair .str .unit))) .unit) .unit))))))) a0.2.2.2.1 : Int) - (wt (.sl (.pair (.sl (.pair .str (.pair .str .unit))) .unit)) a0.2.2.2.2.1 : Int) < 0 then -1 else a1 - (wt (.pair (.sl .str) (.pair (.sl (.pair (.int .i64) (.pair .str .unit))) .unit)) a0.2.1 : Int) - (wt (.pair (.int .i64) (.pair (.int .i64) (.pair (.int .i64) (.pair (.pair (.int .i64) (.pair (.int .i64) (.pair (.int .i64) (.pair (.int .i64) .unit)))) (.pair (.int .i64) (.pair (.int .i64) (.pair (.pair (.sl (.pair .str (.pair .str .unit))) .unit) .unit))))))) a0.2.2.2.1 : Int) - (wt (.sl (.pair (.sl (.pair .str (.pair .str .unit))) .unit)) a0.2.2.2.2.1 : Int)) := szM_is (t := (.sl (.pair (.sl (.pair .str (.pair .str .unit))) .unit))) (x := a0.2.2.2.2.1) hc4 (by omega) (by omega)
      simp only [show m_laws_szStateS a0.2.2.2.2.1 (a1 - (wt (.pair (.sl .str) (.pair (.sl (.pair (.int .i64) (.pair .str .unit))) .unit)) a0.2.1 : Int) - (wt (.pair (.int .i64) (.pair (.int .i64) (.pair (.int .i64) (.pair (.pair (.int .i64) (.pair (.int .i64) (.pair (.int .i64) (.pair (.int .i64) .unit)))) (.pair (.int .i64) (.pair (.int .i64) (.pair (.pair (.sl (.pair .str (.pair .str .unit))) .unit) .unit))))))) a0.2.2.2.1 : Int)) = _ from e2, Option.bind_some]
      by_cases q2 : a1 - (wt (.pair (.sl .str) (.pair (.sl (.pair (.int .i64) (.pair .str .unit))) .unit)) a0.2.1 : Int) - (wt (.pair (.int .i64) (.pair (.int .i64) (.pair (.int .i64) (.pair (.pair (.int .i64) (.pair (.int .i64) (.pair (.int .i64) (.pair (.int .i64) .unit)))) (.pair (.int .i64) (.pair (.int .i64) (.pair (.pair (.sl (.pair .str (.pair .str .unit))) .unit) .unit))))))) a0.2.2.2.1 : Int) - (wt (.sl (.pair (.sl (.pair .str (.pair .str .unit))) .unit)) a0.2.2.2.2.1 : Int) < 0
      · simp only [if_pos q2, show decide ((-1 : Int) < 0) = true from rfl, cond_true]; try rw [if_pos (by omega)]
      · simp only [if_neg q2, decide_eq_false q2, cond_false]
        have e3 : m_laws_szStringS a0.2.2.2.2.2.1 (a1 - (wt (.pair (.sl .str) (.pair (.sl (.pair (.int .i64) (.pair .str .unit))) .unit)) a0.2.1 : Int) - (wt (.pair (.int .i64) (.pair (.int .i64) (.pair (.int .i64) (.pair (.pair (.int .i64) (.pair (.int .i64) (.pair (.int .i64) (.pair (.int .i64) .unit)))) (.pair (.int .i64) (.pair (.int .i64) (.pair (.pair (.sl (.pair .str (.pair .str .unit))) .unit) .unit))))))) a0.2.2.2.1 : Int) - (wt (.sl (.pair (.sl (.pair .str (.pair .str .unit))) .unit)) a0.2.2.2.2.1 : Int)) = some (if a1 - (wt (.pair (.sl .str) (.pair (.sl (.pair (.int .i64) (.pair .str .unit))) .unit)) a0.2.1 : Int) - (wt (.pair (.int .i64) (.pair (.int .i64) (.pair (.int .i64) (.pair (.pair (.int .i64) (.pair (.int .i64) (.pair (.int .i64) (.pair (.int .i64) .unit)))) (.pair (.int .i64) (.pair (.int .i64) (.pair (.pair (.sl (.pair .str (.pair .str .unit))) .unit) .unit))))))) a0.2.2.2.1 : Int) - (wt (.sl (.pair (.sl (.pair .str (.pair .str .unit))) .unit)) a0.2.2.2.2.1 : Int) - (wt (.sl .str) a0.2.2.2.2.2.1 : Int) < 0 then -1 else a1 - (wt (.pair (.sl .str) (.pair (.sl (.pair (.int .i64) (.pair .str .unit))) .unit)) a0.2.1 : Int) - (wt (.pair (.int .i64) (.pair (.int .i64) (.pair (.int .i64) (.pair (.pair (.int .i64) (.pair (.int .i64) (.pair (.int .i64) (.pair (.int .i64) .unit)))) (.pair (.int .i64) (.pair (.int .i64) (.pair (.pair (.sl (.pair .str (.pair .str .unit))) .unit) .unit))))))) a0.2.2.2.1 : Int) - (wt (.sl (.pair (.sl (.pair .str (.pair .str .unit))) .unit)) a0.2.2.2.2.1 : Int) - (wt (.sl .str) a0.2.2.2.2.2.1 : Int)) := szM_is (t := (.sl .str)) (x := a0.2.2.2.2.2.1) hc5 (by omega) (by omega)
        simp only [show m_laws_szStringS a0.2.2.2.2.2.1 (a1 - (wt (.pair (.sl .str) (.pair (.sl (.pair (.int .i64) (.pair .str .unit))) .unit)) a0.2.1 : Int) - (wt (.pair (.int .i64) (.pair (.int .i64) (.pair (.int .i64) (.pair (.pair (.int .i64) (.pair (.int .i64) (.pair (.int .i64) (.pair (.int .i64) .unit)))) (.pair (.int .i64) (.pair (.int .i64) (.pair (.pair (.sl (.pair .str (.pair .str .unit))) .unit) .unit))))))) a0.2.2.2.1 : Int) - (wt (.sl (.pair (.sl (.pair .str (.pair .str .unit))) .unit)) a0.2.2.2.2.1 : Int)) = _ from e3, Option.bind_some]
        by_cases q3 : a1 - (wt (.pair (.sl .str) (.pair (.sl (.pair (.int .i64) (.pair .str .unit))) .unit)) a0.2.1 : Int) - (wt (.pair (.int .i64) (.pair (.int .i64) (.pair (.int .i64) (.pair (.pair (.int .i64) (.pair (.int .i64) (.pair (.int .i64) (.pair (.int .i64) .unit)))) (.pair (.int .i64) (.pair (.int .i64) (.pair (.pair (.sl (.pair .str (.pair .str .unit))) .unit) .unit))))))) a0.2.2.2.1 : Int) - (wt (.sl (.pair (.sl (.pair .str (.pair .str .unit))) .unit)) a0.2.2.2.2.1 : Int) - (wt (.sl .str) a0.2.2.2.2.2.1 : Int) < 0
        · simp only [if_pos q3, show decide ((-1 : Int) < 0) = true from rfl, cond_true]; try rw [if_pos (by omega)]
        · simp only [if_neg q3, decide_eq_false q3, cond_false]
          rw [if_neg (by omega)]
          simp only [Int.sub_sub, Int.add_assoc]
theorem en_laws_szWorld (a0 : Int × ((List ByteArray) × (List (Int × ByteArray × Unit)) × Unit) × Bool × (Int × Int × Int × (Int × Int × Int × Int × Unit) × Int × Int × ((List (ByteArray × ByteArray × Unit)) × Unit) × Unit) × (List ((List (ByteArray × ByteArray × Unit)) × Unit)) × (List ByteArray) × Unit) (a1 : Int) : evalF Try.prog ta_laws_szWorld pa_laws_szWorld sg_laws_szWorld Try.f25 noL (a0, a1, ()) = de_laws_szWorld a0 a1 := by kernel_rfl
theorem si_laws_szWorld : SigsOk Try.prog ta_laws_szWorld := SigsOk.of fun f sd h => by
  try dsimp only [Tb.of, ta_laws_szWorld] at h
  split at h
  · rename_i e; subst e; cases h; exact sn_laws_szStore
  split at h
  · rename_i e; subst e; cases h; exact sn_laws_szDisk
  split at h
  · rename_i e; subst e; cases h; exact sn_laws_szStateS
  split at h
  · rename_i e; subst e; cases h; exact sn_laws_szStringS
  cases h
theorem sn_laws_szWorld : Callable Try.prog 25 ∧ Sound Try.prog 25 sd_laws_szWorld.sg sd_laws_szWorld.den :=
  fn_plain (pat := pa_laws_szWorld) (by kernel_rfl) si_laws_szWorld Try.func25 (by kernel_rfl) (by kernel_rfl) (by kernel_rfl) fun x r h => by
    obtain ⟨a0, a1, ⟨⟩⟩ := x; obtain ⟨y, h1, h2⟩ := Option.bind_eq_some_iff.1 (show (m_laws_szWorld a0 a1).bind (fun r => some ((r, ()), (()))) = some r from h); cases h2; exact (en_laws_szWorld a0 a1).trans (eq_laws_szWorld a0 a1 _ h1)
def m_spec_l2WriteOk (d : Dk) (at_ : Int) (data : ByteArray) : Bool := okWr d.1.length (at_, data, ())
def sg_spec_l2WriteOk : Sig := ⟨[.rd (.pair (.sl .str) (.pair (.sl (.pair (.int .i64) (.pair .str .unit))) .unit)), .rd (.int .i64), .rd .str], [some 2, none, none], [.rd .bool], [none]⟩
noncomputable def sd_spec_l2WriteOk : SD := ⟨sg_spec_l2WriteOk, fun x => some (((m_spec_l2WriteOk x.1 x.2.1 x.2.2.1), ()), (()))⟩
noncomputable def ta_spec_l2WriteOk : Tb := Tb.of fun f => none
def pa_spec_l2WriteOk : Nat → Pat × (Nat → Pat) := fun k => (⟨[], [], []⟩, fun _ => ⟨[], [], []⟩)
noncomputable def de_spec_l2WriteOk (a0 : (List ByteArray) × (List (Int × ByteArray × Unit)) × Unit) (a1 : Int) (a2 : ByteArray) : Option ((((Bool) × Unit) × (Unit))) :=
  bif decide (a1 ≥ 0) then bif decide (a1 < nI (List.length a0.fst)) then some ((nI (ByteArray.size a2) == 64, ()), ()) else some ((false, ()), ()) else some ((false, ()), ())
theorem eq_spec_l2WriteOk (a0 : Dk) (a1 : Int) (a2 : ByteArray) : de_spec_l2WriteOk a0 a1 a2 = some ((m_spec_l2WriteOk a0 a1 a2, ()), ()) := by
  unfold de_spec_l2WriteOk m_spec_l2WriteOk okWr
  have e : (nI (ByteArray.size a2) == 64) = decide (a2.size = 64) := by
    have := ne64 a2.size 64
    simp only [bne] at this
    cases h : (nI (ByteArray.size a2) == ((64 : Nat) : Int)) <;> rw [h] at this <;> cases h2 : decide (a2.size = 64) <;> rw [h2] at this <;> first | (cases this; done) | exact h
  rw [e]
  by_cases h1 : a1 ≥ 0
  · have : decide (0 ≤ a1) = true := by simpa using h1
    rw [decide_eq_true h1]
    simp only [this, cond_true, Bool.true_and, nI]
    cases decide (a1 < (a0.1.length : Int)) <;> rfl
  · have : decide (0 ≤ a1) = false := by simpa using h1
    rw [decide_eq_false h1]
    simp only [this]
    rfl
theorem en_spec_l2WriteOk (a0 : (List ByteArray) × (List (Int × ByteArray × Unit)) × Unit) (a1 : Int) (a2 : ByteArray) : evalF Try.prog ta_spec_l2WriteOk pa_spec_l2WriteOk sg_spec_l2WriteOk Try.f71 noL (a0, a1, a2, ()) = de_spec_l2WriteOk a0 a1 a2 := by kernel_rfl
theorem si_spec_l2WriteOk : SigsOk Try.prog ta_spec_l2WriteOk := SigsOk.of fun f sd h => by
  try dsimp only [Tb.of, ta_spec_l2WriteOk] at h
  cases h
theorem sn_spec_l2WriteOk : Callable Try.prog 71 ∧ Sound Try.prog 71 sd_spec_l2WriteOk.sg sd_spec_l2WriteOk.den :=
  fn_plain (pat := pa_spec_l2WriteOk) (by kernel_rfl) si_spec_l2WriteOk Try.func71 (by kernel_rfl) (by kernel_rfl) (by kernel_rfl) fun x r h => by
    obtain ⟨a0, a1, a2, ⟨⟩⟩ := x; rw [← h]; exact (en_spec_l2WriteOk a0 a1 a2).trans (eq_spec_l2WriteOk a0 a1 a2)
def m_spec_ValidDisk (d : Dk) : Bool := validDisk d
def sg_spec_ValidDisk : Sig := ⟨[.rd (.pair (.sl .str) (.pair (.sl (.pair (.int .i64) (.pair .str .unit))) .unit))], [some 2], [.rd .bool], [none]⟩
noncomputable def sd_spec_ValidDisk : SD := ⟨sg_spec_ValidDisk, fun x => some (((m_spec_ValidDisk x.1), ()), (()))⟩
noncomputable def ta_spec_ValidDisk : Tb := Tb.of fun f => if f = 71 then some sd_spec_l2WriteOk else none
def pa_spec_ValidDisk : Nat → Pat × (Nat → Pat) := fun k => if k = 5 then (⟨[.boxSl 1 0 .str, .boxSl 1 1 (.pair (.int .i64) (.pair .str .unit))], [(1, .lf (.ptr 0 0)), (3, .lf (.d (.int .i64)))], [.box 50 [.d (.sl .str), .d (.sl (.pair (.int .i64) (.pair .str .unit)))]]⟩, fun e => if e = 1 then ⟨[], [(2, .lf (.d .bool))], []⟩ else if e = 2 then ⟨[.boxSl 1 0 .str, .boxSl 1 1 (.pair (.int .i64) (.pair .str .unit))], [(1, .lf (.ptr 0 0))], [.box 50 [.d (.sl .str), .d (.sl (.pair (.int .i64) (.pair .str .unit)))]]⟩ else ⟨[], [], []⟩) else if k = 10 then (⟨[.boxSl 1 0 .str, .boxSl 1 1 (.pair (.int .i64) (.pair .str .unit))], [(1, .lf (.ptr 0 0)), (4, .lf (.d (.int .i64)))], [.box 50 [.d (.sl .str), .d (.sl (.pair (.int .i64) (.pair .str .unit)))]]⟩, fun e => if e = 1 then ⟨[], [(2, .lf (.d .bool))], []⟩ else if e = 4 then ⟨[], [], []⟩ else ⟨[], [], []⟩) else (⟨[], [], []⟩, fun _ => ⟨[], [], []⟩)
noncomputable def co_spec_ValidDisk_5 : Code := (loopsIn (bodyOf Try.f21)).getD 0 .skip
noncomputable def co_spec_ValidDisk_10 : Code := (loopsIn (bodyOf Try.f21)).getD 1 .skip
def fu_spec_ValidDisk_10 (v4 : Int) (b0_0 : List ByteArray) (b0_1 : List (Int × ByteArray × Unit)) : Nat := ((b0_1.length : Int) - v4).toNat + 1
noncomputable def tr_spec_ValidDisk_10 {R : Type}  (NX : ((Int) × (List ByteArray) × (List (Int × ByteArray × Unit)) × Unit) → Option R) (X4 : (Unit) → Option R) (X1 : ((Bool) × Unit) → Option R) (v4 : Int) (b0_0 : List ByteArray) (b0_1 : List (Int × ByteArray × Unit)) : Option R :=
  bif decide (v4 < nI (List.length b0_1)) then
    bif decide (0 ≤ v4) then
      bif decide (v4 < nI (List.length b0_1)) then
        bif decide (0 ≤ v4) then
          bif decide (v4 < nI (List.length b0_1)) then
            bif !m_spec_l2WriteOk (b0_0, b0_1, ()) (List.getD b0_1 (Int.toNat v4) (0, ByteArray.mk #[], ())).fst (List.getD b0_1 (Int.toNat v4) (0, ByteArray.mk #[], ())).snd.fst then X1 (false, ())
            else NX (IntKind.wrap IntKind.i64 (v4 + 1), b0_0, b0_1, ())
          else none
        else none
      else none
    else none
  else X4 PUnit.unit
noncomputable def lo_spec_ValidDisk_10 : Nat → (Int) → (List ByteArray) → (List (Int × ByteArray × Unit)) →  Option ((Unit) ⊕ ((Bool) × Unit))
  | 0, _, _, _ => none
  | m + 1, v4, b0_0, b0_1 => tr_spec_ValidDisk_10  (fun d => lo_spec_ValidDisk_10 m d.1 d.2.1 d.2.2.1) (fun d => some (.inl (d))) (fun d => some (.inr (d))) v4 b0_0 b0_1
theorem na_spec_ValidDisk_10 {R S : Type}  (NX : ((Int) × (List ByteArray) × (List (Int × ByteArray × Unit)) × Unit) → Option R) (X4 : (Unit) → Option R) (X1 : ((Bool) × Unit) → Option R) (v4 : Int) (b0_0 : List ByteArray) (b0_1 : List (Int × ByteArray × Unit)) (f : R → Option S) : tr_spec_ValidDisk_10  (fun d => (NX d).bind f) (fun d => (X4 d).bind f) (fun d => (X1 d).bind f) v4 b0_0 b0_1 = (tr_spec_ValidDisk_10  NX X4 X1 v4 b0_0 b0_1).bind f := by
  unfold tr_spec_ValidDisk_10
  simp only [cond_bind, ite_bind, onSum_bind, Option.bind_assoc, Option.bind_none, Option.bind_some]
def fu_spec_ValidDisk_5 (v3 : Int) (b0_0 : List ByteArray) (b0_1 : List (Int × ByteArray × Unit)) : Nat := ((b0_0.length : Int) - v3).toNat + 1
noncomputable def tr_spec_ValidDisk_5 {R : Type}  (NX : ((Int) × (List ByteArray) × (List (Int × ByteArray × Unit)) × Unit) → Option R) (X2 : ((List ByteArray) × (List (Int × ByteArray × Unit)) × Unit) → Option R) (X1 : ((Bool) × Unit) → Option R) (v3 : Int) (b0_0 : List ByteArray) (b0_1 : List (Int × ByteArray × Unit)) : Option R :=
  bif decide (v3 < nI (List.length b0_0)) then
    bif decide (0 ≤ v3) then
      bif decide (v3 < nI (List.length b0_0)) then
        bif nI (ByteArray.size (List.getD b0_0 (Int.toNat v3) (ByteArray.mk #[]))) != 64 then X1 (false, ()) else NX (IntKind.wrap IntKind.i64 (v3 + 1), b0_0, b0_1, ())
      else none
    else none
  else X2 (b0_0, b0_1, ())
noncomputable def lo_spec_ValidDisk_5 : Nat → (Int) → (List ByteArray) → (List (Int × ByteArray × Unit)) →  Option (((List ByteArray) × (List (Int × ByteArray × Unit)) × Unit) ⊕ ((Bool) × Unit))
  | 0, _, _, _ => none
  | m + 1, v3, b0_0, b0_1 => tr_spec_ValidDisk_5  (fun d => lo_spec_ValidDisk_5 m d.1 d.2.1 d.2.2.1) (fun d => some (.inl (d))) (fun d => some (.inr (d))) v3 b0_0 b0_1
theorem na_spec_ValidDisk_5 {R S : Type}  (NX : ((Int) × (List ByteArray) × (List (Int × ByteArray × Unit)) × Unit) → Option R) (X2 : ((List ByteArray) × (List (Int × ByteArray × Unit)) × Unit) → Option R) (X1 : ((Bool) × Unit) → Option R) (v3 : Int) (b0_0 : List ByteArray) (b0_1 : List (Int × ByteArray × Unit)) (f : R → Option S) : tr_spec_ValidDisk_5  (fun d => (NX d).bind f) (fun d => (X2 d).bind f) (fun d => (X1 d).bind f) v3 b0_0 b0_1 = (tr_spec_ValidDisk_5  NX X2 X1 v3 b0_0 b0_1).bind f := by
  unfold tr_spec_ValidDisk_5
  simp only [cond_bind, ite_bind, onSum_bind, Option.bind_assoc, Option.bind_none, Option.bind_some]
noncomputable def de_spec_ValidDisk (a0 : (List ByteArray) × (List (Int × ByteArray × Unit)) × Unit) : Option ((((Bool) × Unit) × (Unit))) :=
  bif decide (nI (List.length a0.fst) < 8) then some ((false, ()), ())
  else
    bif decide (nI (List.length a0.fst) > 200) then some ((false, ()), ())
    else
      bif decide (nI (List.length a0.snd.fst) > 300) then some ((false, ()), ())
      else
        Option.bind ((fun d => lo_spec_ValidDisk_5 (fu_spec_ValidDisk_5 d.1 d.2.1 d.2.2.1) d.1 d.2.1 d.2.2.1) (0, a0.fst, a0.snd.fst, ())) fun val =>
          onSum (fun val => Option.bind ((fun d => lo_spec_ValidDisk_10 (fu_spec_ValidDisk_10 d.1 d.2.1 d.2.2.1) d.1 d.2.1 d.2.2.1) (0, val.fst, val.snd.fst, ())) fun val => onSum (fun val => some ((true, ()), ())) (fun val => some ((val.fst, ()), ())) val)
            (fun val => some ((val.fst, ()), ())) val
theorem eq_spec_ValidDisk (a0 : Dk) : de_spec_ValidDisk a0 = some ((m_spec_ValidDisk a0, ()), ()) := by
  unfold de_spec_ValidDisk m_spec_ValidDisk validDisk
  have c1 : decide (nI a0.2.1.length > 300) = !decide (a0.2.1.length ≤ 300) := gt100 _ 300
  have c2 : decide (nI a0.1.length > 200) = !decide ((a0.1.length : Int) ≤ 200) := by
    rw [show decide (nI a0.1.length > 200) = !decide (a0.1.length ≤ 200) from gt100 _ 200]
    congr 1
    exact decide_eq_decide.2 (by omega)
  have c3 : decide (nI a0.1.length < 8) = !decide (8 ≤ (a0.1.length : Int)) := by
    by_cases q : 8 ≤ (a0.1.length : Int)
    · rw [decide_eq_true q, decide_eq_false (by simp [nI]; omega)]; rfl
    · rw [decide_eq_false q, decide_eq_true (by simp [nI]; omega)]; rfl
  rw [c1, c2, c3]
  unfold inB
  by_cases h8 : 8 ≤ (a0.1.length : Int)
  · rw [decide_eq_true h8]
    by_cases h2 : (a0.1.length : Int) ≤ 200
    · rw [decide_eq_true h2]
      by_cases hp : a0.2.1.length ≤ 300
      · rw [decide_eq_true hp]
        have hL := all_loop (n := a0.1.length) (fun i => decide ((a0.1.getD i z0).size = 64)) (g := fun m i => lo_spec_ValidDisk_5 m i a0.1 a0.2.1) (ok := .inl (a0.1, a0.2.1, ())) (bad := .inr (false, ())) (fun m i hi => by
          show lo_spec_ValidDisk_5 (m + 1) i a0.1 a0.2.1 = _
          simp only [lo_spec_ValidDisk_5, tr_spec_ValidDisk_5]
          have g1 : (nI (ByteArray.size (List.getD a0.1 i (ByteArray.mk #[]))) != 64) = !decide ((a0.1.getD i z0).size = 64) := ne64 _ 64
          rw [cLt hi, cLe0, wI (show i < 4611686018427387904 by omega), Int.toNat_natCast, g1]
          cases decide ((a0.1.getD i z0).size = 64) <;> rfl) (fun m => by
          show lo_spec_ValidDisk_5 (m + 1) (a0.1.length : Int) a0.1 a0.2.1 = _
          simp only [lo_spec_ValidDisk_5, tr_spec_ValidDisk_5]
          rw [cLtF]
          rfl) (fu_spec_ValidDisk_5 0 a0.1 a0.2.1) 0 (by omega) (by simp [fu_spec_ValidDisk_5])
        have hL' : lo_spec_ValidDisk_5 (fu_spec_ValidDisk_5 0 a0.1 a0.2.1) 0 a0.1 a0.2.1 = _ := hL
        have hM := all_loop (n := a0.2.1.length) (fun i => okWr a0.1.length (a0.2.1.getD i zW)) (g := fun m i => lo_spec_ValidDisk_10 m i a0.1 a0.2.1) (ok := .inl ()) (bad := .inr (false, ())) (fun m i hi => by
          show lo_spec_ValidDisk_10 (m + 1) i a0.1 a0.2.1 = _
          simp only [lo_spec_ValidDisk_10, tr_spec_ValidDisk_10]
          rw [cLt hi, cLe0, wI (show i < 4611686018427387904 by omega), Int.toNat_natCast]
          show (bif !okWr a0.1.length (a0.2.1.getD i zW) then _ else _) = _
          cases okWr a0.1.length (a0.2.1.getD i zW) <;> rfl) (fun m => by
          show lo_spec_ValidDisk_10 (m + 1) (a0.2.1.length : Int) a0.1 a0.2.1 = _
          simp only [lo_spec_ValidDisk_10, tr_spec_ValidDisk_10]
          rw [cLtF]
          rfl) (fu_spec_ValidDisk_10 0 a0.1 a0.2.1) 0 (by omega) (by simp [fu_spec_ValidDisk_10])
        have hM' : lo_spec_ValidDisk_10 (fu_spec_ValidDisk_10 0 a0.1 a0.2.1) 0 a0.1 a0.2.1 = _ := hM
        show (lo_spec_ValidDisk_5 (fu_spec_ValidDisk_5 0 a0.1 a0.2.1) 0 a0.1 a0.2.1).bind _ = _
        rw [hL']
        rw [Nat.sub_zero] at hM' ⊢
        cases (List.range' 0 a0.1.length).all (fun i => decide ((a0.1.getD i z0).size = 64)) with
        | false => rfl
        | true =>
          show (lo_spec_ValidDisk_10 (fu_spec_ValidDisk_10 0 a0.1 a0.2.1) 0 a0.1 a0.2.1).bind _ = _
          rw [hM']
          cases (List.range' 0 a0.2.1.length).all (fun i => okWr a0.1.length (a0.2.1.getD i zW)) <;> rfl
      · rw [decide_eq_false hp]
        rfl
    · rw [decide_eq_false h2]
      rfl
  · rw [decide_eq_false h8]
    rfl
noncomputable def ou_spec_ValidDisk_5 {R : Type} (k : Kt R) : (((List ByteArray) × (List (Int × ByteArray × Unit)) × Unit) ⊕ ((Bool) × Unit)) → Option R := (onSum (fun d => k (.exit 0) (((pa_spec_ValidDisk 5).2 2).st d) (((pa_spec_ValidDisk 5).2 2).nid)) (fun d => k .ret (((pa_spec_ValidDisk 5).2 1).st d) (((pa_spec_ValidDisk 5).2 1).nid)))
noncomputable def ou_spec_ValidDisk_10 {R : Type} (k : Kt R) : ((Unit) ⊕ ((Bool) × Unit)) → Option R := (onSum (fun d => k (.exit 2) (((pa_spec_ValidDisk 10).2 4).st d) (((pa_spec_ValidDisk 10).2 4).nid)) (fun d => k .ret (((pa_spec_ValidDisk 10).2 1).st d) (((pa_spec_ValidDisk 10).2 1).nid)))
noncomputable def L_spec_ValidDisk {R : Type} : Lt R pa_spec_ValidDisk := (addL (pat := pa_spec_ValidDisk) 5 (fun d k => (lo_spec_ValidDisk_5 (fu_spec_ValidDisk_5 d.1 d.2.1 d.2.2.1) d.1 d.2.1 d.2.2.1).bind (ou_spec_ValidDisk_5 k)) (addL (pat := pa_spec_ValidDisk) 10 (fun d k => (lo_spec_ValidDisk_10 (fu_spec_ValidDisk_10 d.1 d.2.1 d.2.2.1) d.1 d.2.1 d.2.2.1).bind (ou_spec_ValidDisk_10 k)) noL))
theorem rd_spec_ValidDisk_10 {R : Type} (nx : (pa_spec_ValidDisk 10).1.D → Kt R → Option R) (k : Kt R) (v4 : Int) (b0_0 : List ByteArray) (b0_1 : List (Int × ByteArray × Unit)) : ev Try.prog ⟨ta_spec_ValidDisk, 0, 57, pa_spec_ValidDisk⟩ L_spec_ValidDisk co_spec_ValidDisk_10 ((pa_spec_ValidDisk 10).1.st (v4, b0_0, b0_1, ())) (pa_spec_ValidDisk 10).1.nid (roundK 0 (pa_spec_ValidDisk 10) nx k) = tr_spec_ValidDisk_10  (fun d => nx d k) (fun d => k (.exit 2) (((pa_spec_ValidDisk 10).2 4).st d) (((pa_spec_ValidDisk 10).2 4).nid)) (fun d => k .ret (((pa_spec_ValidDisk 10).2 1).st d) (((pa_spec_ValidDisk 10).2 1).nid)) v4 b0_0 b0_1 := by kernel_rfl
theorem lp_spec_ValidDisk_10 {R : Type} : ∀ (m : Nat) (d : (pa_spec_ValidDisk 10).1.D) (k : Kt R), loopN 0 (pa_spec_ValidDisk 10) (fun s nid k => ev Try.prog ⟨ta_spec_ValidDisk, 0, 57, pa_spec_ValidDisk⟩ L_spec_ValidDisk co_spec_ValidDisk_10 s nid k) m d k = (lo_spec_ValidDisk_10 m d.1 d.2.1 d.2.2.1).bind (ou_spec_ValidDisk_10 k)
  | 0, _, _ => rfl
  | m + 1, ⟨v4, b0_0, b0_1, ⟨⟩⟩, k => (rd_spec_ValidDisk_10 _ k v4 b0_0 b0_1).trans ((congrArg (fun F => tr_spec_ValidDisk_10  F (fun d => k (.exit 2) (((pa_spec_ValidDisk 10).2 4).st d) (((pa_spec_ValidDisk 10).2 4).nid)) (fun d => k .ret (((pa_spec_ValidDisk 10).2 1).st d) (((pa_spec_ValidDisk 10).2 1).nid)) v4 b0_0 b0_1) (funext fun d => lp_spec_ValidDisk_10 m d k)).trans (na_spec_ValidDisk_10 (f := ou_spec_ValidDisk_10 k)  (fun d => lo_spec_ValidDisk_10 m d.1 d.2.1 d.2.2.1) (fun d => some (.inl (d))) (fun d => some (.inr (d))) v4 b0_0 b0_1))
theorem rd_spec_ValidDisk_5 {R : Type} (nx : (pa_spec_ValidDisk 5).1.D → Kt R → Option R) (k : Kt R) (v3 : Int) (b0_0 : List ByteArray) (b0_1 : List (Int × ByteArray × Unit)) : ev Try.prog ⟨ta_spec_ValidDisk, 0, 57, pa_spec_ValidDisk⟩ L_spec_ValidDisk co_spec_ValidDisk_5 ((pa_spec_ValidDisk 5).1.st (v3, b0_0, b0_1, ())) (pa_spec_ValidDisk 5).1.nid (roundK 0 (pa_spec_ValidDisk 5) nx k) = tr_spec_ValidDisk_5  (fun d => nx d k) (fun d => k (.exit 0) (((pa_spec_ValidDisk 5).2 2).st d) (((pa_spec_ValidDisk 5).2 2).nid)) (fun d => k .ret (((pa_spec_ValidDisk 5).2 1).st d) (((pa_spec_ValidDisk 5).2 1).nid)) v3 b0_0 b0_1 := by kernel_rfl
theorem lp_spec_ValidDisk_5 {R : Type} : ∀ (m : Nat) (d : (pa_spec_ValidDisk 5).1.D) (k : Kt R), loopN 0 (pa_spec_ValidDisk 5) (fun s nid k => ev Try.prog ⟨ta_spec_ValidDisk, 0, 57, pa_spec_ValidDisk⟩ L_spec_ValidDisk co_spec_ValidDisk_5 s nid k) m d k = (lo_spec_ValidDisk_5 m d.1 d.2.1 d.2.2.1).bind (ou_spec_ValidDisk_5 k)
  | 0, _, _ => rfl
  | m + 1, ⟨v3, b0_0, b0_1, ⟨⟩⟩, k => (rd_spec_ValidDisk_5 _ k v3 b0_0 b0_1).trans ((congrArg (fun F => tr_spec_ValidDisk_5  F (fun d => k (.exit 0) (((pa_spec_ValidDisk 5).2 2).st d) (((pa_spec_ValidDisk 5).2 2).nid)) (fun d => k .ret (((pa_spec_ValidDisk 5).2 1).st d) (((pa_spec_ValidDisk 5).2 1).nid)) v3 b0_0 b0_1) (funext fun d => lp_spec_ValidDisk_5 m d k)).trans (na_spec_ValidDisk_5 (f := ou_spec_ValidDisk_5 k)  (fun d => lo_spec_ValidDisk_5 m d.1 d.2.1 d.2.2.1) (fun d => some (.inl (d))) (fun d => some (.inr (d))) v3 b0_0 b0_1))
theorem en_spec_ValidDisk (a0 : (List ByteArray) × (List (Int × ByteArray × Unit)) × Unit) : evalF Try.prog ta_spec_ValidDisk pa_spec_ValidDisk sg_spec_ValidDisk Try.f21 L_spec_ValidDisk (a0, ()) = de_spec_ValidDisk a0 := by kernel_rfl
theorem si_spec_ValidDisk : SigsOk Try.prog ta_spec_ValidDisk := SigsOk.of fun f sd h => by
  try dsimp only [Tb.of, ta_spec_ValidDisk] at h
  split at h
  · rename_i e; subst e; cases h; exact sn_spec_l2WriteOk
  cases h
theorem lk_spec_ValidDisk_10 {R : Type} : LoopOk Try.prog R 57 0 pa_spec_ValidDisk L_spec_ValidDisk co_spec_ValidDisk_10 :=
  loop_key (cfg := ⟨ta_spec_ValidDisk, 0, 57, pa_spec_ValidDisk⟩) (key := 10) (by kernel_rfl) (by kernel_rfl) si_spec_ValidDisk rfl rfl (fun d k r h => ⟨fu_spec_ValidDisk_10 d.1 d.2.1 d.2.2.1, (lp_spec_ValidDisk_10 _ d k).trans h⟩) (fun c hc => by rw [show loopsIn co_spec_ValidDisk_10 = [] from by kernel_rfl] at hc; cases hc)
theorem lk_spec_ValidDisk_5 {R : Type} : LoopOk Try.prog R 57 0 pa_spec_ValidDisk L_spec_ValidDisk co_spec_ValidDisk_5 :=
  loop_key (cfg := ⟨ta_spec_ValidDisk, 0, 57, pa_spec_ValidDisk⟩) (key := 5) (by kernel_rfl) (by kernel_rfl) si_spec_ValidDisk rfl rfl (fun d k r h => ⟨fu_spec_ValidDisk_5 d.1 d.2.1 d.2.2.1, (lp_spec_ValidDisk_5 _ d k).trans h⟩) (fun c hc => by rw [show loopsIn co_spec_ValidDisk_5 = [] from by kernel_rfl] at hc; cases hc)
theorem sn_spec_ValidDisk : Callable Try.prog 21 ∧ Sound Try.prog 21 sd_spec_ValidDisk.sg sd_spec_ValidDisk.den :=
  fn_loops (pat := pa_spec_ValidDisk) L_spec_ValidDisk (by kernel_rfl) si_spec_ValidDisk Try.func21 (by kernel_rfl) (by kernel_rfl) (fun c hc => by rw [show loopsIn (bodyOf Try.f21) = [co_spec_ValidDisk_5, co_spec_ValidDisk_10] from by kernel_rfl] at hc; simp only [List.mem_cons, List.not_mem_nil, or_false] at hc; rcases hc with rfl | rfl <;> first | exact lk_spec_ValidDisk_5 | exact lk_spec_ValidDisk_10) fun x r h => by
    obtain ⟨a0, ⟨⟩⟩ := x; rw [← h]; exact (en_spec_ValidDisk a0).trans (eq_spec_ValidDisk a0)
def sg_spec_l1Width : Sig := ⟨[.rd (.int .i64)], [none], [.rd .bool], [none]⟩
noncomputable def ta_spec_l1Width : Tb := Tb.of fun f => none
def pa_spec_l1Width : Nat → Pat × (Nat → Pat) := fun k => (⟨[], [], []⟩, fun _ => ⟨[], [], []⟩)
noncomputable def de_spec_l1Width (a0 : Int) : Option ((((Bool) × Unit) × (Unit))) :=
  bif decide (a0 ≥ 1) then some ((decide (a0 ≤ 8), ()), ()) else some ((false, ()), ())
noncomputable def sd_spec_l1Width : SD := ⟨sg_spec_l1Width, fun x => de_spec_l1Width x.1⟩
theorem en_spec_l1Width (a0 : Int) : evalF Try.prog ta_spec_l1Width pa_spec_l1Width sg_spec_l1Width Try.f96 noL (a0, ()) = de_spec_l1Width a0 := by kernel_rfl
theorem si_spec_l1Width : SigsOk Try.prog ta_spec_l1Width := SigsOk.of fun f sd h => by
  try dsimp only [Tb.of, ta_spec_l1Width] at h
  cases h
theorem sn_spec_l1Width : Callable Try.prog 96 ∧ Sound Try.prog 96 sd_spec_l1Width.sg sd_spec_l1Width.den :=
  fn_plain (pat := pa_spec_l1Width) (by kernel_rfl) si_spec_l1Width Try.func96 (by kernel_rfl) (by kernel_rfl) (by kernel_rfl) fun x r h => by
    obtain ⟨a0, ⟨⟩⟩ := x; exact (en_spec_l1Width a0).trans h
def m_spec_l4KeyOk (k : ByteArray) : Bool := keyOk k
def sg_spec_l4KeyOk : Sig := ⟨[.rd .str], [none], [.rd .bool], [none]⟩
noncomputable def sd_spec_l4KeyOk : SD := ⟨sg_spec_l4KeyOk, fun x => some (((m_spec_l4KeyOk x.1), ()), (()))⟩
noncomputable def ta_spec_l4KeyOk : Tb := Tb.of fun f => none
def pa_spec_l4KeyOk : Nat → Pat × (Nat → Pat) := fun k => (⟨[], [], []⟩, fun _ => ⟨[], [], []⟩)
noncomputable def de_spec_l4KeyOk (a0 : ByteArray) : Option ((((Bool) × Unit) × (Unit))) :=
  bif decide (nI (ByteArray.size a0) ≥ 1) then some ((decide (nI (ByteArray.size a0) ≤ 20), ()), ()) else some ((false, ()), ())
theorem eq_spec_l4KeyOk (a0 : ByteArray) : de_spec_l4KeyOk a0 = some ((m_spec_l4KeyOk a0, ()), ()) := by
  unfold de_spec_l4KeyOk m_spec_l4KeyOk keyOk inB
  by_cases h : (a0.size : Int) ≥ 1
  · have : decide ((1 : Int) ≤ (a0.size : Int)) = true := by simpa using h
    simp [nI, this]
  · have h' : ¬ (1 : Int) ≤ (a0.size : Int) := h
    simp [nI, h']
theorem en_spec_l4KeyOk (a0 : ByteArray) : evalF Try.prog ta_spec_l4KeyOk pa_spec_l4KeyOk sg_spec_l4KeyOk Try.f159 noL (a0, ()) = de_spec_l4KeyOk a0 := by kernel_rfl
theorem si_spec_l4KeyOk : SigsOk Try.prog ta_spec_l4KeyOk := SigsOk.of fun f sd h => by
  try dsimp only [Tb.of, ta_spec_l4KeyOk] at h
  cases h
theorem sn_spec_l4KeyOk : Callable Try.prog 159 ∧ Sound Try.prog 159 sd_spec_l4KeyOk.sg sd_spec_l4KeyOk.den :=
  fn_plain (pat := pa_spec_l4KeyOk) (by kernel_rfl) si_spec_l4KeyOk Try.func159 (by kernel_rfl) (by kernel_rfl) (by kernel_rfl) fun x r h => by
    obtain ⟨a0, ⟨⟩⟩ := x; rw [← h]; exact (en_spec_l4KeyOk a0).trans (eq_spec_l4KeyOk a0)
def m_spec_ValidState (s : Stt) : Bool := validState s
def sg_spec_ValidState : Sig := ⟨[.rd (.pair (.sl (.pair .str (.pair .str .unit))) .unit)], [some 1], [.rd .bool], [none]⟩
noncomputable def sd_spec_ValidState : SD := ⟨sg_spec_ValidState, fun x => some (((m_spec_ValidState x.1), ()), (()))⟩
noncomputable def ta_spec_ValidState : Tb := Tb.of fun f => if f = 159 then some sd_spec_l4KeyOk else none
def pa_spec_ValidState : Nat → Pat × (Nat → Pat) := fun k => if k = 5 then (⟨[.boxSl 1 0 (.pair .str (.pair .str .unit))], [(1, .lf (.ptr 0 0)), (3, .lf (.d (.int .i64)))], [.box 33 [.d (.sl (.pair .str (.pair .str .unit)))]]⟩, fun e => if e = 1 then ⟨[], [(2, .lf (.d .bool))], []⟩ else if e = 2 then ⟨[], [], []⟩ else ⟨[], [], []⟩) else (⟨[], [], []⟩, fun _ => ⟨[], [], []⟩)
noncomputable def co_spec_ValidState_5 : Code := (loopsIn (bodyOf Try.f105)).getD 0 .skip
def fu_spec_ValidState_5 (v3 : Int) (b0_0 : List (ByteArray × ByteArray × Unit)) : Nat := ((b0_0.length : Int) - v3).toNat + 1
noncomputable def tr_spec_ValidState_5 {R : Type}  (NX : ((Int) × (List (ByteArray × ByteArray × Unit)) × Unit) → Option R) (X2 : (Unit) → Option R) (X1 : ((Bool) × Unit) → Option R) (v3 : Int) (b0_0 : List (ByteArray × ByteArray × Unit)) : Option R :=
  bif decide (v3 < nI (List.length b0_0)) then
    bif decide (0 ≤ v3) then
      bif decide (v3 < nI (List.length b0_0)) then
        bif !m_spec_l4KeyOk (List.getD b0_0 (Int.toNat v3) (ByteArray.mk #[], ByteArray.mk #[], ())).fst then X1 (false, ())
        else
          bif decide (0 ≤ v3) then
            bif decide (v3 < nI (List.length b0_0)) then
              bif decide (nI (ByteArray.size (List.getD b0_0 (Int.toNat v3) (ByteArray.mk #[], ByteArray.mk #[], ())).snd.fst) > 100) then X1 (false, ())
              else
                bif decide (v3 > 0) then
                  bif decide (0 ≤ IntKind.wrap IntKind.i64 (v3 - 1)) then
                    bif decide (IntKind.wrap IntKind.i64 (v3 - 1) < nI (List.length b0_0)) then
                      bif decide (0 ≤ v3) then
                        bif decide (v3 < nI (List.length b0_0)) then
                          bif
                              !Op.bytesLess (ByteArray.toList (List.getD b0_0 (Int.toNat (IntKind.wrap IntKind.i64 (v3 - 1))) (ByteArray.mk #[], ByteArray.mk #[], ())).fst)
                                  (ByteArray.toList (List.getD b0_0 (Int.toNat v3) (ByteArray.mk #[], ByteArray.mk #[], ())).fst) then
                            X1 (false, ())
                          else NX (IntKind.wrap IntKind.i64 (v3 + 1), b0_0, ())
                        else none
                      else none
                    else none
                  else none
                else NX (IntKind.wrap IntKind.i64 (v3 + 1), b0_0, ())
            else none
          else none
      else none
    else none
  else X2 PUnit.unit
noncomputable def lo_spec_ValidState_5 : Nat → (Int) → (List (ByteArray × ByteArray × Unit)) →  Option ((Unit) ⊕ ((Bool) × Unit))
  | 0, _, _ => none
  | m + 1, v3, b0_0 => tr_spec_ValidState_5  (fun d => lo_spec_ValidState_5 m d.1 d.2.1) (fun d => some (.inl (d))) (fun d => some (.inr (d))) v3 b0_0
theorem na_spec_ValidState_5 {R S : Type}  (NX : ((Int) × (List (ByteArray × ByteArray × Unit)) × Unit) → Option R) (X2 : (Unit) → Option R) (X1 : ((Bool) × Unit) → Option R) (v3 : Int) (b0_0 : List (ByteArray × ByteArray × Unit)) (f : R → Option S) : tr_spec_ValidState_5  (fun d => (NX d).bind f) (fun d => (X2 d).bind f) (fun d => (X1 d).bind f) v3 b0_0 = (tr_spec_ValidState_5  NX X2 X1 v3 b0_0).bind f := by
  unfold tr_spec_ValidState_5
  simp only [cond_bind, ite_bind, onSum_bind, Option.bind_assoc, Option.bind_none, Option.bind_some]
noncomputable def de_spec_ValidState (a0 : (List (ByteArray × ByteArray × Unit)) × Unit) : Option ((((Bool) × Unit) × (Unit))) :=
  bif decide (nI (List.length a0.fst) > 100) then some ((false, ()), ())
  else Option.bind ((fun d => lo_spec_ValidState_5 (fu_spec_ValidState_5 d.1 d.2.1) d.1 d.2.1) (0, a0.fst, ())) fun val => onSum (fun val => some ((true, ()), ())) (fun val => some ((val.fst, ()), ())) val
theorem eq_spec_ValidState (a0 : Stt) : de_spec_ValidState a0 = some ((m_spec_ValidState a0, ()), ()) := by
  unfold de_spec_ValidState m_spec_ValidState validState
  have c1 : decide (nI a0.1.length > 100) = !decide (a0.1.length ≤ 100) := gt100 _ 100
  by_cases hl : a0.1.length ≤ 100
  · have hL := all_loop (n := a0.1.length) (okPairAt a0.1) (g := fun m i => lo_spec_ValidState_5 m i a0.1) (ok := .inl ()) (bad := .inr (false, ())) (fun m i hi => by
      show lo_spec_ValidState_5 (m + 1) i a0.1 = _
      simp only [lo_spec_ValidState_5, tr_spec_ValidState_5]
      have g1 : decide (nI (ByteArray.size (List.getD a0.1 i (ByteArray.mk #[], ByteArray.mk #[], ())).2.1) > 100) = !decide (ByteArray.size (List.getD a0.1 i zP).2.1 ≤ 100) := gt100 _ 100
      rw [cLt hi, cLe0, wI (show i < 4611686018427387904 by omega), Int.toNat_natCast, gt0, g1]
      simp only [cond_true]
      unfold okPairAt bl
      show (bif !keyOk (List.getD a0.1 i zP).1 then _ else _) = _
      cases i with
      | zero =>
        show (bif !keyOk (List.getD a0.1 0 zP).1 then _ else bif !decide (ByteArray.size (List.getD a0.1 0 zP).2.1 ≤ 100) then _ else _) = _
        cases keyOk (List.getD a0.1 0 zP).1 <;> cases decide (ByteArray.size (List.getD a0.1 0 zP).2.1 ≤ 100) <;> rfl
      | succ j =>
        rw [wP j (by omega), cLe0, cLt (show j < a0.1.length by omega)]
        show (bif !keyOk (List.getD a0.1 (j + 1) zP).1 then _ else bif !decide (ByteArray.size (List.getD a0.1 (j + 1) zP).2.1 ≤ 100) then _ else bif !Op.bytesLess (ByteArray.toList (List.getD a0.1 j zP).1) (ByteArray.toList (List.getD a0.1 (j + 1) zP).1) then _ else _) = _
        rw [Nat.add_sub_cancel]
        cases keyOk (List.getD a0.1 (j + 1) zP).1 <;> cases decide (ByteArray.size (List.getD a0.1 (j + 1) zP).2.1 ≤ 100) <;> cases Op.bytesLess (ByteArray.toList (List.getD a0.1 j zP).1) (ByteArray.toList (List.getD a0.1 (j + 1) zP).1) <;> rfl) (fun m => by
      show lo_spec_ValidState_5 (m + 1) (a0.1.length : Int) a0.1 = _
      simp only [lo_spec_ValidState_5, tr_spec_ValidState_5]
      rw [cLtF]
      rfl) (fu_spec_ValidState_5 0 a0.1) 0 (by omega) (by simp [fu_spec_ValidState_5, nI])
    have hL' : lo_spec_ValidState_5 (fu_spec_ValidState_5 0 a0.1) 0 a0.1 = _ := hL
    rw [c1, decide_eq_true hl]
    show (lo_spec_ValidState_5 (fu_spec_ValidState_5 0 a0.1) 0 a0.1).bind _ = _
    rw [hL']
    cases (List.range' 0 (a0.1.length - 0)).all (okPairAt a0.1) <;> rfl
  · rw [c1, decide_eq_false hl]
    rfl
noncomputable def ou_spec_ValidState_5 {R : Type} (k : Kt R) : ((Unit) ⊕ ((Bool) × Unit)) → Option R := (onSum (fun d => k (.exit 0) (((pa_spec_ValidState 5).2 2).st d) (((pa_spec_ValidState 5).2 2).nid)) (fun d => k .ret (((pa_spec_ValidState 5).2 1).st d) (((pa_spec_ValidState 5).2 1).nid)))
noncomputable def L_spec_ValidState {R : Type} : Lt R pa_spec_ValidState := (addL (pat := pa_spec_ValidState) 5 (fun d k => (lo_spec_ValidState_5 (fu_spec_ValidState_5 d.1 d.2.1) d.1 d.2.1).bind (ou_spec_ValidState_5 k)) noL)
theorem rd_spec_ValidState_5 {R : Type} (nx : (pa_spec_ValidState 5).1.D → Kt R → Option R) (k : Kt R) (v3 : Int) (b0_0 : List (ByteArray × ByteArray × Unit)) : ev Try.prog ⟨ta_spec_ValidState, 0, 53, pa_spec_ValidState⟩ L_spec_ValidState co_spec_ValidState_5 ((pa_spec_ValidState 5).1.st (v3, b0_0, ())) (pa_spec_ValidState 5).1.nid (roundK 0 (pa_spec_ValidState 5) nx k) = tr_spec_ValidState_5  (fun d => nx d k) (fun d => k (.exit 0) (((pa_spec_ValidState 5).2 2).st d) (((pa_spec_ValidState 5).2 2).nid)) (fun d => k .ret (((pa_spec_ValidState 5).2 1).st d) (((pa_spec_ValidState 5).2 1).nid)) v3 b0_0 := by kernel_rfl
theorem lp_spec_ValidState_5 {R : Type} : ∀ (m : Nat) (d : (pa_spec_ValidState 5).1.D) (k : Kt R), loopN 0 (pa_spec_ValidState 5) (fun s nid k => ev Try.prog ⟨ta_spec_ValidState, 0, 53, pa_spec_ValidState⟩ L_spec_ValidState co_spec_ValidState_5 s nid k) m d k = (lo_spec_ValidState_5 m d.1 d.2.1).bind (ou_spec_ValidState_5 k)
  | 0, _, _ => rfl
  | m + 1, ⟨v3, b0_0, ⟨⟩⟩, k => (rd_spec_ValidState_5 _ k v3 b0_0).trans ((congrArg (fun F => tr_spec_ValidState_5  F (fun d => k (.exit 0) (((pa_spec_ValidState 5).2 2).st d) (((pa_spec_ValidState 5).2 2).nid)) (fun d => k .ret (((pa_spec_ValidState 5).2 1).st d) (((pa_spec_ValidState 5).2 1).nid)) v3 b0_0) (funext fun d => lp_spec_ValidState_5 m d k)).trans (na_spec_ValidState_5 (f := ou_spec_ValidState_5 k)  (fun d => lo_spec_ValidState_5 m d.1 d.2.1) (fun d => some (.inl (d))) (fun d => some (.inr (d))) v3 b0_0))
theorem en_spec_ValidState (a0 : (List (ByteArray × ByteArray × Unit)) × Unit) : evalF Try.prog ta_spec_ValidState pa_spec_ValidState sg_spec_ValidState Try.f105 L_spec_ValidState (a0, ()) = de_spec_ValidState a0 := by kernel_rfl
theorem si_spec_ValidState : SigsOk Try.prog ta_spec_ValidState := SigsOk.of fun f sd h => by
  try dsimp only [Tb.of, ta_spec_ValidState] at h
  split at h
  · rename_i e; subst e; cases h; exact sn_spec_l4KeyOk
  cases h
theorem lk_spec_ValidState_5 {R : Type} : LoopOk Try.prog R 53 0 pa_spec_ValidState L_spec_ValidState co_spec_ValidState_5 :=
  loop_key (cfg := ⟨ta_spec_ValidState, 0, 53, pa_spec_ValidState⟩) (key := 5) (by kernel_rfl) (by kernel_rfl) si_spec_ValidState rfl rfl (fun d k r h => ⟨fu_spec_ValidState_5 d.1 d.2.1, (lp_spec_ValidState_5 _ d k).trans h⟩) (fun c hc => by rw [show loopsIn co_spec_ValidState_5 = [] from by kernel_rfl] at hc; cases hc)
theorem sn_spec_ValidState : Callable Try.prog 105 ∧ Sound Try.prog 105 sd_spec_ValidState.sg sd_spec_ValidState.den :=
  fn_loops (pat := pa_spec_ValidState) L_spec_ValidState (by kernel_rfl) si_spec_ValidState Try.func105 (by kernel_rfl) (by kernel_rfl) (fun c hc => by rw [show loopsIn (bodyOf Try.f105) = [co_spec_ValidState_5] from by kernel_rfl] at hc; simp only [List.mem_cons, List.not_mem_nil, or_false] at hc; rcases hc with rfl <;> first | exact lk_spec_ValidState_5) fun x r h => by
    obtain ⟨a0, ⟨⟩⟩ := x; rw [← h]; exact (en_spec_ValidState a0).trans (eq_spec_ValidState a0)
def m_spec_Halves (n : Int) : Int := halvesN n
def sg_spec_Halves : Sig := ⟨[.rd (.int .i64)], [none], [.rd (.int .i64)], [none]⟩
noncomputable def sd_spec_Halves : SD := ⟨sg_spec_Halves, fun x => some (((m_spec_Halves x.1), ()), (()))⟩
noncomputable def ta_spec_Halves : Tb := Tb.of fun f => none
def pa_spec_Halves : Nat → Pat × (Nat → Pat) := fun k => (⟨[], [], []⟩, fun _ => ⟨[], [], []⟩)
noncomputable def de_spec_Halves (a0 : Int) : Option ((((Int) × Unit) × (Unit))) :=
  bif decide (a0 < 8) then some ((0, ()), ()) else bif decide (a0 > 200) then some ((0, ()), ()) else some ((IntKind.wrap IntKind.i64 (Int.tdiv (IntKind.wrap IntKind.i64 (a0 - 2)) 2), ()), ())
theorem eq_spec_Halves (a0 : Int) : de_spec_Halves a0 = some (((m_spec_Halves a0), ()), (())) := by
  unfold de_spec_Halves m_spec_Halves halvesN
  rw [inB_lt]
  cases h : inB a0 8 200 with
  | false => rfl
  | true =>
    obtain ⟨h1, h2⟩ := inB_r h
    rw [halves_code h1 h2]
    rfl
theorem en_spec_Halves (a0 : Int) : evalF Try.prog ta_spec_Halves pa_spec_Halves sg_spec_Halves Try.f114 noL (a0, ()) = de_spec_Halves a0 := by kernel_rfl
theorem si_spec_Halves : SigsOk Try.prog ta_spec_Halves := SigsOk.of fun f sd h => by
  try dsimp only [Tb.of, ta_spec_Halves] at h
  cases h
theorem sn_spec_Halves : Callable Try.prog 114 ∧ Sound Try.prog 114 sd_spec_Halves.sg sd_spec_Halves.den :=
  fn_plain (pat := pa_spec_Halves) (by kernel_rfl) si_spec_Halves Try.func114 (by kernel_rfl) (by kernel_rfl) (by kernel_rfl) fun x r h => by
    obtain ⟨a0, ⟨⟩⟩ := x; rw [← h]; exact (en_spec_Halves a0).trans (eq_spec_Halves a0)
def m_spec_l6In (v lo hi : Int) : Bool := inB v lo hi
def sg_spec_l6In : Sig := ⟨[.rd (.int .i64), .rd (.int .i64), .rd (.int .i64)], [none, none, none], [.rd .bool], [none]⟩
noncomputable def sd_spec_l6In : SD := ⟨sg_spec_l6In, fun x => some (((m_spec_l6In x.1 x.2.1 x.2.2.1), ()), (()))⟩
noncomputable def ta_spec_l6In : Tb := Tb.of fun f => none
def pa_spec_l6In : Nat → Pat × (Nat → Pat) := fun k => (⟨[], [], []⟩, fun _ => ⟨[], [], []⟩)
noncomputable def de_spec_l6In (a0 : Int) (a1 : Int) (a2 : Int) : Option ((((Bool) × Unit) × (Unit))) :=
  bif decide (a0 ≥ a1) then some ((decide (a0 ≤ a2), ()), ()) else some ((false, ()), ())
theorem eq_spec_l6In (a0 a1 a2 : Int) : de_spec_l6In a0 a1 a2 = some ((m_spec_l6In a0 a1 a2, ()), ()) := by
  unfold de_spec_l6In m_spec_l6In inB
  by_cases h : a0 ≥ a1
  · have : decide (a1 ≤ a0) = true := by simpa using h
    simp [h, this]
  · have : decide (a1 ≤ a0) = false := by simpa using h
    simp [h, this]
theorem en_spec_l6In (a0 : Int) (a1 : Int) (a2 : Int) : evalF Try.prog ta_spec_l6In pa_spec_l6In sg_spec_l6In Try.f115 noL (a0, a1, a2, ()) = de_spec_l6In a0 a1 a2 := by kernel_rfl
theorem si_spec_l6In : SigsOk Try.prog ta_spec_l6In := SigsOk.of fun f sd h => by
  try dsimp only [Tb.of, ta_spec_l6In] at h
  cases h
theorem sn_spec_l6In : Callable Try.prog 115 ∧ Sound Try.prog 115 sd_spec_l6In.sg sd_spec_l6In.den :=
  fn_plain (pat := pa_spec_l6In) (by kernel_rfl) si_spec_l6In Try.func115 (by kernel_rfl) (by kernel_rfl) (by kernel_rfl) fun x r h => by
    obtain ⟨a0, a1, a2, ⟨⟩⟩ := x; rw [← h]; exact (en_spec_l6In a0 a1 a2).trans (eq_spec_l6In a0 a1 a2)
def m_spec_Snapshot (s : Stt) : List (List Chg) := snapS s
def sg_spec_Snapshot : Sig := ⟨[.rd (.pair (.sl (.pair .str (.pair .str .unit))) .unit)], [some 1], [.rd (.sl (.sl (.pair .str (.pair .str (.pair .bool .unit)))))], [none]⟩
noncomputable def sd_spec_Snapshot : SD := ⟨sg_spec_Snapshot, fun x => some (((m_spec_Snapshot x.1), ()), (()))⟩
noncomputable def ta_spec_Snapshot : Tb := Tb.of fun f => if f = 105 then some sd_spec_ValidState else none
def pa_spec_Snapshot : Nat → Pat × (Nat → Pat) := fun k => if k = 6 then (⟨[.last 3 90 (.pair .str (.pair .str (.pair .bool .unit))), .boxSl 1 0 (.pair .str (.pair .str .unit))], [(1, .lf (.ptr 0 0)), (3, .lf (.row 1)), (4, .lf (.d (.int .i64)))], [.box 33 [.d (.sl (.pair .str (.pair .str .unit)))], .last 83 (.pair .str (.pair .str (.pair .bool .unit))) 2, .row 90 (.pair .str (.pair .str (.pair .bool .unit)))]⟩, fun e => if e = 2 then ⟨[.last 3 90 (.pair .str (.pair .str (.pair .bool .unit)))], [(3, .lf (.row 0))], [.last 83 (.pair .str (.pair .str (.pair .bool .unit))) 1, .row 90 (.pair .str (.pair .str (.pair .bool .unit)))]⟩ else ⟨[], [], []⟩) else (⟨[], [], []⟩, fun _ => ⟨[], [], []⟩)
noncomputable def co_spec_Snapshot_6 : Code := (loopsIn (bodyOf Try.f119)).getD 0 .skip
def fu_spec_Snapshot_6 (v4 : Int) (b0_0 : List (ByteArray × ByteArray × Unit)) (r1 : List (List (ByteArray × ByteArray × Bool × Unit))) (c1 : Bool) (r2 : List (ByteArray × ByteArray × Bool × Unit)) : Nat := ((b0_0.length : Int) - v4).toNat + 1
noncomputable def tr_spec_Snapshot_6 {R : Type}  (NX : ((Int) × (List (ByteArray × ByteArray × Unit)) × (List (List (ByteArray × ByteArray × Bool × Unit))) × (Bool) × (List (ByteArray × ByteArray × Bool × Unit)) × Unit) → Option R) (X2 : ((List (List (ByteArray × ByteArray × Bool × Unit))) × (Bool) × (List (ByteArray × ByteArray × Bool × Unit)) × Unit) → Option R) (v4 : Int) (b0_0 : List (ByteArray × ByteArray × Unit)) (r1 : List (List (ByteArray × ByteArray × Bool × Unit))) (c1 : Bool) (r2 : List (ByteArray × ByteArray × Bool × Unit)) : Option R :=
  bif decide (v4 < nI (List.length b0_0)) then
    bif Int.tmod v4 20 == 0 then
      bif decide ((List.length r1 + Bool.toNat c1 + 1) * 24 ≤ 140737488355328) then
        bif decide (0 ≤ IntKind.wrap IntKind.i64 (nI (List.length (bif c1 then r1 ++ [r2] else r1) + Bool.toNat true) - 1)) then
          bif decide (IntKind.wrap IntKind.i64 (nI (List.length (bif c1 then r1 ++ [r2] else r1) + Bool.toNat true) - 1) < nI (List.length (bif c1 then r1 ++ [r2] else r1) + Bool.toNat true)) then
            bif decide (Int.toNat (IntKind.wrap IntKind.i64 (nI (List.length (bif c1 then r1 ++ [r2] else r1) + Bool.toNat true) - 1)) = List.length (bif c1 then r1 ++ [r2] else r1)) then
              bif decide (0 ≤ v4) then
                bif decide (v4 < nI (List.length b0_0)) then
                  bif decide (0 ≤ v4) then
                    bif decide (v4 < nI (List.length b0_0)) then
                      bif decide (0 ≤ IntKind.wrap IntKind.i64 (nI (List.length (bif c1 then r1 ++ [r2] else r1) + Bool.toNat true) - 1)) then
                        bif
                            decide
                              (IntKind.wrap IntKind.i64 (nI (List.length (bif c1 then r1 ++ [r2] else r1) + Bool.toNat true) - 1) <
                                nI (List.length (bif c1 then r1 ++ [r2] else r1) + Bool.toNat true)) then
                          bif decide (Int.toNat (IntKind.wrap IntKind.i64 (nI (List.length (bif c1 then r1 ++ [r2] else r1) + Bool.toNat true) - 1)) = List.length (bif c1 then r1 ++ [r2] else r1)) then
                            NX
                              (IntKind.wrap IntKind.i64 (v4 + 1), b0_0, bif c1 then r1 ++ [r2] else r1, true,
                                [] ++
                                  [((List.getD b0_0 (Int.toNat v4) (ByteArray.mk #[], ByteArray.mk #[], ())).fst, (List.getD b0_0 (Int.toNat v4) (ByteArray.mk #[], ByteArray.mk #[], ())).snd.fst, false,
                                      ())],
                                ())
                          else none
                        else none
                      else none
                    else none
                  else none
                else none
              else none
            else none
          else none
        else none
      else none
    else
      bif decide (0 ≤ IntKind.wrap IntKind.i64 (nI (List.length r1 + Bool.toNat c1) - 1)) then
        bif decide (IntKind.wrap IntKind.i64 (nI (List.length r1 + Bool.toNat c1) - 1) < nI (List.length r1 + Bool.toNat c1)) then
          bif c1 then
            bif decide (Int.toNat (IntKind.wrap IntKind.i64 (nI (List.length r1 + Bool.toNat c1) - 1)) = List.length r1) then
              bif decide (0 ≤ v4) then
                bif decide (v4 < nI (List.length b0_0)) then
                  bif decide (0 ≤ v4) then
                    bif decide (v4 < nI (List.length b0_0)) then
                      bif
                          decide
                            ((List.length r2 +
                                  List.length
                                    [((List.getD b0_0 (Int.toNat v4) (ByteArray.mk #[], ByteArray.mk #[], ())).fst, (List.getD b0_0 (Int.toNat v4) (ByteArray.mk #[], ByteArray.mk #[], ())).snd.fst,
                                        false, ())]) *
                                40 ≤
                              140737488355328) then
                        bif decide (0 ≤ IntKind.wrap IntKind.i64 (nI (List.length r1 + Bool.toNat c1) - 1)) then
                          bif decide (IntKind.wrap IntKind.i64 (nI (List.length r1 + Bool.toNat c1) - 1) < nI (List.length r1 + Bool.toNat c1)) then
                            bif c1 then
                              bif decide (Int.toNat (IntKind.wrap IntKind.i64 (nI (List.length r1 + Bool.toNat c1) - 1)) = List.length r1) then
                                NX
                                  (IntKind.wrap IntKind.i64 (v4 + 1), b0_0, r1, c1,
                                    r2 ++
                                      [((List.getD b0_0 (Int.toNat v4) (ByteArray.mk #[], ByteArray.mk #[], ())).fst, (List.getD b0_0 (Int.toNat v4) (ByteArray.mk #[], ByteArray.mk #[], ())).snd.fst,
                                          false, ())],
                                    ())
                              else none
                            else none
                          else none
                        else none
                      else none
                    else none
                  else none
                else none
              else none
            else none
          else none
        else none
      else none
  else X2 (r1, c1, r2, ())
noncomputable def lo_spec_Snapshot_6 : Nat → (Int) → (List (ByteArray × ByteArray × Unit)) → (List (List (ByteArray × ByteArray × Bool × Unit))) → (Bool) → (List (ByteArray × ByteArray × Bool × Unit)) →  Option ((List (List (ByteArray × ByteArray × Bool × Unit))) × (Bool) × (List (ByteArray × ByteArray × Bool × Unit)) × Unit)
  | 0, _, _, _, _, _ => none
  | m + 1, v4, b0_0, r1, c1, r2 => tr_spec_Snapshot_6  (fun d => lo_spec_Snapshot_6 m d.1 d.2.1 d.2.2.1 d.2.2.2.1 d.2.2.2.2.1) (fun d => some (d)) v4 b0_0 r1 c1 r2
theorem na_spec_Snapshot_6 {R S : Type}  (NX : ((Int) × (List (ByteArray × ByteArray × Unit)) × (List (List (ByteArray × ByteArray × Bool × Unit))) × (Bool) × (List (ByteArray × ByteArray × Bool × Unit)) × Unit) → Option R) (X2 : ((List (List (ByteArray × ByteArray × Bool × Unit))) × (Bool) × (List (ByteArray × ByteArray × Bool × Unit)) × Unit) → Option R) (v4 : Int) (b0_0 : List (ByteArray × ByteArray × Unit)) (r1 : List (List (ByteArray × ByteArray × Bool × Unit))) (c1 : Bool) (r2 : List (ByteArray × ByteArray × Bool × Unit)) (f : R → Option S) : tr_spec_Snapshot_6  (fun d => (NX d).bind f) (fun d => (X2 d).bind f) v4 b0_0 r1 c1 r2 = (tr_spec_Snapshot_6  NX X2 v4 b0_0 r1 c1 r2).bind f := by
  unfold tr_spec_Snapshot_6
  simp only [cond_bind, ite_bind, onSum_bind, Option.bind_assoc, Option.bind_none, Option.bind_some]
noncomputable def de_spec_Snapshot (a0 : (List (ByteArray × ByteArray × Unit)) × Unit) : Option ((((List (List (ByteArray × ByteArray × Bool × Unit))) × Unit) × (Unit))) :=
  bif !m_spec_ValidState (a0.fst, ()) then some (([], ()), ())
  else Option.bind ((fun d => lo_spec_Snapshot_6 (fu_spec_Snapshot_6 d.1 d.2.1 d.2.2.1 d.2.2.2.1 d.2.2.2.2.1) d.1 d.2.1 d.2.2.1 d.2.2.2.1 d.2.2.2.2.1) (0, a0.fst, [], false, [], ())) fun val => some ((bif val.snd.fst then val.fst ++ [val.snd.snd.fst] else val.fst, ()), ())
theorem eq_spec_Snapshot (a0 : Stt) : de_spec_Snapshot a0 = some (((m_spec_Snapshot a0), ()), (())) := by
  unfold de_spec_Snapshot m_spec_Snapshot snapS
  show (bif !validState a0 then _ else _) = _
  cases hv : validState a0 with
  | false => rfl
  | true =>
    have hl := validState_len hv
    have hL := foldi_loop (xs := a0.1) zP SnapI snapStep (g := fun m i s => lo_spec_Snapshot_6 m i a0.1 s.1 s.2.1 s.2.2) (ok := fun s => (s.1, s.2.1, s.2.2, ())) (fun m i s hi hI => by
      show lo_spec_Snapshot_6 (m + 1) i a0.1 s.1 s.2.1 s.2.2 = _
      obtain ⟨r0, c0, r1⟩ := s
      obtain ⟨h1, h2, h3, h4⟩ := hI
      simp only at h2 h3 h4 ⊢
      simp only [lo_spec_Snapshot_6, tr_spec_Snapshot_6]
      rw [cLt hi, cLe0, wI (show i < 4611686018427387904 by omega), Int.toNat_natCast, tmod20]
      unfold snapStep
      cases hc : (i % 20 == 0)
      · have hp : 0 < i := Nat.pos_of_ne_zero fun q => by subst q; cases hc
        have hc0 := h3 hp
        subst hc0
        have e1 := lastIx r0.length (by omega)
        have e2 : decide ((r0.length : Int) < nI (r0.length + 1)) = true := cLt (Nat.lt_succ_self _)
        have e3 : decide ((r1.length + 1) * 40 ≤ 140737488355328) = true := decide_eq_true (by omega)
        simp only [Bool.toNat_true, List.length_singleton, cond_true, cond_false, e1, e2, e3, cLe0, Int.toNat_natCast, decide_true]
        rfl
      · have hL : List.length (bif c0 then r0 ++ [r1] else r0) ≤ i + 1 := by cases c0 <;> simp <;> omega
        have e1 := lastIx (List.length (bif c0 then r0 ++ [r1] else r0)) (by omega)
        have e2 : decide (((List.length (bif c0 then r0 ++ [r1] else r0) : Nat) : Int) < nI (List.length (bif c0 then r0 ++ [r1] else r0) + 1)) = true := cLt (Nat.lt_succ_self _)
        have e3 : decide ((r0.length + Bool.toNat c0 + 1) * 24 ≤ 140737488355328) = true := decide_eq_true (by cases c0 <;> simp <;> omega)
        simp only [Bool.toNat_true, cond_true, e1, e2, e3, cLe0, Int.toNat_natCast, decide_true]
        rfl) (fun i s hi hI => hI.step (by omega) _) (fun m s hI => by
      show lo_spec_Snapshot_6 (m + 1) (a0.1.length : Int) a0.1 s.1 s.2.1 s.2.2 = _
      simp only [lo_spec_Snapshot_6, tr_spec_Snapshot_6]
      rw [cLtF]
      rfl) (fu_spec_Snapshot_6 0 a0.1 [] false []) 0 ([], false, []) (by omega) (by simp [fu_spec_Snapshot_6, nI]) ⟨by omega, by simp, fun q => by omega, by simp⟩
    have hL' : lo_spec_Snapshot_6 (fu_spec_Snapshot_6 0 a0.1 [] false []) 0 a0.1 [] false [] = _ := hL
    show (lo_spec_Snapshot_6 (fu_spec_Snapshot_6 0 a0.1 [] false []) 0 a0.1 [] false []).bind _ = _
    rw [hL']
    rfl
noncomputable def ou_spec_Snapshot_6 {R : Type} (k : Kt R) : ((List (List (ByteArray × ByteArray × Bool × Unit))) × (Bool) × (List (ByteArray × ByteArray × Bool × Unit)) × Unit) → Option R := (fun d => k (.exit 0) (((pa_spec_Snapshot 6).2 2).st d) (((pa_spec_Snapshot 6).2 2).nid))
noncomputable def L_spec_Snapshot {R : Type} : Lt R pa_spec_Snapshot := (addL (pat := pa_spec_Snapshot) 6 (fun d k => (lo_spec_Snapshot_6 (fu_spec_Snapshot_6 d.1 d.2.1 d.2.2.1 d.2.2.2.1 d.2.2.2.2.1) d.1 d.2.1 d.2.2.1 d.2.2.2.1 d.2.2.2.2.1).bind (ou_spec_Snapshot_6 k)) noL)
theorem rd_spec_Snapshot_6 {R : Type} (nx : (pa_spec_Snapshot 6).1.D → Kt R → Option R) (k : Kt R) (v4 : Int) (b0_0 : List (ByteArray × ByteArray × Unit)) (r1 : List (List (ByteArray × ByteArray × Bool × Unit))) (c1 : Bool) (r2 : List (ByteArray × ByteArray × Bool × Unit)) : ev Try.prog ⟨ta_spec_Snapshot, 0, 51, pa_spec_Snapshot⟩ L_spec_Snapshot co_spec_Snapshot_6 ((pa_spec_Snapshot 6).1.st (v4, b0_0, r1, c1, r2, ())) (pa_spec_Snapshot 6).1.nid (roundK 0 (pa_spec_Snapshot 6) nx k) = tr_spec_Snapshot_6  (fun d => nx d k) (fun d => k (.exit 0) (((pa_spec_Snapshot 6).2 2).st d) (((pa_spec_Snapshot 6).2 2).nid)) v4 b0_0 r1 c1 r2 := by kernel_rfl
theorem lp_spec_Snapshot_6 {R : Type} : ∀ (m : Nat) (d : (pa_spec_Snapshot 6).1.D) (k : Kt R), loopN 0 (pa_spec_Snapshot 6) (fun s nid k => ev Try.prog ⟨ta_spec_Snapshot, 0, 51, pa_spec_Snapshot⟩ L_spec_Snapshot co_spec_Snapshot_6 s nid k) m d k = (lo_spec_Snapshot_6 m d.1 d.2.1 d.2.2.1 d.2.2.2.1 d.2.2.2.2.1).bind (ou_spec_Snapshot_6 k)
  | 0, _, _ => rfl
  | m + 1, ⟨v4, b0_0, r1, c1, r2, ⟨⟩⟩, k => (rd_spec_Snapshot_6 _ k v4 b0_0 r1 c1 r2).trans ((congrArg (fun F => tr_spec_Snapshot_6  F (fun d => k (.exit 0) (((pa_spec_Snapshot 6).2 2).st d) (((pa_spec_Snapshot 6).2 2).nid)) v4 b0_0 r1 c1 r2) (funext fun d => lp_spec_Snapshot_6 m d k)).trans (na_spec_Snapshot_6 (f := ou_spec_Snapshot_6 k)  (fun d => lo_spec_Snapshot_6 m d.1 d.2.1 d.2.2.1 d.2.2.2.1 d.2.2.2.2.1) (fun d => some (d)) v4 b0_0 r1 c1 r2))
theorem en_spec_Snapshot (a0 : (List (ByteArray × ByteArray × Unit)) × Unit) : evalF Try.prog ta_spec_Snapshot pa_spec_Snapshot sg_spec_Snapshot Try.f119 L_spec_Snapshot (a0, ()) = de_spec_Snapshot a0 := by kernel_rfl
theorem si_spec_Snapshot : SigsOk Try.prog ta_spec_Snapshot := SigsOk.of fun f sd h => by
  try dsimp only [Tb.of, ta_spec_Snapshot] at h
  split at h
  · rename_i e; subst e; cases h; exact sn_spec_ValidState
  cases h
theorem lk_spec_Snapshot_6 {R : Type} : LoopOk Try.prog R 51 0 pa_spec_Snapshot L_spec_Snapshot co_spec_Snapshot_6 :=
  loop_key (cfg := ⟨ta_spec_Snapshot, 0, 51, pa_spec_Snapshot⟩) (key := 6) (by kernel_rfl) (by kernel_rfl) si_spec_Snapshot rfl rfl (fun d k r h => ⟨fu_spec_Snapshot_6 d.1 d.2.1 d.2.2.1 d.2.2.2.1 d.2.2.2.2.1, (lp_spec_Snapshot_6 _ d k).trans h⟩) (fun c hc => by rw [show loopsIn co_spec_Snapshot_6 = [] from by kernel_rfl] at hc; cases hc)
theorem sn_spec_Snapshot : Callable Try.prog 119 ∧ Sound Try.prog 119 sd_spec_Snapshot.sg sd_spec_Snapshot.den :=
  fn_loops (pat := pa_spec_Snapshot) L_spec_Snapshot (by kernel_rfl) si_spec_Snapshot Try.func119 (by kernel_rfl) (by kernel_rfl) (fun c hc => by rw [show loopsIn (bodyOf Try.f119) = [co_spec_Snapshot_6] from by kernel_rfl] at hc; simp only [List.mem_cons, List.not_mem_nil, or_false] at hc; rcases hc with rfl <;> first | exact lk_spec_Snapshot_6) fun x r h => by
    obtain ⟨a0, ⟨⟩⟩ := x; rw [← h]; exact (en_spec_Snapshot a0).trans (eq_spec_Snapshot a0)
def m_spec_ValidBatch (b : List Chg) : Bool := validBatch b
def sg_spec_ValidBatch : Sig := ⟨[.rd (.sl (.pair .str (.pair .str (.pair .bool .unit))))], [none], [.rd .bool], [none]⟩
noncomputable def sd_spec_ValidBatch : SD := ⟨sg_spec_ValidBatch, fun x => some (((m_spec_ValidBatch x.1), ()), (()))⟩
noncomputable def ta_spec_ValidBatch : Tb := Tb.of fun f => if f = 159 then some sd_spec_l4KeyOk else none
def pa_spec_ValidBatch : Nat → Pat × (Nat → Pat) := fun k => if k = 5 then (⟨[.sl 0 0 (.pair .str (.pair .str (.pair .bool .unit)))], [(0, .lf (.d (.sl (.pair .str (.pair .str (.pair .bool .unit)))))), (3, .lf (.d (.int .i64)))], []⟩, fun e => if e = 1 then ⟨[], [(2, .lf (.d .bool))], []⟩ else if e = 2 then ⟨[], [], []⟩ else ⟨[], [], []⟩) else (⟨[], [], []⟩, fun _ => ⟨[], [], []⟩)
noncomputable def co_spec_ValidBatch_5 : Code := (loopsIn (bodyOf Try.f106)).getD 0 .skip
def fu_spec_ValidBatch_5 (v0 : List (ByteArray × ByteArray × Bool × Unit)) (v3 : Int) : Nat := ((v0.length : Int) - v3).toNat + 1
noncomputable def tr_spec_ValidBatch_5 {R : Type}  (NX : ((List (ByteArray × ByteArray × Bool × Unit)) × (Int) × Unit) → Option R) (X2 : (Unit) → Option R) (X1 : ((Bool) × Unit) → Option R) (v0 : List (ByteArray × ByteArray × Bool × Unit)) (v3 : Int) : Option R :=
  bif decide (v3 < nI (List.length v0)) then
    bif decide (0 ≤ v3) then
      bif decide (v3 < nI (List.length v0)) then
        bif !m_spec_l4KeyOk (List.getD v0 (Int.toNat v3) (ByteArray.mk #[], ByteArray.mk #[], false, ())).fst then X1 (false, ())
        else
          bif decide (0 ≤ v3) then
            bif decide (v3 < nI (List.length v0)) then
              bif decide (nI (ByteArray.size (List.getD v0 (Int.toNat v3) (ByteArray.mk #[], ByteArray.mk #[], false, ())).snd.fst) > 100) then X1 (false, ())
              else
                bif decide (0 ≤ v3) then
                  bif decide (v3 < nI (List.length v0)) then
                    bif (List.getD v0 (Int.toNat v3) (ByteArray.mk #[], ByteArray.mk #[], false, ())).snd.snd.fst then
                      bif decide (0 ≤ v3) then
                        bif decide (v3 < nI (List.length v0)) then
                          bif !ByteArray.toList (List.getD v0 (Int.toNat v3) (ByteArray.mk #[], ByteArray.mk #[], false, ())).snd.fst == ByteArray.toList (ByteArray.mk #[]) then X1 (false, ())
                          else NX (v0, IntKind.wrap IntKind.i64 (v3 + 1), ())
                        else none
                      else none
                    else NX (v0, IntKind.wrap IntKind.i64 (v3 + 1), ())
                  else none
                else none
            else none
          else none
      else none
    else none
  else X2 PUnit.unit
noncomputable def lo_spec_ValidBatch_5 : Nat → (List (ByteArray × ByteArray × Bool × Unit)) → (Int) →  Option ((Unit) ⊕ ((Bool) × Unit))
  | 0, _, _ => none
  | m + 1, v0, v3 => tr_spec_ValidBatch_5  (fun d => lo_spec_ValidBatch_5 m d.1 d.2.1) (fun d => some (.inl (d))) (fun d => some (.inr (d))) v0 v3
theorem na_spec_ValidBatch_5 {R S : Type}  (NX : ((List (ByteArray × ByteArray × Bool × Unit)) × (Int) × Unit) → Option R) (X2 : (Unit) → Option R) (X1 : ((Bool) × Unit) → Option R) (v0 : List (ByteArray × ByteArray × Bool × Unit)) (v3 : Int) (f : R → Option S) : tr_spec_ValidBatch_5  (fun d => (NX d).bind f) (fun d => (X2 d).bind f) (fun d => (X1 d).bind f) v0 v3 = (tr_spec_ValidBatch_5  NX X2 X1 v0 v3).bind f := by
  unfold tr_spec_ValidBatch_5
  simp only [cond_bind, ite_bind, onSum_bind, Option.bind_assoc, Option.bind_none, Option.bind_some]
noncomputable def de_spec_ValidBatch (a0 : List (ByteArray × ByteArray × Bool × Unit)) : Option ((((Bool) × Unit) × (Unit))) :=
  bif decide (nI (List.length a0) < 1) then some ((false, ()), ())
  else bif decide (nI (List.length a0) > 20) then some ((false, ()), ()) else Option.bind ((fun d => lo_spec_ValidBatch_5 (fu_spec_ValidBatch_5 d.1 d.2.1) d.1 d.2.1) (a0, 0, ())) fun val => onSum (fun val => some ((true, ()), ())) (fun val => some ((val.fst, ()), ())) val
theorem eq_spec_ValidBatch (a0 : List (ByteArray × ByteArray × Bool × Unit)) : de_spec_ValidBatch a0 = some (((m_spec_ValidBatch a0), ()), (())) := by
  unfold de_spec_ValidBatch m_spec_ValidBatch validBatch
  have tl : ByteArray.toList (ByteArray.mk #[]) = [] := by decide +kernel
  rw [inB_lt (nI (List.length a0))]
  show (bif inB (a0.length : Int) 1 20 then _ else _) = _
  cases hin : inB (a0.length : Int) 1 20 with
  | false => rfl
  | true =>
    have hlen : a0.length ≤ 20 := by have := (inB_r hin).2; omega
    have hL := all_loop (n := a0.length) (fun i => okChg (a0.getD i zC)) (g := fun m i => lo_spec_ValidBatch_5 m a0 i) (ok := .inl ()) (bad := .inr (false, ())) (fun m i hi => by
      show lo_spec_ValidBatch_5 (m + 1) a0 i = _
      simp only [lo_spec_ValidBatch_5, tr_spec_ValidBatch_5]
      rw [tl, cLt hi, cLe0, wI (show i < 4611686018427387904 by omega), Int.toNat_natCast]
      have g1 : decide (nI (ByteArray.size (List.getD a0 i (ByteArray.mk #[], ByteArray.mk #[], false, ())).2.1) > 100) = !decide ((a0.getD i zC).2.1.size ≤ 100) := gt100 _ 100
      rw [g1]
      show (bif !keyOk (a0.getD i zC).1 then _ else (bif _ then _ else (bif (a0.getD i zC).2.2.1 then (bif !((a0.getD i zC).2.1.toList == []) then _ else _) else _))) = _
      unfold okChg
      cases keyOk (a0.getD i zC).1 <;> cases decide ((a0.getD i zC).2.1.size ≤ 100) <;> cases (a0.getD i zC).2.2.1 <;> cases ((a0.getD i zC).2.1.toList == []) <;> rfl) (fun m => by
      show lo_spec_ValidBatch_5 (m + 1) a0 (a0.length : Int) = _
      simp only [lo_spec_ValidBatch_5, tr_spec_ValidBatch_5]
      rw [cLtF]
      rfl) (fu_spec_ValidBatch_5 a0 0) 0 (by omega) (by simp [fu_spec_ValidBatch_5, nI])
    refine bi_ hL ?_
    rw [Nat.sub_zero]
    cases (List.range' 0 a0.length).all (fun i => okChg (a0.getD i zC)) <;> rfl
noncomputable def ou_spec_ValidBatch_5 {R : Type} (k : Kt R) : ((Unit) ⊕ ((Bool) × Unit)) → Option R := (onSum (fun d => k (.exit 0) (((pa_spec_ValidBatch 5).2 2).st d) (((pa_spec_ValidBatch 5).2 2).nid)) (fun d => k .ret (((pa_spec_ValidBatch 5).2 1).st d) (((pa_spec_ValidBatch 5).2 1).nid)))
noncomputable def L_spec_ValidBatch {R : Type} : Lt R pa_spec_ValidBatch := (addL (pat := pa_spec_ValidBatch) 5 (fun d k => (lo_spec_ValidBatch_5 (fu_spec_ValidBatch_5 d.1 d.2.1) d.1 d.2.1).bind (ou_spec_ValidBatch_5 k)) noL)
theorem rd_spec_ValidBatch_5 {R : Type} (nx : (pa_spec_ValidBatch 5).1.D → Kt R → Option R) (k : Kt R) (v0 : List (ByteArray × ByteArray × Bool × Unit)) (v3 : Int) : ev Try.prog ⟨ta_spec_ValidBatch, 0, 49, pa_spec_ValidBatch⟩ L_spec_ValidBatch co_spec_ValidBatch_5 ((pa_spec_ValidBatch 5).1.st (v0, v3, ())) (pa_spec_ValidBatch 5).1.nid (roundK 0 (pa_spec_ValidBatch 5) nx k) = tr_spec_ValidBatch_5  (fun d => nx d k) (fun d => k (.exit 0) (((pa_spec_ValidBatch 5).2 2).st d) (((pa_spec_ValidBatch 5).2 2).nid)) (fun d => k .ret (((pa_spec_ValidBatch 5).2 1).st d) (((pa_spec_ValidBatch 5).2 1).nid)) v0 v3 := by kernel_rfl
theorem lp_spec_ValidBatch_5 {R : Type} : ∀ (m : Nat) (d : (pa_spec_ValidBatch 5).1.D) (k : Kt R), loopN 0 (pa_spec_ValidBatch 5) (fun s nid k => ev Try.prog ⟨ta_spec_ValidBatch, 0, 49, pa_spec_ValidBatch⟩ L_spec_ValidBatch co_spec_ValidBatch_5 s nid k) m d k = (lo_spec_ValidBatch_5 m d.1 d.2.1).bind (ou_spec_ValidBatch_5 k)
  | 0, _, _ => rfl
  | m + 1, ⟨v0, v3, ⟨⟩⟩, k => (rd_spec_ValidBatch_5 _ k v0 v3).trans ((congrArg (fun F => tr_spec_ValidBatch_5  F (fun d => k (.exit 0) (((pa_spec_ValidBatch 5).2 2).st d) (((pa_spec_ValidBatch 5).2 2).nid)) (fun d => k .ret (((pa_spec_ValidBatch 5).2 1).st d) (((pa_spec_ValidBatch 5).2 1).nid)) v0 v3) (funext fun d => lp_spec_ValidBatch_5 m d k)).trans (na_spec_ValidBatch_5 (f := ou_spec_ValidBatch_5 k)  (fun d => lo_spec_ValidBatch_5 m d.1 d.2.1) (fun d => some (.inl (d))) (fun d => some (.inr (d))) v0 v3))
theorem en_spec_ValidBatch (a0 : List (ByteArray × ByteArray × Bool × Unit)) : evalF Try.prog ta_spec_ValidBatch pa_spec_ValidBatch sg_spec_ValidBatch Try.f106 L_spec_ValidBatch (a0, ()) = de_spec_ValidBatch a0 := by kernel_rfl
theorem si_spec_ValidBatch : SigsOk Try.prog ta_spec_ValidBatch := SigsOk.of fun f sd h => by
  try dsimp only [Tb.of, ta_spec_ValidBatch] at h
  split at h
  · rename_i e; subst e; cases h; exact sn_spec_l4KeyOk
  cases h
theorem lk_spec_ValidBatch_5 {R : Type} : LoopOk Try.prog R 49 0 pa_spec_ValidBatch L_spec_ValidBatch co_spec_ValidBatch_5 :=
  loop_key (cfg := ⟨ta_spec_ValidBatch, 0, 49, pa_spec_ValidBatch⟩) (key := 5) (by kernel_rfl) (by kernel_rfl) si_spec_ValidBatch rfl rfl (fun d k r h => ⟨fu_spec_ValidBatch_5 d.1 d.2.1, (lp_spec_ValidBatch_5 _ d k).trans h⟩) (fun c hc => by rw [show loopsIn co_spec_ValidBatch_5 = [] from by kernel_rfl] at hc; cases hc)
theorem sn_spec_ValidBatch : Callable Try.prog 106 ∧ Sound Try.prog 106 sd_spec_ValidBatch.sg sd_spec_ValidBatch.den :=
  fn_loops (pat := pa_spec_ValidBatch) L_spec_ValidBatch (by kernel_rfl) si_spec_ValidBatch Try.func106 (by kernel_rfl) (by kernel_rfl) (fun c hc => by rw [show loopsIn (bodyOf Try.f106) = [co_spec_ValidBatch_5] from by kernel_rfl] at hc; simp only [List.mem_cons, List.not_mem_nil, or_false] at hc; rcases hc with rfl <;> first | exact lk_spec_ValidBatch_5) fun x r h => by
    obtain ⟨a0, ⟨⟩⟩ := x; rw [← h]; exact (en_spec_ValidBatch a0).trans (eq_spec_ValidBatch a0)
def m_spec_FormBatch (b : List Chg) : ByteArray := formB b
def sg_spec_FormBatch : Sig := ⟨[.rd (.sl (.pair .str (.pair .str (.pair .bool .unit))))], [none], [.rd .str], [none]⟩
noncomputable def sd_spec_FormBatch : SD := ⟨sg_spec_FormBatch, fun x => some (((m_spec_FormBatch x.1), ()), (()))⟩
noncomputable def ta_spec_FormBatch : Tb := Tb.of fun f => if f = 106 then some sd_spec_ValidBatch else none
def pa_spec_FormBatch : Nat → Pat × (Nat → Pat) := fun k => if k = 6 then (⟨[.sl 0 0 (.pair .str (.pair .str (.pair .bool .unit))), .row 3 0 5 (.int .u8)], [(0, .lf (.d (.sl (.pair .str (.pair .str (.pair .bool .unit)))))), (3, .lf (.row 0)), (4, .lf (.d (.int .i64)))], [.row 5 (.int .u8)]⟩, fun e => if e = 2 then ⟨[.row 3 0 5 (.int .u8)], [(3, .lf (.row 0))], [.row 5 (.int .u8)]⟩ else ⟨[], [], []⟩) else (⟨[], [], []⟩, fun _ => ⟨[], [], []⟩)
noncomputable def co_spec_FormBatch_6 : Code := (loopsIn (bodyOf Try.f121)).getD 0 .skip
def fu_spec_FormBatch_6 (v0 : List (ByteArray × ByteArray × Bool × Unit)) (v4 : Int) (r0 : List Int) : Nat := ((v0.length : Int) - v4).toNat + 1
noncomputable def tr_spec_FormBatch_6 {R : Type}  (NX : ((List (ByteArray × ByteArray × Bool × Unit)) × (Int) × (List Int) × Unit) → Option R) (X2 : ((List Int) × Unit) → Option R) (v0 : List (ByteArray × ByteArray × Bool × Unit)) (v4 : Int) (r0 : List Int) : Option R :=
  bif decide (v4 < nI (List.length v0)) then
    bif decide (0 ≤ v4) then
      bif decide (v4 < nI (List.length v0)) then
        bif (List.getD v0 (Int.toNat v4) (ByteArray.mk #[], ByteArray.mk #[], false, ())).snd.snd.fst then
          bif decide (0 ≤ v4) then
            bif decide (v4 < nI (List.length v0)) then
              bif
                  decide
                    ((List.length r0 + List.length [1, IntKind.wrap IntKind.u8 (nI (ByteArray.size (List.getD v0 (Int.toNat v4) (ByteArray.mk #[], ByteArray.mk #[], false, ())).fst))]) * 1 ≤
                      140737488355328) then
                bif decide (0 ≤ v4) then
                  bif decide (v4 < nI (List.length v0)) then
                    bif
                        decide
                          (List.length (r0 ++ [1, IntKind.wrap IntKind.u8 (nI (ByteArray.size (List.getD v0 (Int.toNat v4) (ByteArray.mk #[], ByteArray.mk #[], false, ())).fst))]) +
                              ByteArray.size (List.getD v0 (Int.toNat v4) (ByteArray.mk #[], ByteArray.mk #[], false, ())).fst ≤
                            140737488355328) then
                      NX
                        (v0, IntKind.wrap IntKind.i64 (v4 + 1),
                          r0 ++ [1, IntKind.wrap IntKind.u8 (nI (ByteArray.size (List.getD v0 (Int.toNat v4) (ByteArray.mk #[], ByteArray.mk #[], false, ())).fst))] ++
                            bytesOfStr (List.getD v0 (Int.toNat v4) (ByteArray.mk #[], ByteArray.mk #[], false, ())).fst,
                          ())
                    else none
                  else none
                else none
              else none
            else none
          else none
        else
          bif decide (0 ≤ v4) then
            bif decide (v4 < nI (List.length v0)) then
              bif
                  decide
                    ((List.length r0 + List.length [0, IntKind.wrap IntKind.u8 (nI (ByteArray.size (List.getD v0 (Int.toNat v4) (ByteArray.mk #[], ByteArray.mk #[], false, ())).fst))]) * 1 ≤
                      140737488355328) then
                bif decide (0 ≤ v4) then
                  bif decide (v4 < nI (List.length v0)) then
                    bif
                        decide
                          (List.length (r0 ++ [0, IntKind.wrap IntKind.u8 (nI (ByteArray.size (List.getD v0 (Int.toNat v4) (ByteArray.mk #[], ByteArray.mk #[], false, ())).fst))]) +
                              ByteArray.size (List.getD v0 (Int.toNat v4) (ByteArray.mk #[], ByteArray.mk #[], false, ())).fst ≤
                            140737488355328) then
                      bif decide (0 ≤ v4) then
                        bif decide (v4 < nI (List.length v0)) then
                          bif
                              decide
                                ((List.length
                                        (r0 ++ [0, IntKind.wrap IntKind.u8 (nI (ByteArray.size (List.getD v0 (Int.toNat v4) (ByteArray.mk #[], ByteArray.mk #[], false, ())).fst))] ++
                                          bytesOfStr (List.getD v0 (Int.toNat v4) (ByteArray.mk #[], ByteArray.mk #[], false, ())).fst) +
                                      List.length [IntKind.wrap IntKind.u8 (nI (ByteArray.size (List.getD v0 (Int.toNat v4) (ByteArray.mk #[], ByteArray.mk #[], false, ())).snd.fst))]) *
                                    1 ≤
                                  140737488355328) then
                            bif decide (0 ≤ v4) then
                              bif decide (v4 < nI (List.length v0)) then
                                bif
                                    decide
                                      (List.length
                                            (r0 ++ [0, IntKind.wrap IntKind.u8 (nI (ByteArray.size (List.getD v0 (Int.toNat v4) (ByteArray.mk #[], ByteArray.mk #[], false, ())).fst))] ++
                                                bytesOfStr (List.getD v0 (Int.toNat v4) (ByteArray.mk #[], ByteArray.mk #[], false, ())).fst ++
                                              [IntKind.wrap IntKind.u8 (nI (ByteArray.size (List.getD v0 (Int.toNat v4) (ByteArray.mk #[], ByteArray.mk #[], false, ())).snd.fst))]) +
                                          ByteArray.size (List.getD v0 (Int.toNat v4) (ByteArray.mk #[], ByteArray.mk #[], false, ())).snd.fst ≤
                                        140737488355328) then
                                  NX
                                    (v0, IntKind.wrap IntKind.i64 (v4 + 1),
                                      r0 ++ [0, IntKind.wrap IntKind.u8 (nI (ByteArray.size (List.getD v0 (Int.toNat v4) (ByteArray.mk #[], ByteArray.mk #[], false, ())).fst))] ++
                                            bytesOfStr (List.getD v0 (Int.toNat v4) (ByteArray.mk #[], ByteArray.mk #[], false, ())).fst ++
                                          [IntKind.wrap IntKind.u8 (nI (ByteArray.size (List.getD v0 (Int.toNat v4) (ByteArray.mk #[], ByteArray.mk #[], false, ())).snd.fst))] ++
                                        bytesOfStr (List.getD v0 (Int.toNat v4) (ByteArray.mk #[], ByteArray.mk #[], false, ())).snd.fst,
                                      ())
                                else none
                              else none
                            else none
                          else none
                        else none
                      else none
                    else none
                  else none
                else none
              else none
            else none
          else none
      else none
    else none
  else X2 (r0, ())
noncomputable def lo_spec_FormBatch_6 : Nat → (List (ByteArray × ByteArray × Bool × Unit)) → (Int) → (List Int) →  Option ((List Int) × Unit)
  | 0, _, _, _ => none
  | m + 1, v0, v4, r0 => tr_spec_FormBatch_6  (fun d => lo_spec_FormBatch_6 m d.1 d.2.1 d.2.2.1) (fun d => some (d)) v0 v4 r0
theorem na_spec_FormBatch_6 {R S : Type}  (NX : ((List (ByteArray × ByteArray × Bool × Unit)) × (Int) × (List Int) × Unit) → Option R) (X2 : ((List Int) × Unit) → Option R) (v0 : List (ByteArray × ByteArray × Bool × Unit)) (v4 : Int) (r0 : List Int) (f : R → Option S) : tr_spec_FormBatch_6  (fun d => (NX d).bind f) (fun d => (X2 d).bind f) v0 v4 r0 = (tr_spec_FormBatch_6  NX X2 v0 v4 r0).bind f := by
  unfold tr_spec_FormBatch_6
  simp only [cond_bind, ite_bind, onSum_bind, Option.bind_assoc, Option.bind_none, Option.bind_some]
noncomputable def de_spec_FormBatch (a0 : List (ByteArray × ByteArray × Bool × Unit)) : Option ((((ByteArray) × Unit) × (Unit))) :=
  bif !m_spec_ValidBatch a0 then some ((ByteArray.mk #[], ()), ()) else Option.bind ((fun d => lo_spec_FormBatch_6 (fu_spec_FormBatch_6 d.1 d.2.1 d.2.2.1) d.1 d.2.1 d.2.2.1) (a0, 0, [], ())) fun val => some ((strOfNums val.fst, ()), ())
theorem eq_spec_FormBatch (a0 : List (ByteArray × ByteArray × Bool × Unit)) : de_spec_FormBatch a0 = some ((m_spec_FormBatch a0, ()), (())) := by
  unfold de_spec_FormBatch m_spec_FormBatch formB
  show (bif !validBatch a0 then _ else _) = _
  cases hv : validBatch a0 with
  | false => rfl
  | true =>
    obtain ⟨hlen, hok⟩ := validBatch_at hv
    have hL := up_loop a0.length BatOk (fun i r => r ++ chgL (a0.getD i zC)) (g := fun m i r => lo_spec_FormBatch_6 m a0 i r) (ok := fun r => (r, ())) (fun m i r hi hr => by
      show lo_spec_FormBatch_6 (m + 1) a0 i r = _
      simp only [lo_spec_FormBatch_6, tr_spec_FormBatch_6]
      have hc := hok i hi
      obtain ⟨k1, k2, k3⟩ := okChg_len hc
      rw [cLt hi, cLe0, wI (show i < 4611686018427387904 by omega), Int.toNat_natCast]
      have hr1 := hr.1
      have eC : List.getD a0 i (ByteArray.mk #[], ByteArray.mk #[], false, ()) = a0.getD i zC := rfl
      rw [eC]
      generalize a0.getD i zC = c at *
      rw [wrap8 _ (show c.1.size < 256 by omega), wrap8 _ (show c.2.1.size < 256 by omega)]
      simp only [List.length_append, List.length_cons, List.length_nil, bytes_len]
      rw [decide_eq_true (show (r.length + (0 + 1 + 1)) * 1 ≤ 140737488355328 by omega), decide_eq_true (show r.length + (0 + 1 + 1) + c.1.size ≤ 140737488355328 by omega), decide_eq_true (show (r.length + (0 + 1 + 1) + c.1.size + (0 + 1)) * 1 ≤ 140737488355328 by omega), decide_eq_true (show r.length + (0 + 1 + 1) + c.1.size + (0 + 1) + c.2.1.size ≤ 140737488355328 by omega)]
      unfold chgL
      simp only [cond_true]
      cases c.2.2.1 <;> simp only [cond_true, cond_false, List.append_assoc]) (fun m r _ => by
      show lo_spec_FormBatch_6 (m + 1) a0 (a0.length : Int) r = _
      simp only [lo_spec_FormBatch_6, tr_spec_FormBatch_6]
      rw [cLtF]
      rfl) (fun i r hi hr => hr.step (hok i hi)) a0.length (fu_spec_FormBatch_6 a0 0 []) 0 [] (by omega) (by simp [fu_spec_FormBatch_6, nI]) ⟨by simp, rfl⟩
    rw [iter_cat chgL zC a0 a0.length 0 [] (by omega), List.nil_append, List.drop_zero] at hL
    refine bi_ hL ?_
    rfl
noncomputable def ou_spec_FormBatch_6 {R : Type} (k : Kt R) : ((List Int) × Unit) → Option R := (fun d => k (.exit 0) (((pa_spec_FormBatch 6).2 2).st d) (((pa_spec_FormBatch 6).2 2).nid))
noncomputable def L_spec_FormBatch {R : Type} : Lt R pa_spec_FormBatch := (addL (pat := pa_spec_FormBatch) 6 (fun d k => (lo_spec_FormBatch_6 (fu_spec_FormBatch_6 d.1 d.2.1 d.2.2.1) d.1 d.2.1 d.2.2.1).bind (ou_spec_FormBatch_6 k)) noL)
theorem rd_spec_FormBatch_6 {R : Type} (nx : (pa_spec_FormBatch 6).1.D → Kt R → Option R) (k : Kt R) (v0 : List (ByteArray × ByteArray × Bool × Unit)) (v4 : Int) (r0 : List Int) : ev Try.prog ⟨ta_spec_FormBatch, 0, 70, pa_spec_FormBatch⟩ L_spec_FormBatch co_spec_FormBatch_6 ((pa_spec_FormBatch 6).1.st (v0, v4, r0, ())) (pa_spec_FormBatch 6).1.nid (roundK 0 (pa_spec_FormBatch 6) nx k) = tr_spec_FormBatch_6  (fun d => nx d k) (fun d => k (.exit 0) (((pa_spec_FormBatch 6).2 2).st d) (((pa_spec_FormBatch 6).2 2).nid)) v0 v4 r0 := by kernel_rfl
theorem lp_spec_FormBatch_6 {R : Type} : ∀ (m : Nat) (d : (pa_spec_FormBatch 6).1.D) (k : Kt R), loopN 0 (pa_spec_FormBatch 6) (fun s nid k => ev Try.prog ⟨ta_spec_FormBatch, 0, 70, pa_spec_FormBatch⟩ L_spec_FormBatch co_spec_FormBatch_6 s nid k) m d k = (lo_spec_FormBatch_6 m d.1 d.2.1 d.2.2.1).bind (ou_spec_FormBatch_6 k)
  | 0, _, _ => rfl
  | m + 1, ⟨v0, v4, r0, ⟨⟩⟩, k => (rd_spec_FormBatch_6 _ k v0 v4 r0).trans ((congrArg (fun F => tr_spec_FormBatch_6  F (fun d => k (.exit 0) (((pa_spec_FormBatch 6).2 2).st d) (((pa_spec_FormBatch 6).2 2).nid)) v0 v4 r0) (funext fun d => lp_spec_FormBatch_6 m d k)).trans (na_spec_FormBatch_6 (f := ou_spec_FormBatch_6 k)  (fun d => lo_spec_FormBatch_6 m d.1 d.2.1 d.2.2.1) (fun d => some (d)) v0 v4 r0))
theorem en_spec_FormBatch (a0 : List (ByteArray × ByteArray × Bool × Unit)) : evalF Try.prog ta_spec_FormBatch pa_spec_FormBatch sg_spec_FormBatch Try.f121 L_spec_FormBatch (a0, ()) = de_spec_FormBatch a0 := by kernel_rfl
theorem si_spec_FormBatch : SigsOk Try.prog ta_spec_FormBatch := SigsOk.of fun f sd h => by
  try dsimp only [Tb.of, ta_spec_FormBatch] at h
  split at h
  · rename_i e; subst e; cases h; exact sn_spec_ValidBatch
  cases h
theorem lk_spec_FormBatch_6 {R : Type} : LoopOk Try.prog R 70 0 pa_spec_FormBatch L_spec_FormBatch co_spec_FormBatch_6 :=
  loop_key (cfg := ⟨ta_spec_FormBatch, 0, 70, pa_spec_FormBatch⟩) (key := 6) (by kernel_rfl) (by kernel_rfl) si_spec_FormBatch rfl rfl (fun d k r h => ⟨fu_spec_FormBatch_6 d.1 d.2.1 d.2.2.1, (lp_spec_FormBatch_6 _ d k).trans h⟩) (fun c hc => by rw [show loopsIn co_spec_FormBatch_6 = [] from by kernel_rfl] at hc; cases hc)
theorem sn_spec_FormBatch : Callable Try.prog 121 ∧ Sound Try.prog 121 sd_spec_FormBatch.sg sd_spec_FormBatch.den :=
  fn_loops (pat := pa_spec_FormBatch) L_spec_FormBatch (by kernel_rfl) si_spec_FormBatch Try.func121 (by kernel_rfl) (by kernel_rfl) (fun c hc => by rw [show loopsIn (bodyOf Try.f121) = [co_spec_FormBatch_6] from by kernel_rfl] at hc; simp only [List.mem_cons, List.not_mem_nil, or_false] at hc; rcases hc with rfl <;> first | exact lk_spec_FormBatch_6) fun x r h => by
    obtain ⟨a0, ⟨⟩⟩ := x; rw [← h]; exact (en_spec_FormBatch a0).trans (eq_spec_FormBatch a0)
def sg_spec_l1Part : Sig := ⟨[.rd (.int .i64)], [none], [.rd (.int .i64)], [none]⟩
noncomputable def ta_spec_l1Part : Tb := Tb.of fun f => none
def pa_spec_l1Part : Nat → Pat × (Nat → Pat) := fun k => (⟨[], [], []⟩, fun _ => ⟨[], [], []⟩)
noncomputable def de_spec_l1Part (a0 : Int) : Option ((((Int) × Unit) × (Unit))) :=
  some ((IntKind.wrap IntKind.i64 (IntKind.wrap IntKind.i64 (64 - a0) - 8), ()), ())
noncomputable def sd_spec_l1Part : SD := ⟨sg_spec_l1Part, fun x => de_spec_l1Part x.1⟩
theorem en_spec_l1Part (a0 : Int) : evalF Try.prog ta_spec_l1Part pa_spec_l1Part sg_spec_l1Part Try.f136 noL (a0, ()) = de_spec_l1Part a0 := by kernel_rfl
theorem si_spec_l1Part : SigsOk Try.prog ta_spec_l1Part := SigsOk.of fun f sd h => by
  try dsimp only [Tb.of, ta_spec_l1Part] at h
  cases h
theorem sn_spec_l1Part : Callable Try.prog 136 ∧ Sound Try.prog 136 sd_spec_l1Part.sg sd_spec_l1Part.den :=
  fn_plain (pat := pa_spec_l1Part) (by kernel_rfl) si_spec_l1Part Try.func136 (by kernel_rfl) (by kernel_rfl) (by kernel_rfl) fun x r h => by
    obtain ⟨a0, ⟨⟩⟩ := x; exact (en_spec_l1Part a0).trans h
def m_spec_l3Parts (s : ByteArray) (w : Int) : Option (List ByteArray) := if s.size ≤ 1099511627776 ∧ 1 ≤ w ∧ w ≤ 8 then some (partsS s w) else none
def fu_spec_l3Parts_4 (v0 : ByteArray) (v6 : Int) (r0 : List ByteArray) : Nat := v0.size + 1
def sg_spec_l3Parts : Sig := ⟨[.rd .str, .rd (.int .i64)], [none, none], [.own 9 .str], [none]⟩
noncomputable def sd_spec_l3Parts : SD := ⟨sg_spec_l3Parts, fun x => (m_spec_l3Parts x.1 x.2.1).bind fun r => some ((r, ()), (()))⟩
noncomputable def ta_spec_l3Parts : Tb := Tb.of fun f => if f = 136 then some sd_spec_l1Part else none
def pa_spec_l3Parts : Nat → Pat × (Nat → Pat) := fun k => if k = 4 then (⟨[.row 5 0 9 .str], [(0, .lf (.d .str)), (5, .lf (.row 0)), (6, .lf (.d (.int .i64)))], [.row 9 .str]⟩, fun e => if e = 2 then ⟨[.row 5 0 9 .str], [(0, .lf (.d .str)), (5, .lf (.row 0))], [.row 9 .str]⟩ else ⟨[], [], []⟩) else (⟨[], [], []⟩, fun _ => ⟨[], [], []⟩)
noncomputable def co_spec_l3Parts_4 : Code := (loopsIn (bodyOf Try.f163)).getD 0 .skip
noncomputable def tr_spec_l3Parts_4 {R : Type}  (NX : ((ByteArray) × (Int) × (List ByteArray) × Unit) → Option R) (X2 : ((ByteArray) × (List ByteArray) × Unit) → Option R) (v0 : ByteArray) (v6 : Int) (r0 : List ByteArray) : Option R :=
  bif decide (nI (ByteArray.size v0) > v6) then
    bif decide (0 ≤ v6) then
      bif decide (v6 ≤ nI (ByteArray.size v0)) then
        bif decide ((List.length r0 + List.length [cutOf v0 0 v6]) * 16 ≤ 140737488355328) then
          bif decide (0 ≤ v6) then bif decide (v6 ≤ nI (ByteArray.size v0)) then NX (cutOf v0 v6 (nI (ByteArray.size v0)), v6, r0 ++ [cutOf v0 0 v6], ()) else none else none
        else none
      else none
    else none
  else X2 (v0, r0, ())
noncomputable def lo_spec_l3Parts_4 : Nat → (ByteArray) → (Int) → (List ByteArray) →  Option ((ByteArray) × (List ByteArray) × Unit)
  | 0, _, _, _ => none
  | m + 1, v0, v6, r0 => tr_spec_l3Parts_4  (fun d => lo_spec_l3Parts_4 m d.1 d.2.1 d.2.2.1) (fun d => some (d)) v0 v6 r0
theorem na_spec_l3Parts_4 {R S : Type}  (NX : ((ByteArray) × (Int) × (List ByteArray) × Unit) → Option R) (X2 : ((ByteArray) × (List ByteArray) × Unit) → Option R) (v0 : ByteArray) (v6 : Int) (r0 : List ByteArray) (f : R → Option S) : tr_spec_l3Parts_4  (fun d => (NX d).bind f) (fun d => (X2 d).bind f) v0 v6 r0 = (tr_spec_l3Parts_4  NX X2 v0 v6 r0).bind f := by
  unfold tr_spec_l3Parts_4
  simp only [cond_bind, ite_bind, onSum_bind, Option.bind_assoc, Option.bind_none, Option.bind_some]
noncomputable def de_spec_l3Parts (a0 : ByteArray) (a1 : Int) : Option ((((List ByteArray) × Unit) × (Unit))) :=
  Option.bind ((fun d => lo_spec_l3Parts_4 (fu_spec_l3Parts_4 d.1 d.2.1 d.2.2.1) d.1 d.2.1 d.2.2.1) (a0, IntKind.wrap IntKind.i64 (IntKind.wrap IntKind.i64 (64 - a1) - 8), [], ())) fun val =>
    bif decide ((List.length val.snd.fst + List.length [val.fst]) * 16 ≤ 140737488355328) then some ((val.snd.fst ++ [val.fst], ()), ()) else none
theorem parts_loop (n : Nat) (hn : 1 ≤ n) (hn2 : n ≤ 64) : ∀ (k m : Nat) (s : ByteArray) (r : List ByteArray), s.size ≤ k → k < m → r.length + s.size ≤ 1099511627777 →
    ∃ q t, lo_spec_l3Parts_4 m s n r = some (t, q, ()) ∧ q ++ [t] = r ++ partsGo n k s ∧ q.length + 1 ≤ 1099511627778
  | 0, m + 1, s, r, hs, hm, hr => by
    refine ⟨r, s, ?_, rfl, by omega⟩
    simp only [lo_spec_l3Parts_4, tr_spec_l3Parts_4]
    rw [decide_eq_false (show ¬ (nI s.size > (n : Int)) by simp only [nI]; omega)]
    rfl
  | k + 1, m + 1, s, r, hs, hm, hr => by
    by_cases q : s.size > n
    · have hc : (cutOf s n (nI s.size)).size = s.size - n := by rw [cutOf_size (by omega) (by simp only [nI]; omega) (by simp [nI])]; simp only [nI]; omega
      obtain ⟨q', t', e1, e2, e3⟩ := parts_loop n hn hn2 k m (cutOf s n (nI s.size)) (r ++ [cutOf s 0 n]) (by omega) (by omega) (by rw [List.length_append, List.length_singleton]; omega)
      refine ⟨q', t', ?_, ?_, e3⟩
      · simp only [lo_spec_l3Parts_4, tr_spec_l3Parts_4]
        rw [decide_eq_true (show nI s.size > (n : Int) by simp only [nI]; omega), cLe0, decide_eq_true (show (n : Int) ≤ nI s.size by simp only [nI]; omega), decide_eq_true (show (r.length + [cutOf s 0 n].length) * 16 ≤ 140737488355328 by rw [List.length_singleton]; omega)]
        exact e1
      · rw [e2, List.append_assoc]
        simp only [partsGo, if_pos q]
        rfl
    · refine ⟨r, s, ?_, by simp only [partsGo, if_neg q], by omega⟩
      simp only [lo_spec_l3Parts_4, tr_spec_l3Parts_4]
      rw [decide_eq_false (show ¬ (nI s.size > (n : Int)) by simp only [nI]; omega)]
      rfl
theorem eq_spec_l3Parts (a0 : ByteArray) (a1 : Int) r (h : m_spec_l3Parts a0 a1 = some r) : de_spec_l3Parts a0 a1 = some ((r, ()), (())) := by
  unfold m_spec_l3Parts at h
  split at h
  · rename_i hc
    cases h
    obtain ⟨h0, h1, h2⟩ := hc
    obtain ⟨n, hn⟩ : ∃ n : Nat, 56 - a1 = (n : Int) := ⟨(56 - a1).toNat, by omega⟩
    unfold de_spec_l3Parts partsS
    rw [wrap_ok (n := 64 - a1) (by omega) (by omega), wrap_ok (n := 64 - a1 - 8) (by omega) (by omega), show 64 - a1 - 8 = 56 - a1 by omega, hn, Int.toNat_natCast]
    obtain ⟨q, t, e1, e2, e3⟩ := parts_loop n (by omega) (by omega) a0.size (fu_spec_l3Parts_4 a0 n []) a0 [] (by omega) (by simp only [fu_spec_l3Parts_4]; omega) (by rw [List.length_nil]; omega)
    rw [List.nil_append] at e2
    refine bi_ e1 ?_
    show (bif decide ((q.length + [t].length) * 16 ≤ 140737488355328) then some ((q ++ [t], ()), ()) else none) = _
    rw [decide_eq_true (by rw [List.length_singleton]; omega), e2]
    rfl
  · cases h
noncomputable def ou_spec_l3Parts_4 {R : Type} (k : Kt R) : ((ByteArray) × (List ByteArray) × Unit) → Option R := (fun d => k (.exit 0) (((pa_spec_l3Parts 4).2 2).st d) (((pa_spec_l3Parts 4).2 2).nid))
noncomputable def L_spec_l3Parts {R : Type} : Lt R pa_spec_l3Parts := (addL (pat := pa_spec_l3Parts) 4 (fun d k => (lo_spec_l3Parts_4 (fu_spec_l3Parts_4 d.1 d.2.1 d.2.2.1) d.1 d.2.1 d.2.2.1).bind (ou_spec_l3Parts_4 k)) noL)
theorem rd_spec_l3Parts_4 {R : Type} (nx : (pa_spec_l3Parts 4).1.D → Kt R → Option R) (k : Kt R) (v0 : ByteArray) (v6 : Int) (r0 : List ByteArray) : ev Try.prog ⟨ta_spec_l3Parts, 0, 27, pa_spec_l3Parts⟩ L_spec_l3Parts co_spec_l3Parts_4 ((pa_spec_l3Parts 4).1.st (v0, v6, r0, ())) (pa_spec_l3Parts 4).1.nid (roundK 0 (pa_spec_l3Parts 4) nx k) = tr_spec_l3Parts_4  (fun d => nx d k) (fun d => k (.exit 0) (((pa_spec_l3Parts 4).2 2).st d) (((pa_spec_l3Parts 4).2 2).nid)) v0 v6 r0 := by kernel_rfl
theorem lp_spec_l3Parts_4 {R : Type} : ∀ (m : Nat) (d : (pa_spec_l3Parts 4).1.D) (k : Kt R), loopN 0 (pa_spec_l3Parts 4) (fun s nid k => ev Try.prog ⟨ta_spec_l3Parts, 0, 27, pa_spec_l3Parts⟩ L_spec_l3Parts co_spec_l3Parts_4 s nid k) m d k = (lo_spec_l3Parts_4 m d.1 d.2.1 d.2.2.1).bind (ou_spec_l3Parts_4 k)
  | 0, _, _ => rfl
  | m + 1, ⟨v0, v6, r0, ⟨⟩⟩, k => (rd_spec_l3Parts_4 _ k v0 v6 r0).trans ((congrArg (fun F => tr_spec_l3Parts_4  F (fun d => k (.exit 0) (((pa_spec_l3Parts 4).2 2).st d) (((pa_spec_l3Parts 4).2 2).nid)) v0 v6 r0) (funext fun d => lp_spec_l3Parts_4 m d k)).trans (na_spec_l3Parts_4 (f := ou_spec_l3Parts_4 k)  (fun d => lo_spec_l3Parts_4 m d.1 d.2.1 d.2.2.1) (fun d => some (d)) v0 v6 r0))
theorem en_spec_l3Parts (a0 : ByteArray) (a1 : Int) : evalF Try.prog ta_spec_l3Parts pa_spec_l3Parts sg_spec_l3Parts Try.f163 L_spec_l3Parts (a0, a1, ()) = de_spec_l3Parts a0 a1 := by kernel_rfl
theorem si_spec_l3Parts : SigsOk Try.prog ta_spec_l3Parts := SigsOk.of fun f sd h => by
  try dsimp only [Tb.of, ta_spec_l3Parts] at h
  split at h
  · rename_i e; subst e; cases h; exact sn_spec_l1Part
  cases h
theorem lk_spec_l3Parts_4 {R : Type} : LoopOk Try.prog R 27 0 pa_spec_l3Parts L_spec_l3Parts co_spec_l3Parts_4 :=
  loop_key (cfg := ⟨ta_spec_l3Parts, 0, 27, pa_spec_l3Parts⟩) (key := 4) (by kernel_rfl) (by kernel_rfl) si_spec_l3Parts rfl rfl (fun d k r h => ⟨fu_spec_l3Parts_4 d.1 d.2.1 d.2.2.1, (lp_spec_l3Parts_4 _ d k).trans h⟩) (fun c hc => by rw [show loopsIn co_spec_l3Parts_4 = [] from by kernel_rfl] at hc; cases hc)
theorem sn_spec_l3Parts : Callable Try.prog 163 ∧ Sound Try.prog 163 sd_spec_l3Parts.sg sd_spec_l3Parts.den :=
  fn_loops (pat := pa_spec_l3Parts) L_spec_l3Parts (by kernel_rfl) si_spec_l3Parts Try.func163 (by kernel_rfl) (by kernel_rfl) (fun c hc => by rw [show loopsIn (bodyOf Try.f163) = [co_spec_l3Parts_4] from by kernel_rfl] at hc; simp only [List.mem_cons, List.not_mem_nil, or_false] at hc; rcases hc with rfl <;> first | exact lk_spec_l3Parts_4) fun x r h => by
    obtain ⟨a0, a1, ⟨⟩⟩ := x; obtain ⟨y, h1, h2⟩ := Option.bind_eq_some_iff.1 (show (m_spec_l3Parts a0 a1).bind (fun r => some ((r, ()), (()))) = some r from h); cases h2; exact (en_spec_l3Parts a0 a1).trans (eq_spec_l3Parts a0 a1 _ h1)
def m_spec_Pages (s : ByteArray) (w : Int) : Option Int := if s.size ≤ 1099511627776 then some (bif inB w 1 8 then ((partsS s w).length : Int) else 0) else none
def sg_spec_Pages : Sig := ⟨[.rd .str, .rd (.int .i64)], [none, none], [.rd (.int .i64)], [none]⟩
noncomputable def sd_spec_Pages : SD := ⟨sg_spec_Pages, fun x => (m_spec_Pages x.1 x.2.1).bind fun r => some ((r, ()), (()))⟩
noncomputable def ta_spec_Pages : Tb := Tb.of fun f => if f = 96 then some sd_spec_l1Width else if f = 163 then some sd_spec_l3Parts else none
def pa_spec_Pages : Nat → Pat × (Nat → Pat) := fun k => (⟨[], [], []⟩, fun _ => ⟨[], [], []⟩)
noncomputable def de_spec_Pages (a0 : ByteArray) (a1 : Int) : Option ((((Int) × Unit) × (Unit))) :=
  Option.bind (bif decide (a1 ≥ 1) then some ((decide (a1 ≤ 8), ()), ()) else some ((false, ()), ())) fun val =>
    bif !val.fst.fst then some ((0, ()), ()) else Option.bind (Option.bind (m_spec_l3Parts a0 a1) fun val => some ((val, ()), ())) fun val => some ((nI (List.length val.fst.fst), ()), ())
theorem eq_spec_Pages (a0 : ByteArray) (a1 : Int) r (h : m_spec_Pages a0 a1 = some r) : de_spec_Pages a0 a1 = some ((r, ()), (())) := by
  unfold m_spec_Pages at h
  split at h
  · rename_i hc
    cases h
    unfold de_spec_Pages
    refine bi_ (wid a1) ?_
    show (bif !inB a1 1 8 then _ else _) = _
    cases hw : inB a1 1 8 with
    | false => rfl
    | true =>
      have n1 : m_spec_l3Parts a0 a1 = some (partsS a0 a1) := if_pos ⟨hc, inB_r hw⟩
      simp only [n1, Option.bind_some, Bool.not_true, cond_false, cond_true]
      try rfl
  · cases h
theorem en_spec_Pages (a0 : ByteArray) (a1 : Int) : evalF Try.prog ta_spec_Pages pa_spec_Pages sg_spec_Pages Try.f162 noL (a0, a1, ()) = de_spec_Pages a0 a1 := by kernel_rfl
theorem si_spec_Pages : SigsOk Try.prog ta_spec_Pages := SigsOk.of fun f sd h => by
  try dsimp only [Tb.of, ta_spec_Pages] at h
  split at h
  · rename_i e; subst e; cases h; exact sn_spec_l1Width
  split at h
  · rename_i e; subst e; cases h; exact sn_spec_l3Parts
  cases h
theorem sn_spec_Pages : Callable Try.prog 162 ∧ Sound Try.prog 162 sd_spec_Pages.sg sd_spec_Pages.den :=
  fn_plain (pat := pa_spec_Pages) (by kernel_rfl) si_spec_Pages Try.func162 (by kernel_rfl) (by kernel_rfl) (by kernel_rfl) fun x r h => by
    obtain ⟨a0, a1, ⟨⟩⟩ := x; obtain ⟨y, h1, h2⟩ := Option.bind_eq_some_iff.1 (show (m_spec_Pages a0 a1).bind (fun r => some ((r, ()), (()))) = some r from h); cases h2; exact (en_spec_Pages a0 a1).trans (eq_spec_Pages a0 a1 _ h1)
def m_spec_Room (s : Stt) (w : Int) : Int := roomS s w
def sg_spec_Room : Sig := ⟨[.rd (.pair (.sl (.pair .str (.pair .str .unit))) .unit), .rd (.int .i64)], [some 1, none], [.rd (.int .i64)], [none]⟩
noncomputable def sd_spec_Room : SD := ⟨sg_spec_Room, fun x => some (((m_spec_Room x.1 x.2.1), ()), (()))⟩
noncomputable def ta_spec_Room : Tb := Tb.of fun f => if f = 119 then some sd_spec_Snapshot else if f = 121 then some sd_spec_FormBatch else if f = 162 then some sd_spec_Pages else none
def pa_spec_Room : Nat → Pat × (Nat → Pat) := fun k => if k = 5 then (⟨[.sl 6 0 (.sl (.pair .str (.pair .str (.pair .bool .unit))))], [(1, .lf (.d (.int .i64))), (5, .lf (.d (.int .i64))), (6, .lf (.d (.sl (.sl (.pair .str (.pair .str (.pair .bool .unit))))))), (7, .lf (.d (.int .i64)))], []⟩, fun e => if e = 2 then ⟨[], [(5, .lf (.d (.int .i64)))], []⟩ else ⟨[], [], []⟩) else (⟨[], [], []⟩, fun _ => ⟨[], [], []⟩)
noncomputable def co_spec_Room_5 : Code := (loopsIn (bodyOf Try.f116)).getD 0 .skip
def fu_spec_Room_5 (v1 : Int) (v5 : Int) (v6 : List (List (ByteArray × ByteArray × Bool × Unit))) (v7 : Int) : Nat := ((v6.length : Int) - v7).toNat + 1
noncomputable def tr_spec_Room_5 {R : Type}  (NX : ((Int) × (Int) × (List (List (ByteArray × ByteArray × Bool × Unit))) × (Int) × Unit) → Option R) (X2 : ((Int) × Unit) → Option R) (v1 : Int) (v5 : Int) (v6 : List (List (ByteArray × ByteArray × Bool × Unit))) (v7 : Int) : Option R :=
  bif decide (v7 < nI (List.length v6)) then
    bif decide (0 ≤ v7) then
      bif decide (v7 < nI (List.length v6)) then
        Option.bind (Option.bind (m_spec_Pages (m_spec_FormBatch (List.getD v6 (Int.toNat v7) [])) v1) fun val => some ((val, ()), ())) fun val =>
          NX (v1, IntKind.wrap IntKind.i64 (v5 + val.fst.fst), v6, IntKind.wrap IntKind.i64 (v7 + 1), ())
      else none
    else none
  else X2 (v5, ())
noncomputable def lo_spec_Room_5 : Nat → (Int) → (Int) → (List (List (ByteArray × ByteArray × Bool × Unit))) → (Int) →  Option ((Int) × Unit)
  | 0, _, _, _, _ => none
  | m + 1, v1, v5, v6, v7 => tr_spec_Room_5  (fun d => lo_spec_Room_5 m d.1 d.2.1 d.2.2.1 d.2.2.2.1) (fun d => some (d)) v1 v5 v6 v7
theorem na_spec_Room_5 {R S : Type}  (NX : ((Int) × (Int) × (List (List (ByteArray × ByteArray × Bool × Unit))) × (Int) × Unit) → Option R) (X2 : ((Int) × Unit) → Option R) (v1 : Int) (v5 : Int) (v6 : List (List (ByteArray × ByteArray × Bool × Unit))) (v7 : Int) (f : R → Option S) : tr_spec_Room_5  (fun d => (NX d).bind f) (fun d => (X2 d).bind f) v1 v5 v6 v7 = (tr_spec_Room_5  NX X2 v1 v5 v6 v7).bind f := by
  unfold tr_spec_Room_5
  simp only [cond_bind, ite_bind, onSum_bind, Option.bind_assoc, Option.bind_none, Option.bind_some]
noncomputable def de_spec_Room (a0 : (List (ByteArray × ByteArray × Unit)) × Unit) (a1 : Int) : Option ((((Int) × Unit) × (Unit))) :=
  Option.bind ((fun d => lo_spec_Room_5 (fu_spec_Room_5 d.1 d.2.1 d.2.2.1 d.2.2.2.1) d.1 d.2.1 d.2.2.1 d.2.2.2.1) (a1, 0, m_spec_Snapshot (a0.fst, ()), 0, ())) fun val => some ((val.fst, ()), ())
theorem eq_spec_Room (a0 : Stt) (a1 : Int) : de_spec_Room a0 a1 = some (((m_spec_Room a0 a1), ()), (())) := by
  unfold de_spec_Room m_spec_Room
  have hl := snapS_len a0
  have hL := foldi_loop (xs := snapS a0) [] SumI (fun _ b a => a + pagesN (formB b).size a1) (g := fun m i a => lo_spec_Room_5 m a1 a (snapS a0) i) (ok := fun a => (a, ())) (fun m i a hi hI => by
    show lo_spec_Room_5 (m + 1) a1 a (snapS a0) i = _
    simp only [lo_spec_Room_5, tr_spec_Room_5]
    rw [cLt hi, cLe0, wI (show i < 4611686018427387904 by omega), Int.toNat_natCast]
    have e1 : m_spec_Pages (m_spec_FormBatch (List.getD (snapS a0) i [])) a1 = some (pagesN (formB (List.getD (snapS a0) i [])).size a1) := by
        rw [← pages_eq]
        exact if_pos (Nat.le_trans (formB_size _) (by decide))
    rw [e1]
    simp only [cond_true, Option.bind_some]
    rw [pages_wrap hI]) (fun i a hi hI => hI.step (by omega) _ _) (fun m a hI => by
    show lo_spec_Room_5 (m + 1) a1 a (snapS a0) ((snapS a0).length : Int) = _
    simp only [lo_spec_Room_5, tr_spec_Room_5]
    rw [cLtF]
    rfl) (fu_spec_Room_5 a1 0 (snapS a0) 0) 0 0 (by omega) (by simp [fu_spec_Room_5, nI]) ⟨by omega, by omega, by omega⟩
  have hL' : lo_spec_Room_5 (fu_spec_Room_5 a1 0 (snapS a0) 0) a1 0 (snapS a0) 0 = _ := hL
  show (lo_spec_Room_5 (fu_spec_Room_5 a1 0 (snapS a0) 0) a1 0 (snapS a0) 0).bind _ = _
  rw [hL', foldI_sum, List.drop_zero, room_all, Int.zero_add]
  rfl
noncomputable def ou_spec_Room_5 {R : Type} (k : Kt R) : ((Int) × Unit) → Option R := (fun d => k (.exit 0) (((pa_spec_Room 5).2 2).st d) (((pa_spec_Room 5).2 2).nid))
noncomputable def L_spec_Room {R : Type} : Lt R pa_spec_Room := (addL (pat := pa_spec_Room) 5 (fun d k => (lo_spec_Room_5 (fu_spec_Room_5 d.1 d.2.1 d.2.2.1 d.2.2.2.1) d.1 d.2.1 d.2.2.1 d.2.2.2.1).bind (ou_spec_Room_5 k)) noL)
theorem rd_spec_Room_5 {R : Type} (nx : (pa_spec_Room 5).1.D → Kt R → Option R) (k : Kt R) (v1 : Int) (v5 : Int) (v6 : List (List (ByteArray × ByteArray × Bool × Unit))) (v7 : Int) : ev Try.prog ⟨ta_spec_Room, 0, 26, pa_spec_Room⟩ L_spec_Room co_spec_Room_5 ((pa_spec_Room 5).1.st (v1, v5, v6, v7, ())) (pa_spec_Room 5).1.nid (roundK 0 (pa_spec_Room 5) nx k) = tr_spec_Room_5  (fun d => nx d k) (fun d => k (.exit 0) (((pa_spec_Room 5).2 2).st d) (((pa_spec_Room 5).2 2).nid)) v1 v5 v6 v7 := by kernel_rfl
theorem lp_spec_Room_5 {R : Type} : ∀ (m : Nat) (d : (pa_spec_Room 5).1.D) (k : Kt R), loopN 0 (pa_spec_Room 5) (fun s nid k => ev Try.prog ⟨ta_spec_Room, 0, 26, pa_spec_Room⟩ L_spec_Room co_spec_Room_5 s nid k) m d k = (lo_spec_Room_5 m d.1 d.2.1 d.2.2.1 d.2.2.2.1).bind (ou_spec_Room_5 k)
  | 0, _, _ => rfl
  | m + 1, ⟨v1, v5, v6, v7, ⟨⟩⟩, k => (rd_spec_Room_5 _ k v1 v5 v6 v7).trans ((congrArg (fun F => tr_spec_Room_5  F (fun d => k (.exit 0) (((pa_spec_Room 5).2 2).st d) (((pa_spec_Room 5).2 2).nid)) v1 v5 v6 v7) (funext fun d => lp_spec_Room_5 m d k)).trans (na_spec_Room_5 (f := ou_spec_Room_5 k)  (fun d => lo_spec_Room_5 m d.1 d.2.1 d.2.2.1 d.2.2.2.1) (fun d => some (d)) v1 v5 v6 v7))
theorem en_spec_Room (a0 : (List (ByteArray × ByteArray × Unit)) × Unit) (a1 : Int) : evalF Try.prog ta_spec_Room pa_spec_Room sg_spec_Room Try.f116 L_spec_Room (a0, a1, ()) = de_spec_Room a0 a1 := by kernel_rfl
theorem si_spec_Room : SigsOk Try.prog ta_spec_Room := SigsOk.of fun f sd h => by
  try dsimp only [Tb.of, ta_spec_Room] at h
  split at h
  · rename_i e; subst e; cases h; exact sn_spec_Snapshot
  split at h
  · rename_i e; subst e; cases h; exact sn_spec_FormBatch
  split at h
  · rename_i e; subst e; cases h; exact sn_spec_Pages
  cases h
theorem lk_spec_Room_5 {R : Type} : LoopOk Try.prog R 26 0 pa_spec_Room L_spec_Room co_spec_Room_5 :=
  loop_key (cfg := ⟨ta_spec_Room, 0, 26, pa_spec_Room⟩) (key := 5) (by kernel_rfl) (by kernel_rfl) si_spec_Room rfl rfl (fun d k r h => ⟨fu_spec_Room_5 d.1 d.2.1 d.2.2.1 d.2.2.2.1, (lp_spec_Room_5 _ d k).trans h⟩) (fun c hc => by rw [show loopsIn co_spec_Room_5 = [] from by kernel_rfl] at hc; cases hc)
theorem sn_spec_Room : Callable Try.prog 116 ∧ Sound Try.prog 116 sd_spec_Room.sg sd_spec_Room.den :=
  fn_loops (pat := pa_spec_Room) L_spec_Room (by kernel_rfl) si_spec_Room Try.func116 (by kernel_rfl) (by kernel_rfl) (fun c hc => by rw [show loopsIn (bodyOf Try.f116) = [co_spec_Room_5] from by kernel_rfl] at hc; simp only [List.mem_cons, List.not_mem_nil, or_false] at hc; rcases hc with rfl <;> first | exact lk_spec_Room_5) fun x r h => by
    obtain ⟨a0, a1, ⟨⟩⟩ := x; rw [← h]; exact (en_spec_Room a0 a1).trans (eq_spec_Room a0 a1)
def m_spec_ValidStore (s : Sto) : Bool := validStore s
def sg_spec_ValidStore : Sig := ⟨[.rd (.pair (.int .i64) (.pair (.int .i64) (.pair (.int .i64) (.pair (.pair (.int .i64) (.pair (.int .i64) (.pair (.int .i64) (.pair (.int .i64) .unit)))) (.pair (.int .i64) (.pair (.int .i64) (.pair (.pair (.sl (.pair .str (.pair .str .unit))) .unit) .unit)))))))], [some 10], [.rd .bool], [none]⟩
noncomputable def sd_spec_ValidStore : SD := ⟨sg_spec_ValidStore, fun x => some (((m_spec_ValidStore x.1), ()), (()))⟩
noncomputable def ta_spec_ValidStore : Tb := Tb.of fun f => if f = 96 then some sd_spec_l1Width else if f = 105 then some sd_spec_ValidState else if f = 114 then some sd_spec_Halves else if f = 115 then some sd_spec_l6In else if f = 116 then some sd_spec_Room else none
def pa_spec_ValidStore : Nat → Pat × (Nat → Pat) := fun k => (⟨[], [], []⟩, fun _ => ⟨[], [], []⟩)
noncomputable def de_spec_ValidStore (a0 : Int × Int × Int × (Int × Int × Int × Int × Unit) × Int × Int × ((List (ByteArray × ByteArray × Unit)) × Unit) × Unit) : Option ((((Bool) × Unit) × (Unit))) :=
  Option.bind (bif decide (a0.fst ≥ 1) then some ((decide (a0.fst ≤ 8), ()), ()) else some ((false, ()), ())) fun val =>
    bif !val.fst.fst then some ((false, ()), ())
    else
      bif m_spec_Halves a0.snd.fst == 0 then some ((false, ()), ())
      else
        bif !m_spec_l6In a0.snd.snd.fst 1 60000 then some ((false, ()), ())
        else
          bif !m_spec_l6In a0.snd.snd.snd.fst.fst 0 1000000000 then some ((false, ()), ())
          else
            bif !m_spec_l6In a0.snd.snd.snd.fst.snd.fst 0 1 then some ((false, ()), ())
            else
              bif !m_spec_l6In a0.snd.snd.snd.fst.snd.snd.fst 1 999999000 then some ((false, ()), ())
              else
                bif !m_spec_l6In a0.snd.snd.snd.fst.snd.snd.snd.fst 0 60000 then some ((false, ()), ())
                else
                  bif m_spec_l6In a0.snd.snd.snd.snd.fst 0 (m_spec_Halves a0.snd.fst) then
                    bif m_spec_l6In a0.snd.snd.snd.snd.snd.fst 0 a0.snd.snd.snd.snd.fst then
                      bif m_spec_ValidState (a0.snd.snd.snd.snd.snd.snd.fst.fst, ()) then
                        some ((decide (m_spec_Room (a0.snd.snd.snd.snd.snd.snd.fst.fst, ()) a0.fst ≤ IntKind.wrap IntKind.i64 (m_spec_Halves a0.snd.fst - 1)), ()), ())
                      else some ((false, ()), ())
                    else some ((false, ()), ())
                  else some ((false, ()), ())
theorem eq_spec_ValidStore (a0 : Sto) : de_spec_ValidStore a0 = some (((m_spec_ValidStore a0), ()), (())) := by
  unfold de_spec_ValidStore m_spec_ValidStore validStore
  refine bi_ (wid a0.1) ?_
  simp only [m_spec_Halves, m_spec_l6In, m_spec_ValidState, m_spec_Room, halves_wrap, andS, andN, halves_zero]
  simp only [rootOk, Bool.and_assoc]
  rw [Bool.and_left_comm]
theorem en_spec_ValidStore (a0 : Int × Int × Int × (Int × Int × Int × Int × Unit) × Int × Int × ((List (ByteArray × ByteArray × Unit)) × Unit) × Unit) : evalF Try.prog ta_spec_ValidStore pa_spec_ValidStore sg_spec_ValidStore Try.f48 noL (a0, ()) = de_spec_ValidStore a0 := by kernel_rfl
theorem si_spec_ValidStore : SigsOk Try.prog ta_spec_ValidStore := SigsOk.of fun f sd h => by
  try dsimp only [Tb.of, ta_spec_ValidStore] at h
  split at h
  · rename_i e; subst e; cases h; exact sn_spec_l1Width
  split at h
  · rename_i e; subst e; cases h; exact sn_spec_ValidState
  split at h
  · rename_i e; subst e; cases h; exact sn_spec_Halves
  split at h
  · rename_i e; subst e; cases h; exact sn_spec_l6In
  split at h
  · rename_i e; subst e; cases h; exact sn_spec_Room
  cases h
theorem sn_spec_ValidStore : Callable Try.prog 48 ∧ Sound Try.prog 48 sd_spec_ValidStore.sg sd_spec_ValidStore.den :=
  fn_plain (pat := pa_spec_ValidStore) (by kernel_rfl) si_spec_ValidStore Try.func48 (by kernel_rfl) (by kernel_rfl) (by kernel_rfl) fun x r h => by
    obtain ⟨a0, ⟨⟩⟩ := x; rw [← h]; exact (en_spec_ValidStore a0).trans (eq_spec_ValidStore a0)
def m_spec_l7NoStore (s : Sto) : Bool := noStore s
def sg_spec_l7NoStore : Sig := ⟨[.rd (.pair (.int .i64) (.pair (.int .i64) (.pair (.int .i64) (.pair (.pair (.int .i64) (.pair (.int .i64) (.pair (.int .i64) (.pair (.int .i64) .unit)))) (.pair (.int .i64) (.pair (.int .i64) (.pair (.pair (.sl (.pair .str (.pair .str .unit))) .unit) .unit)))))))], [some 10], [.rd .bool], [none]⟩
noncomputable def sd_spec_l7NoStore : SD := ⟨sg_spec_l7NoStore, fun x => some (((m_spec_l7NoStore x.1), ()), (()))⟩
noncomputable def ta_spec_l7NoStore : Tb := Tb.of fun f => none
def pa_spec_l7NoStore : Nat → Pat × (Nat → Pat) := fun k => (⟨[], [], []⟩, fun _ => ⟨[], [], []⟩)
noncomputable def de_spec_l7NoStore (a0 : Int × Int × Int × (Int × Int × Int × Int × Unit) × Int × Int × ((List (ByteArray × ByteArray × Unit)) × Unit) × Unit) : Option ((((Bool) × Unit) × (Unit))) :=
  bif a0.fst == 0 then
    bif a0.snd.fst == 0 then
      bif a0.snd.snd.fst == 0 then
        bif a0.snd.snd.snd.fst.fst == 0 && (a0.snd.snd.snd.fst.snd.fst == 0 && (a0.snd.snd.snd.fst.snd.snd.fst == 0 && (a0.snd.snd.snd.fst.snd.snd.snd.fst == 0 && true))) then
          bif a0.snd.snd.snd.snd.fst == 0 then bif a0.snd.snd.snd.snd.snd.fst == 0 then some ((nI (List.length a0.snd.snd.snd.snd.snd.snd.fst.fst) == 0, ()), ()) else some ((false, ()), ())
          else some ((false, ()), ())
        else some ((false, ()), ())
      else some ((false, ()), ())
    else some ((false, ()), ())
  else some ((false, ()), ())
theorem eq_spec_l7NoStore (a0 : Int × Int × Int × (Int × Int × Int × Int × Unit) × Int × Int × ((List (ByteArray × ByteArray × Unit)) × Unit) × Unit) : de_spec_l7NoStore a0 = some (((m_spec_l7NoStore a0), ()), (())) := by
  unfold de_spec_l7NoStore m_spec_l7NoStore noStore
  simp only [andS, Bool.and_true]
theorem en_spec_l7NoStore (a0 : Int × Int × Int × (Int × Int × Int × Int × Unit) × Int × Int × ((List (ByteArray × ByteArray × Unit)) × Unit) × Unit) : evalF Try.prog ta_spec_l7NoStore pa_spec_l7NoStore sg_spec_l7NoStore Try.f135 noL (a0, ()) = de_spec_l7NoStore a0 := by kernel_rfl
theorem si_spec_l7NoStore : SigsOk Try.prog ta_spec_l7NoStore := SigsOk.of fun f sd h => by
  try dsimp only [Tb.of, ta_spec_l7NoStore] at h
  cases h
theorem sn_spec_l7NoStore : Callable Try.prog 135 ∧ Sound Try.prog 135 sd_spec_l7NoStore.sg sd_spec_l7NoStore.den :=
  fn_plain (pat := pa_spec_l7NoStore) (by kernel_rfl) si_spec_l7NoStore Try.func135 (by kernel_rfl) (by kernel_rfl) (by kernel_rfl) fun x r h => by
    obtain ⟨a0, ⟨⟩⟩ := x; rw [← h]; exact (en_spec_l7NoStore a0).trans (eq_spec_l7NoStore a0)
def m_spec_ValidWorld (w : Wld) : Bool := validWorld w
def sg_spec_ValidWorld : Sig := ⟨[.rd (.pair (.int .i64) (.pair (.pair (.sl .str) (.pair (.sl (.pair (.int .i64) (.pair .str .unit))) .unit)) (.pair .bool (.pair (.pair (.int .i64) (.pair (.int .i64) (.pair (.int .i64) (.pair (.pair (.int .i64) (.pair (.int .i64) (.pair (.int .i64) (.pair (.int .i64) .unit)))) (.pair (.int .i64) (.pair (.int .i64) (.pair (.pair (.sl (.pair .str (.pair .str .unit))) .unit) .unit))))))) (.pair (.sl (.pair (.sl (.pair .str (.pair .str .unit))) .unit)) (.pair (.sl .str) .unit))))))], [some 16], [.rd .bool], [none]⟩
noncomputable def sd_spec_ValidWorld : SD := ⟨sg_spec_ValidWorld, fun x => some (((m_spec_ValidWorld x.1), ()), (()))⟩
noncomputable def ta_spec_ValidWorld : Tb := Tb.of fun f => if f = 21 then some sd_spec_ValidDisk else if f = 48 then some sd_spec_ValidStore else if f = 96 then some sd_spec_l1Width else if f = 105 then some sd_spec_ValidState else if f = 115 then some sd_spec_l6In else if f = 135 then some sd_spec_l7NoStore else none
def pa_spec_ValidWorld : Nat → Pat × (Nat → Pat) := fun k => if k = 7 then (⟨[.boxSl 1 1 .str, .boxSl 1 2 (.pair (.int .i64) (.pair .str .unit)), .boxSl 1 13 (.pair .str (.pair .str .unit)), .boxSl 1 14 (.pair (.sl (.pair .str (.pair .str .unit))) .unit), .boxSl 1 15 .str], [(1, .lf (.ptr 0 0)), (3, .lf (.d (.int .i64)))], [.box 72 [.d (.int .i64), .d (.sl .str), .d (.sl (.pair (.int .i64) (.pair .str .unit))), .d .bool, .d (.int .i64), .d (.int .i64), .d (.int .i64), .d (.int .i64), .d (.int .i64), .d (.int .i64), .d (.int .i64), .d (.int .i64), .d (.int .i64), .d (.sl (.pair .str (.pair .str .unit))), .d (.sl (.pair (.sl (.pair .str (.pair .str .unit))) .unit)), .d (.sl .str)]]⟩, fun e => if e = 1 then ⟨[], [(2, .lf (.d .bool))], []⟩ else if e = 2 then ⟨[.boxSl 1 1 .str, .boxSl 1 2 (.pair (.int .i64) (.pair .str .unit)), .boxSl 1 13 (.pair .str (.pair .str .unit)), .boxSl 1 14 (.pair (.sl (.pair .str (.pair .str .unit))) .unit), .boxSl 1 15 .str], [(1, .lf (.ptr 0 0))], [.box 72 [.d (.int .i64), .d (.sl .str), .d (.sl (.pair (.int .i64) (.pair .str .unit))), .d .bool, .d (.int .i64), .d (.int .i64), .d (.int .i64), .d (.int .i64), .d (.int .i64), .d (.int .i64), .d (.int .i64), .d (.int .i64), .d (.int .i64), .d (.sl (.pair .str (.pair .str .unit))), .d (.sl (.pair (.sl (.pair .str (.pair .str .unit))) .unit)), .d (.sl .str)]]⟩ else ⟨[], [], []⟩) else if k = 12 then (⟨[.boxSl 1 1 .str, .boxSl 1 2 (.pair (.int .i64) (.pair .str .unit)), .boxSl 1 13 (.pair .str (.pair .str .unit)), .boxSl 1 14 (.pair (.sl (.pair .str (.pair .str .unit))) .unit), .boxSl 1 15 .str], [(1, .lf (.ptr 0 0)), (4, .lf (.d (.int .i64)))], [.box 72 [.d (.int .i64), .d (.sl .str), .d (.sl (.pair (.int .i64) (.pair .str .unit))), .d .bool, .d (.int .i64), .d (.int .i64), .d (.int .i64), .d (.int .i64), .d (.int .i64), .d (.int .i64), .d (.int .i64), .d (.int .i64), .d (.int .i64), .d (.sl (.pair .str (.pair .str .unit))), .d (.sl (.pair (.sl (.pair .str (.pair .str .unit))) .unit)), .d (.sl .str)]]⟩, fun e => if e = 1 then ⟨[], [(2, .lf (.d .bool))], []⟩ else if e = 4 then ⟨[], [], []⟩ else ⟨[], [], []⟩) else (⟨[], [], []⟩, fun _ => ⟨[], [], []⟩)
noncomputable def co_spec_ValidWorld_7 : Code := (loopsIn (bodyOf Try.f76)).getD 0 .skip
noncomputable def co_spec_ValidWorld_12 : Code := (loopsIn (bodyOf Try.f76)).getD 1 .skip
def fu_spec_ValidWorld_12 (v4 : Int) (b0_0 : Int) (b0_1 : List ByteArray) (b0_2 : List (Int × ByteArray × Unit)) (b0_3 : Bool) (b0_4 : Int) (b0_5 : Int) (b0_6 : Int) (b0_7 : Int) (b0_8 : Int) (b0_9 : Int) (b0_10 : Int) (b0_11 : Int) (b0_12 : Int) (b0_13 : List (ByteArray × ByteArray × Unit)) (b0_14 : List ((List (ByteArray × ByteArray × Unit)) × Unit)) (b0_15 : List ByteArray) : Nat := ((b0_15.length : Int) - v4).toNat + 1
noncomputable def tr_spec_ValidWorld_12 {R : Type}  (NX : ((Int) × (Int) × (List ByteArray) × (List (Int × ByteArray × Unit)) × (Bool) × (Int) × (Int) × (Int) × (Int) × (Int) × (Int) × (Int) × (Int) × (Int) × (List (ByteArray × ByteArray × Unit)) × (List ((List (ByteArray × ByteArray × Unit)) × Unit)) × (List ByteArray) × Unit) → Option R) (X4 : (Unit) → Option R) (X1 : ((Bool) × Unit) → Option R) (v4 : Int) (b0_0 : Int) (b0_1 : List ByteArray) (b0_2 : List (Int × ByteArray × Unit)) (b0_3 : Bool) (b0_4 : Int) (b0_5 : Int) (b0_6 : Int) (b0_7 : Int) (b0_8 : Int) (b0_9 : Int) (b0_10 : Int) (b0_11 : Int) (b0_12 : Int) (b0_13 : List (ByteArray × ByteArray × Unit)) (b0_14 : List ((List (ByteArray × ByteArray × Unit)) × Unit)) (b0_15 : List ByteArray) : Option R :=
  bif decide (v4 < nI (List.length b0_15)) then
    bif decide (0 ≤ v4) then
      bif decide (v4 < nI (List.length b0_15)) then
        bif nI (ByteArray.size (List.getD b0_15 (Int.toNat v4) (ByteArray.mk #[]))) != 64 then X1 (false, ())
        else NX (IntKind.wrap IntKind.i64 (v4 + 1), b0_0, b0_1, b0_2, b0_3, b0_4, b0_5, b0_6, b0_7, b0_8, b0_9, b0_10, b0_11, b0_12, b0_13, b0_14, b0_15, ())
      else none
    else none
  else X4 PUnit.unit
noncomputable def lo_spec_ValidWorld_12 : Nat → (Int) → (Int) → (List ByteArray) → (List (Int × ByteArray × Unit)) → (Bool) → (Int) → (Int) → (Int) → (Int) → (Int) → (Int) → (Int) → (Int) → (Int) → (List (ByteArray × ByteArray × Unit)) → (List ((List (ByteArray × ByteArray × Unit)) × Unit)) → (List ByteArray) →  Option ((Unit) ⊕ ((Bool) × Unit))
  | 0, _, _, _, _, _, _, _, _, _, _, _, _, _, _, _, _, _ => none
  | m + 1, v4, b0_0, b0_1, b0_2, b0_3, b0_4, b0_5, b0_6, b0_7, b0_8, b0_9, b0_10, b0_11, b0_12, b0_13, b0_14, b0_15 => tr_spec_ValidWorld_12  (fun d => lo_spec_ValidWorld_12 m d.1 d.2.1 d.2.2.1 d.2.2.2.1 d.2.2.2.2.1 d.2.2.2.2.2.1 d.2.2.2.2.2.2.1 d.2.2.2.2.2.2.2.1 d.2.2.2.2.2.2.2.2.1 d.2.2.2.2.2.2.2.2.2.1 d.2.2.2.2.2.2.2.2.2.2.1 d.2.2.2.2.2.2.2.2.2.2.2.1 d.2.2.2.2.2.2.2.2.2.2.2.2.1 d.2.2.2.2.2.2.2.2.2.2.2.2.2.1 d.2.2.2.2.2.2.2.2.2.2.2.2.2.2.1 d.2.2.2.2.2.2.2.2.2.2.2.2.2.2.2.1 d.2.2.2.2.2.2.2.2.2.2.2.2.2.2.2.2.1) (fun d => some (.inl (d))) (fun d => some (.inr (d))) v4 b0_0 b0_1 b0_2 b0_3 b0_4 b0_5 b0_6 b0_7 b0_8 b0_9 b0_10 b0_11 b0_12 b0_13 b0_14 b0_15
theorem na_spec_ValidWorld_12 {R S : Type}  (NX : ((Int) × (Int) × (List ByteArray) × (List (Int × ByteArray × Unit)) × (Bool) × (Int) × (Int) × (Int) × (Int) × (Int) × (Int) × (Int) × (Int) × (Int) × (List (ByteArray × ByteArray × Unit)) × (List ((List (ByteArray × ByteArray × Unit)) × Unit)) × (List ByteArray) × Unit) → Option R) (X4 : (Unit) → Option R) (X1 : ((Bool) × Unit) → Option R) (v4 : Int) (b0_0 : Int) (b0_1 : List ByteArray) (b0_2 : List (Int × ByteArray × Unit)) (b0_3 : Bool) (b0_4 : Int) (b0_5 : Int) (b0_6 : Int) (b0_7 : Int) (b0_8 : Int) (b0_9 : Int) (b0_10 : Int) (b0_11 : Int) (b0_12 : Int) (b0_13 : List (ByteArray × ByteArray × Unit)) (b0_14 : List ((List (ByteArray × ByteArray × Unit)) × Unit)) (b0_15 : List ByteArray) (f : R → Option S) : tr_spec_ValidWorld_12  (fun d => (NX d).bind f) (fun d => (X4 d).bind f) (fun d => (X1 d).bind f) v4 b0_0 b0_1 b0_2 b0_3 b0_4 b0_5 b0_6 b0_7 b0_8 b0_9 b0_10 b0_11 b0_12 b0_13 b0_14 b0_15 = (tr_spec_ValidWorld_12  NX X4 X1 v4 b0_0 b0_1 b0_2 b0_3 b0_4 b0_5 b0_6 b0_7 b0_8 b0_9 b0_10 b0_11 b0_12 b0_13 b0_14 b0_15).bind f := by
  unfold tr_spec_ValidWorld_12
  simp only [cond_bind, ite_bind, onSum_bind, Option.bind_assoc, Option.bind_none, Option.bind_some]
def fu_spec_ValidWorld_7 (v3 : Int) (b0_0 : Int) (b0_1 : List ByteArray) (b0_2 : List (Int × ByteArray × Unit)) (b0_3 : Bool) (b0_4 : Int) (b0_5 : Int) (b0_6 : Int) (b0_7 : Int) (b0_8 : Int) (b0_9 : Int) (b0_10 : Int) (b0_11 : Int) (b0_12 : Int) (b0_13 : List (ByteArray × ByteArray × Unit)) (b0_14 : List ((List (ByteArray × ByteArray × Unit)) × Unit)) (b0_15 : List ByteArray) : Nat := ((b0_14.length : Int) - v3).toNat + 1
noncomputable def tr_spec_ValidWorld_7 {R : Type}  (NX : ((Int) × (Int) × (List ByteArray) × (List (Int × ByteArray × Unit)) × (Bool) × (Int) × (Int) × (Int) × (Int) × (Int) × (Int) × (Int) × (Int) × (Int) × (List (ByteArray × ByteArray × Unit)) × (List ((List (ByteArray × ByteArray × Unit)) × Unit)) × (List ByteArray) × Unit) → Option R) (X2 : ((Int) × (List ByteArray) × (List (Int × ByteArray × Unit)) × (Bool) × (Int) × (Int) × (Int) × (Int) × (Int) × (Int) × (Int) × (Int) × (Int) × (List (ByteArray × ByteArray × Unit)) × (List ((List (ByteArray × ByteArray × Unit)) × Unit)) × (List ByteArray) × Unit) → Option R) (X1 : ((Bool) × Unit) → Option R) (v3 : Int) (b0_0 : Int) (b0_1 : List ByteArray) (b0_2 : List (Int × ByteArray × Unit)) (b0_3 : Bool) (b0_4 : Int) (b0_5 : Int) (b0_6 : Int) (b0_7 : Int) (b0_8 : Int) (b0_9 : Int) (b0_10 : Int) (b0_11 : Int) (b0_12 : Int) (b0_13 : List (ByteArray × ByteArray × Unit)) (b0_14 : List ((List (ByteArray × ByteArray × Unit)) × Unit)) (b0_15 : List ByteArray) : Option R :=
  bif decide (v3 < nI (List.length b0_14)) then
    bif decide (0 ≤ v3) then
      bif decide (v3 < nI (List.length b0_14)) then
        bif !m_spec_ValidState ((List.getD b0_14 (Int.toNat v3) ([], ())).fst, ()) then X1 (false, ())
        else NX (IntKind.wrap IntKind.i64 (v3 + 1), b0_0, b0_1, b0_2, b0_3, b0_4, b0_5, b0_6, b0_7, b0_8, b0_9, b0_10, b0_11, b0_12, b0_13, b0_14, b0_15, ())
      else none
    else none
  else X2 (b0_0, b0_1, b0_2, b0_3, b0_4, b0_5, b0_6, b0_7, b0_8, b0_9, b0_10, b0_11, b0_12, b0_13, b0_14, b0_15, ())
noncomputable def lo_spec_ValidWorld_7 : Nat → (Int) → (Int) → (List ByteArray) → (List (Int × ByteArray × Unit)) → (Bool) → (Int) → (Int) → (Int) → (Int) → (Int) → (Int) → (Int) → (Int) → (Int) → (List (ByteArray × ByteArray × Unit)) → (List ((List (ByteArray × ByteArray × Unit)) × Unit)) → (List ByteArray) →  Option (((Int) × (List ByteArray) × (List (Int × ByteArray × Unit)) × (Bool) × (Int) × (Int) × (Int) × (Int) × (Int) × (Int) × (Int) × (Int) × (Int) × (List (ByteArray × ByteArray × Unit)) × (List ((List (ByteArray × ByteArray × Unit)) × Unit)) × (List ByteArray) × Unit) ⊕ ((Bool) × Unit))
  | 0, _, _, _, _, _, _, _, _, _, _, _, _, _, _, _, _, _ => none
  | m + 1, v3, b0_0, b0_1, b0_2, b0_3, b0_4, b0_5, b0_6, b0_7, b0_8, b0_9, b0_10, b0_11, b0_12, b0_13, b0_14, b0_15 => tr_spec_ValidWorld_7  (fun d => lo_spec_ValidWorld_7 m d.1 d.2.1 d.2.2.1 d.2.2.2.1 d.2.2.2.2.1 d.2.2.2.2.2.1 d.2.2.2.2.2.2.1 d.2.2.2.2.2.2.2.1 d.2.2.2.2.2.2.2.2.1 d.2.2.2.2.2.2.2.2.2.1 d.2.2.2.2.2.2.2.2.2.2.1 d.2.2.2.2.2.2.2.2.2.2.2.1 d.2.2.2.2.2.2.2.2.2.2.2.2.1 d.2.2.2.2.2.2.2.2.2.2.2.2.2.1 d.2.2.2.2.2.2.2.2.2.2.2.2.2.2.1 d.2.2.2.2.2.2.2.2.2.2.2.2.2.2.2.1 d.2.2.2.2.2.2.2.2.2.2.2.2.2.2.2.2.1) (fun d => some (.inl (d))) (fun d => some (.inr (d))) v3 b0_0 b0_1 b0_2 b0_3 b0_4 b0_5 b0_6 b0_7 b0_8 b0_9 b0_10 b0_11 b0_12 b0_13 b0_14 b0_15
theorem na_spec_ValidWorld_7 {R S : Type}  (NX : ((Int) × (Int) × (List ByteArray) × (List (Int × ByteArray × Unit)) × (Bool) × (Int) × (Int) × (Int) × (Int) × (Int) × (Int) × (Int) × (Int) × (Int) × (List (ByteArray × ByteArray × Unit)) × (List ((List (ByteArray × ByteArray × Unit)) × Unit)) × (List ByteArray) × Unit) → Option R) (X2 : ((Int) × (List ByteArray) × (List (Int × ByteArray × Unit)) × (Bool) × (Int) × (Int) × (Int) × (Int) × (Int) × (Int) × (Int) × (Int) × (Int) × (List (ByteArray × ByteArray × Unit)) × (List ((List (ByteArray × ByteArray × Unit)) × Unit)) × (List ByteArray) × Unit) → Option R) (X1 : ((Bool) × Unit) → Option R) (v3 : Int) (b0_0 : Int) (b0_1 : List ByteArray) (b0_2 : List (Int × ByteArray × Unit)) (b0_3 : Bool) (b0_4 : Int) (b0_5 : Int) (b0_6 : Int) (b0_7 : Int) (b0_8 : Int) (b0_9 : Int) (b0_10 : Int) (b0_11 : Int) (b0_12 : Int) (b0_13 : List (ByteArray × ByteArray × Unit)) (b0_14 : List ((List (ByteArray × ByteArray × Unit)) × Unit)) (b0_15 : List ByteArray) (f : R → Option S) : tr_spec_ValidWorld_7  (fun d => (NX d).bind f) (fun d => (X2 d).bind f) (fun d => (X1 d).bind f) v3 b0_0 b0_1 b0_2 b0_3 b0_4 b0_5 b0_6 b0_7 b0_8 b0_9 b0_10 b0_11 b0_12 b0_13 b0_14 b0_15 = (tr_spec_ValidWorld_7  NX X2 X1 v3 b0_0 b0_1 b0_2 b0_3 b0_4 b0_5 b0_6 b0_7 b0_8 b0_9 b0_10 b0_11 b0_12 b0_13 b0_14 b0_15).bind f := by
  unfold tr_spec_ValidWorld_7
  simp only [cond_bind, ite_bind, onSum_bind, Option.bind_assoc, Option.bind_none, Option.bind_some]
noncomputable def de_spec_ValidWorld (a0 : Int × ((List ByteArray) × (List (Int × ByteArray × Unit)) × Unit) × Bool × (Int × Int × Int × (Int × Int × Int × Int × Unit) × Int × Int × ((List (ByteArray × ByteArray × Unit)) × Unit) × Unit) × (List ((List (ByteArray × ByteArray × Unit)) × Unit)) × (List ByteArray) × Unit) : Option ((((Bool) × Unit) × (Unit))) :=
  Option.bind (bif decide (a0.fst ≥ 1) then some ((decide (a0.fst ≤ 8), ()), ()) else some ((false, ()), ())) fun val =>
    bif !val.fst.fst then some ((false, ()), ())
    else
      bif !m_spec_ValidDisk (a0.snd.fst.fst, a0.snd.fst.snd.fst, ()) then some ((false, ()), ())
      else
        bif !m_spec_l6In (nI (List.length a0.snd.snd.snd.snd.fst)) 1 200 then some ((false, ()), ())
        else
          bif decide (nI (List.length a0.snd.snd.snd.snd.snd.fst) > 2000) then some ((false, ()), ())
          else
            bif a0.snd.snd.fst then
              bif
                  !m_spec_ValidStore
                      (a0.snd.snd.snd.fst.fst, a0.snd.snd.snd.fst.snd.fst, a0.snd.snd.snd.fst.snd.snd.fst,
                        (a0.snd.snd.snd.fst.snd.snd.snd.fst.fst, a0.snd.snd.snd.fst.snd.snd.snd.fst.snd.fst, a0.snd.snd.snd.fst.snd.snd.snd.fst.snd.snd.fst,
                          a0.snd.snd.snd.fst.snd.snd.snd.fst.snd.snd.snd.fst, ()),
                        a0.snd.snd.snd.fst.snd.snd.snd.snd.fst, a0.snd.snd.snd.fst.snd.snd.snd.snd.snd.fst, (a0.snd.snd.snd.fst.snd.snd.snd.snd.snd.snd.fst.fst, ()), ()) then
                some ((false, ()), ())
              else
                bif a0.snd.snd.snd.fst.fst != a0.fst then some ((false, ()), ())
                else
                  bif a0.snd.snd.snd.fst.snd.fst != nI (List.length a0.snd.fst.fst) then some ((false, ()), ())
                  else
                    bif !a0.snd.snd.fst then
                      bif
                          !m_spec_l7NoStore
                              (a0.snd.snd.snd.fst.fst, a0.snd.snd.snd.fst.snd.fst, a0.snd.snd.snd.fst.snd.snd.fst,
                                (a0.snd.snd.snd.fst.snd.snd.snd.fst.fst, a0.snd.snd.snd.fst.snd.snd.snd.fst.snd.fst, a0.snd.snd.snd.fst.snd.snd.snd.fst.snd.snd.fst,
                                  a0.snd.snd.snd.fst.snd.snd.snd.fst.snd.snd.snd.fst, ()),
                                a0.snd.snd.snd.fst.snd.snd.snd.snd.fst, a0.snd.snd.snd.fst.snd.snd.snd.snd.snd.fst, (a0.snd.snd.snd.fst.snd.snd.snd.snd.snd.snd.fst.fst, ()), ()) then
                        some ((false, ()), ())
                      else
                        Option.bind
                          ((fun d => lo_spec_ValidWorld_7 (fu_spec_ValidWorld_7 d.1 d.2.1 d.2.2.1 d.2.2.2.1 d.2.2.2.2.1 d.2.2.2.2.2.1 d.2.2.2.2.2.2.1 d.2.2.2.2.2.2.2.1 d.2.2.2.2.2.2.2.2.1 d.2.2.2.2.2.2.2.2.2.1 d.2.2.2.2.2.2.2.2.2.2.1 d.2.2.2.2.2.2.2.2.2.2.2.1 d.2.2.2.2.2.2.2.2.2.2.2.2.1 d.2.2.2.2.2.2.2.2.2.2.2.2.2.1 d.2.2.2.2.2.2.2.2.2.2.2.2.2.2.1 d.2.2.2.2.2.2.2.2.2.2.2.2.2.2.2.1 d.2.2.2.2.2.2.2.2.2.2.2.2.2.2.2.2.1) d.1 d.2.1 d.2.2.1 d.2.2.2.1 d.2.2.2.2.1 d.2.2.2.2.2.1 d.2.2.2.2.2.2.1 d.2.2.2.2.2.2.2.1 d.2.2.2.2.2.2.2.2.1 d.2.2.2.2.2.2.2.2.2.1 d.2.2.2.2.2.2.2.2.2.2.1 d.2.2.2.2.2.2.2.2.2.2.2.1 d.2.2.2.2.2.2.2.2.2.2.2.2.1 d.2.2.2.2.2.2.2.2.2.2.2.2.2.1 d.2.2.2.2.2.2.2.2.2.2.2.2.2.2.1 d.2.2.2.2.2.2.2.2.2.2.2.2.2.2.2.1 d.2.2.2.2.2.2.2.2.2.2.2.2.2.2.2.2.1)
                            (0, a0.fst, a0.snd.fst.fst, a0.snd.fst.snd.fst, a0.snd.snd.fst, a0.snd.snd.snd.fst.fst, a0.snd.snd.snd.fst.snd.fst, a0.snd.snd.snd.fst.snd.snd.fst,
                              a0.snd.snd.snd.fst.snd.snd.snd.fst.fst, a0.snd.snd.snd.fst.snd.snd.snd.fst.snd.fst, a0.snd.snd.snd.fst.snd.snd.snd.fst.snd.snd.fst,
                              a0.snd.snd.snd.fst.snd.snd.snd.fst.snd.snd.snd.fst, a0.snd.snd.snd.fst.snd.snd.snd.snd.fst, a0.snd.snd.snd.fst.snd.snd.snd.snd.snd.fst,
                              a0.snd.snd.snd.fst.snd.snd.snd.snd.snd.snd.fst.fst, a0.snd.snd.snd.snd.fst, a0.snd.snd.snd.snd.snd.fst, ()))
                          fun val =>
                          onSum
                            (fun val =>
                              Option.bind
                                ((fun d => lo_spec_ValidWorld_12 (fu_spec_ValidWorld_12 d.1 d.2.1 d.2.2.1 d.2.2.2.1 d.2.2.2.2.1 d.2.2.2.2.2.1 d.2.2.2.2.2.2.1 d.2.2.2.2.2.2.2.1 d.2.2.2.2.2.2.2.2.1 d.2.2.2.2.2.2.2.2.2.1 d.2.2.2.2.2.2.2.2.2.2.1 d.2.2.2.2.2.2.2.2.2.2.2.1 d.2.2.2.2.2.2.2.2.2.2.2.2.1 d.2.2.2.2.2.2.2.2.2.2.2.2.2.1 d.2.2.2.2.2.2.2.2.2.2.2.2.2.2.1 d.2.2.2.2.2.2.2.2.2.2.2.2.2.2.2.1 d.2.2.2.2.2.2.2.2.2.2.2.2.2.2.2.2.1) d.1 d.2.1 d.2.2.1 d.2.2.2.1 d.2.2.2.2.1 d.2.2.2.2.2.1 d.2.2.2.2.2.2.1 d.2.2.2.2.2.2.2.1 d.2.2.2.2.2.2.2.2.1 d.2.2.2.2.2.2.2.2.2.1 d.2.2.2.2.2.2.2.2.2.2.1 d.2.2.2.2.2.2.2.2.2.2.2.1 d.2.2.2.2.2.2.2.2.2.2.2.2.1 d.2.2.2.2.2.2.2.2.2.2.2.2.2.1 d.2.2.2.2.2.2.2.2.2.2.2.2.2.2.1 d.2.2.2.2.2.2.2.2.2.2.2.2.2.2.2.1 d.2.2.2.2.2.2.2.2.2.2.2.2.2.2.2.2.1)
                                  (0, val.fst, val.snd.fst, val.snd.snd.fst, val.snd.snd.snd.fst, val.snd.snd.snd.snd.fst, val.snd.snd.snd.snd.snd.fst, val.snd.snd.snd.snd.snd.snd.fst,
                                    val.snd.snd.snd.snd.snd.snd.snd.fst, val.snd.snd.snd.snd.snd.snd.snd.snd.fst, val.snd.snd.snd.snd.snd.snd.snd.snd.snd.fst,
                                    val.snd.snd.snd.snd.snd.snd.snd.snd.snd.snd.fst, val.snd.snd.snd.snd.snd.snd.snd.snd.snd.snd.snd.fst, val.snd.snd.snd.snd.snd.snd.snd.snd.snd.snd.snd.snd.fst,
                                    val.snd.snd.snd.snd.snd.snd.snd.snd.snd.snd.snd.snd.snd.fst, val.snd.snd.snd.snd.snd.snd.snd.snd.snd.snd.snd.snd.snd.snd.fst,
                                    val.snd.snd.snd.snd.snd.snd.snd.snd.snd.snd.snd.snd.snd.snd.snd.fst, ()))
                                fun val => onSum (fun val => some ((true, ()), ())) (fun val => some ((val.fst, ()), ())) val)
                            (fun val => some ((val.fst, ()), ())) val
                    else
                      Option.bind
                        ((fun d => lo_spec_ValidWorld_7 (fu_spec_ValidWorld_7 d.1 d.2.1 d.2.2.1 d.2.2.2.1 d.2.2.2.2.1 d.2.2.2.2.2.1 d.2.2.2.2.2.2.1 d.2.2.2.2.2.2.2.1 d.2.2.2.2.2.2.2.2.1 d.2.2.2.2.2.2.2.2.2.1 d.2.2.2.2.2.2.2.2.2.2.1 d.2.2.2.2.2.2.2.2.2.2.2.1 d.2.2.2.2.2.2.2.2.2.2.2.2.1 d.2.2.2.2.2.2.2.2.2.2.2.2.2.1 d.2.2.2.2.2.2.2.2.2.2.2.2.2.2.1 d.2.2.2.2.2.2.2.2.2.2.2.2.2.2.2.1 d.2.2.2.2.2.2.2.2.2.2.2.2.2.2.2.2.1) d.1 d.2.1 d.2.2.1 d.2.2.2.1 d.2.2.2.2.1 d.2.2.2.2.2.1 d.2.2.2.2.2.2.1 d.2.2.2.2.2.2.2.1 d.2.2.2.2.2.2.2.2.1 d.2.2.2.2.2.2.2.2.2.1 d.2.2.2.2.2.2.2.2.2.2.1 d.2.2.2.2.2.2.2.2.2.2.2.1 d.2.2.2.2.2.2.2.2.2.2.2.2.1 d.2.2.2.2.2.2.2.2.2.2.2.2.2.1 d.2.2.2.2.2.2.2.2.2.2.2.2.2.2.1 d.2.2.2.2.2.2.2.2.2.2.2.2.2.2.2.1 d.2.2.2.2.2.2.2.2.2.2.2.2.2.2.2.2.1)
                          (0, a0.fst, a0.snd.fst.fst, a0.snd.fst.snd.fst, a0.snd.snd.fst, a0.snd.snd.snd.fst.fst, a0.snd.snd.snd.fst.snd.fst, a0.snd.snd.snd.fst.snd.snd.fst,
                            a0.snd.snd.snd.fst.snd.snd.snd.fst.fst, a0.snd.snd.snd.fst.snd.snd.snd.fst.snd.fst, a0.snd.snd.snd.fst.snd.snd.snd.fst.snd.snd.fst,
                            a0.snd.snd.snd.fst.snd.snd.snd.fst.snd.snd.snd.fst, a0.snd.snd.snd.fst.snd.snd.snd.snd.fst, a0.snd.snd.snd.fst.snd.snd.snd.snd.snd.fst,
                            a0.snd.snd.snd.fst.snd.snd.snd.snd.snd.snd.fst.fst, a0.snd.snd.snd.snd.fst, a0.snd.snd.snd.snd.snd.fst, ()))
                        fun val =>
                        onSum
                          (fun val =>
                            Option.bind
                              ((fun d => lo_spec_ValidWorld_12 (fu_spec_ValidWorld_12 d.1 d.2.1 d.2.2.1 d.2.2.2.1 d.2.2.2.2.1 d.2.2.2.2.2.1 d.2.2.2.2.2.2.1 d.2.2.2.2.2.2.2.1 d.2.2.2.2.2.2.2.2.1 d.2.2.2.2.2.2.2.2.2.1 d.2.2.2.2.2.2.2.2.2.2.1 d.2.2.2.2.2.2.2.2.2.2.2.1 d.2.2.2.2.2.2.2.2.2.2.2.2.1 d.2.2.2.2.2.2.2.2.2.2.2.2.2.1 d.2.2.2.2.2.2.2.2.2.2.2.2.2.2.1 d.2.2.2.2.2.2.2.2.2.2.2.2.2.2.2.1 d.2.2.2.2.2.2.2.2.2.2.2.2.2.2.2.2.1) d.1 d.2.1 d.2.2.1 d.2.2.2.1 d.2.2.2.2.1 d.2.2.2.2.2.1 d.2.2.2.2.2.2.1 d.2.2.2.2.2.2.2.1 d.2.2.2.2.2.2.2.2.1 d.2.2.2.2.2.2.2.2.2.1 d.2.2.2.2.2.2.2.2.2.2.1 d.2.2.2.2.2.2.2.2.2.2.2.1 d.2.2.2.2.2.2.2.2.2.2.2.2.1 d.2.2.2.2.2.2.2.2.2.2.2.2.2.1 d.2.2.2.2.2.2.2.2.2.2.2.2.2.2.1 d.2.2.2.2.2.2.2.2.2.2.2.2.2.2.2.1 d.2.2.2.2.2.2.2.2.2.2.2.2.2.2.2.2.1)
                                (0, val.fst, val.snd.fst, val.snd.snd.fst, val.snd.snd.snd.fst, val.snd.snd.snd.snd.fst, val.snd.snd.snd.snd.snd.fst, val.snd.snd.snd.snd.snd.snd.fst,
                                  val.snd.snd.snd.snd.snd.snd.snd.fst, val.snd.snd.snd.snd.snd.snd.snd.snd.fst, val.snd.snd.snd.snd.snd.snd.snd.snd.snd.fst,
                                  val.snd.snd.snd.snd.snd.snd.snd.snd.snd.snd.fst, val.snd.snd.snd.snd.snd.snd.snd.snd.snd.snd.snd.fst, val.snd.snd.snd.snd.snd.snd.snd.snd.snd.snd.snd.snd.fst,
                                  val.snd.snd.snd.snd.snd.snd.snd.snd.snd.snd.snd.snd.snd.fst, val.snd.snd.snd.snd.snd.snd.snd.snd.snd.snd.snd.snd.snd.snd.fst,
                                  val.snd.snd.snd.snd.snd.snd.snd.snd.snd.snd.snd.snd.snd.snd.snd.fst, ()))
                              fun val => onSum (fun val => some ((true, ()), ())) (fun val => some ((val.fst, ()), ())) val)
                          (fun val => some ((val.fst, ()), ())) val
            else
              bif !a0.snd.snd.fst then
                bif
                    !m_spec_l7NoStore
                        (a0.snd.snd.snd.fst.fst, a0.snd.snd.snd.fst.snd.fst, a0.snd.snd.snd.fst.snd.snd.fst,
                          (a0.snd.snd.snd.fst.snd.snd.snd.fst.fst, a0.snd.snd.snd.fst.snd.snd.snd.fst.snd.fst, a0.snd.snd.snd.fst.snd.snd.snd.fst.snd.snd.fst,
                            a0.snd.snd.snd.fst.snd.snd.snd.fst.snd.snd.snd.fst, ()),
                          a0.snd.snd.snd.fst.snd.snd.snd.snd.fst, a0.snd.snd.snd.fst.snd.snd.snd.snd.snd.fst, (a0.snd.snd.snd.fst.snd.snd.snd.snd.snd.snd.fst.fst, ()), ()) then
                  some ((false, ()), ())
                else
                  Option.bind
                    ((fun d => lo_spec_ValidWorld_7 (fu_spec_ValidWorld_7 d.1 d.2.1 d.2.2.1 d.2.2.2.1 d.2.2.2.2.1 d.2.2.2.2.2.1 d.2.2.2.2.2.2.1 d.2.2.2.2.2.2.2.1 d.2.2.2.2.2.2.2.2.1 d.2.2.2.2.2.2.2.2.2.1 d.2.2.2.2.2.2.2.2.2.2.1 d.2.2.2.2.2.2.2.2.2.2.2.1 d.2.2.2.2.2.2.2.2.2.2.2.2.1 d.2.2.2.2.2.2.2.2.2.2.2.2.2.1 d.2.2.2.2.2.2.2.2.2.2.2.2.2.2.1 d.2.2.2.2.2.2.2.2.2.2.2.2.2.2.2.1 d.2.2.2.2.2.2.2.2.2.2.2.2.2.2.2.2.1) d.1 d.2.1 d.2.2.1 d.2.2.2.1 d.2.2.2.2.1 d.2.2.2.2.2.1 d.2.2.2.2.2.2.1 d.2.2.2.2.2.2.2.1 d.2.2.2.2.2.2.2.2.1 d.2.2.2.2.2.2.2.2.2.1 d.2.2.2.2.2.2.2.2.2.2.1 d.2.2.2.2.2.2.2.2.2.2.2.1 d.2.2.2.2.2.2.2.2.2.2.2.2.1 d.2.2.2.2.2.2.2.2.2.2.2.2.2.1 d.2.2.2.2.2.2.2.2.2.2.2.2.2.2.1 d.2.2.2.2.2.2.2.2.2.2.2.2.2.2.2.1 d.2.2.2.2.2.2.2.2.2.2.2.2.2.2.2.2.1)
                      (0, a0.fst, a0.snd.fst.fst, a0.snd.fst.snd.fst, a0.snd.snd.fst, a0.snd.snd.snd.fst.fst, a0.snd.snd.snd.fst.snd.fst, a0.snd.snd.snd.fst.snd.snd.fst,
                        a0.snd.snd.snd.fst.snd.snd.snd.fst.fst, a0.snd.snd.snd.fst.snd.snd.snd.fst.snd.fst, a0.snd.snd.snd.fst.snd.snd.snd.fst.snd.snd.fst,
                        a0.snd.snd.snd.fst.snd.snd.snd.fst.snd.snd.snd.fst, a0.snd.snd.snd.fst.snd.snd.snd.snd.fst, a0.snd.snd.snd.fst.snd.snd.snd.snd.snd.fst,
                        a0.snd.snd.snd.fst.snd.snd.snd.snd.snd.snd.fst.fst, a0.snd.snd.snd.snd.fst, a0.snd.snd.snd.snd.snd.fst, ()))
                    fun val =>
                    onSum
                      (fun val =>
                        Option.bind
                          ((fun d => lo_spec_ValidWorld_12 (fu_spec_ValidWorld_12 d.1 d.2.1 d.2.2.1 d.2.2.2.1 d.2.2.2.2.1 d.2.2.2.2.2.1 d.2.2.2.2.2.2.1 d.2.2.2.2.2.2.2.1 d.2.2.2.2.2.2.2.2.1 d.2.2.2.2.2.2.2.2.2.1 d.2.2.2.2.2.2.2.2.2.2.1 d.2.2.2.2.2.2.2.2.2.2.2.1 d.2.2.2.2.2.2.2.2.2.2.2.2.1 d.2.2.2.2.2.2.2.2.2.2.2.2.2.1 d.2.2.2.2.2.2.2.2.2.2.2.2.2.2.1 d.2.2.2.2.2.2.2.2.2.2.2.2.2.2.2.1 d.2.2.2.2.2.2.2.2.2.2.2.2.2.2.2.2.1) d.1 d.2.1 d.2.2.1 d.2.2.2.1 d.2.2.2.2.1 d.2.2.2.2.2.1 d.2.2.2.2.2.2.1 d.2.2.2.2.2.2.2.1 d.2.2.2.2.2.2.2.2.1 d.2.2.2.2.2.2.2.2.2.1 d.2.2.2.2.2.2.2.2.2.2.1 d.2.2.2.2.2.2.2.2.2.2.2.1 d.2.2.2.2.2.2.2.2.2.2.2.2.1 d.2.2.2.2.2.2.2.2.2.2.2.2.2.1 d.2.2.2.2.2.2.2.2.2.2.2.2.2.2.1 d.2.2.2.2.2.2.2.2.2.2.2.2.2.2.2.1 d.2.2.2.2.2.2.2.2.2.2.2.2.2.2.2.2.1)
                            (0, val.fst, val.snd.fst, val.snd.snd.fst, val.snd.snd.snd.fst, val.snd.snd.snd.snd.fst, val.snd.snd.snd.snd.snd.fst, val.snd.snd.snd.snd.snd.snd.fst,
                              val.snd.snd.snd.snd.snd.snd.snd.fst, val.snd.snd.snd.snd.snd.snd.snd.snd.fst, val.snd.snd.snd.snd.snd.snd.snd.snd.snd.fst, val.snd.snd.snd.snd.snd.snd.snd.snd.snd.snd.fst,
                              val.snd.snd.snd.snd.snd.snd.snd.snd.snd.snd.snd.fst, val.snd.snd.snd.snd.snd.snd.snd.snd.snd.snd.snd.snd.fst, val.snd.snd.snd.snd.snd.snd.snd.snd.snd.snd.snd.snd.snd.fst,
                              val.snd.snd.snd.snd.snd.snd.snd.snd.snd.snd.snd.snd.snd.snd.fst, val.snd.snd.snd.snd.snd.snd.snd.snd.snd.snd.snd.snd.snd.snd.snd.fst, ()))
                          fun val => onSum (fun val => some ((true, ()), ())) (fun val => some ((val.fst, ()), ())) val)
                      (fun val => some ((val.fst, ()), ())) val
              else
                Option.bind
                  ((fun d => lo_spec_ValidWorld_7 (fu_spec_ValidWorld_7 d.1 d.2.1 d.2.2.1 d.2.2.2.1 d.2.2.2.2.1 d.2.2.2.2.2.1 d.2.2.2.2.2.2.1 d.2.2.2.2.2.2.2.1 d.2.2.2.2.2.2.2.2.1 d.2.2.2.2.2.2.2.2.2.1 d.2.2.2.2.2.2.2.2.2.2.1 d.2.2.2.2.2.2.2.2.2.2.2.1 d.2.2.2.2.2.2.2.2.2.2.2.2.1 d.2.2.2.2.2.2.2.2.2.2.2.2.2.1 d.2.2.2.2.2.2.2.2.2.2.2.2.2.2.1 d.2.2.2.2.2.2.2.2.2.2.2.2.2.2.2.1 d.2.2.2.2.2.2.2.2.2.2.2.2.2.2.2.2.1) d.1 d.2.1 d.2.2.1 d.2.2.2.1 d.2.2.2.2.1 d.2.2.2.2.2.1 d.2.2.2.2.2.2.1 d.2.2.2.2.2.2.2.1 d.2.2.2.2.2.2.2.2.1 d.2.2.2.2.2.2.2.2.2.1 d.2.2.2.2.2.2.2.2.2.2.1 d.2.2.2.2.2.2.2.2.2.2.2.1 d.2.2.2.2.2.2.2.2.2.2.2.2.1 d.2.2.2.2.2.2.2.2.2.2.2.2.2.1 d.2.2.2.2.2.2.2.2.2.2.2.2.2.2.1 d.2.2.2.2.2.2.2.2.2.2.2.2.2.2.2.1 d.2.2.2.2.2.2.2.2.2.2.2.2.2.2.2.2.1)
                    (0, a0.fst, a0.snd.fst.fst, a0.snd.fst.snd.fst, a0.snd.snd.fst, a0.snd.snd.snd.fst.fst, a0.snd.snd.snd.fst.snd.fst, a0.snd.snd.snd.fst.snd.snd.fst,
                      a0.snd.snd.snd.fst.snd.snd.snd.fst.fst, a0.snd.snd.snd.fst.snd.snd.snd.fst.snd.fst, a0.snd.snd.snd.fst.snd.snd.snd.fst.snd.snd.fst,
                      a0.snd.snd.snd.fst.snd.snd.snd.fst.snd.snd.snd.fst, a0.snd.snd.snd.fst.snd.snd.snd.snd.fst, a0.snd.snd.snd.fst.snd.snd.snd.snd.snd.fst,
                      a0.snd.snd.snd.fst.snd.snd.snd.snd.snd.snd.fst.fst, a0.snd.snd.snd.snd.fst, a0.snd.snd.snd.snd.snd.fst, ()))
                  fun val =>
                  onSum
                    (fun val =>
                      Option.bind
                        ((fun d => lo_spec_ValidWorld_12 (fu_spec_ValidWorld_12 d.1 d.2.1 d.2.2.1 d.2.2.2.1 d.2.2.2.2.1 d.2.2.2.2.2.1 d.2.2.2.2.2.2.1 d.2.2.2.2.2.2.2.1 d.2.2.2.2.2.2.2.2.1 d.2.2.2.2.2.2.2.2.2.1 d.2.2.2.2.2.2.2.2.2.2.1 d.2.2.2.2.2.2.2.2.2.2.2.1 d.2.2.2.2.2.2.2.2.2.2.2.2.1 d.2.2.2.2.2.2.2.2.2.2.2.2.2.1 d.2.2.2.2.2.2.2.2.2.2.2.2.2.2.1 d.2.2.2.2.2.2.2.2.2.2.2.2.2.2.2.1 d.2.2.2.2.2.2.2.2.2.2.2.2.2.2.2.2.1) d.1 d.2.1 d.2.2.1 d.2.2.2.1 d.2.2.2.2.1 d.2.2.2.2.2.1 d.2.2.2.2.2.2.1 d.2.2.2.2.2.2.2.1 d.2.2.2.2.2.2.2.2.1 d.2.2.2.2.2.2.2.2.2.1 d.2.2.2.2.2.2.2.2.2.2.1 d.2.2.2.2.2.2.2.2.2.2.2.1 d.2.2.2.2.2.2.2.2.2.2.2.2.1 d.2.2.2.2.2.2.2.2.2.2.2.2.2.1 d.2.2.2.2.2.2.2.2.2.2.2.2.2.2.1 d.2.2.2.2.2.2.2.2.2.2.2.2.2.2.2.1 d.2.2.2.2.2.2.2.2.2.2.2.2.2.2.2.2.1)
                          (0, val.fst, val.snd.fst, val.snd.snd.fst, val.snd.snd.snd.fst, val.snd.snd.snd.snd.fst, val.snd.snd.snd.snd.snd.fst, val.snd.snd.snd.snd.snd.snd.fst,
                            val.snd.snd.snd.snd.snd.snd.snd.fst, val.snd.snd.snd.snd.snd.snd.snd.snd.fst, val.snd.snd.snd.snd.snd.snd.snd.snd.snd.fst, val.snd.snd.snd.snd.snd.snd.snd.snd.snd.snd.fst,
                            val.snd.snd.snd.snd.snd.snd.snd.snd.snd.snd.snd.fst, val.snd.snd.snd.snd.snd.snd.snd.snd.snd.snd.snd.snd.fst, val.snd.snd.snd.snd.snd.snd.snd.snd.snd.snd.snd.snd.snd.fst,
                            val.snd.snd.snd.snd.snd.snd.snd.snd.snd.snd.snd.snd.snd.snd.fst, val.snd.snd.snd.snd.snd.snd.snd.snd.snd.snd.snd.snd.snd.snd.snd.fst, ()))
                        fun val => onSum (fun val => some ((true, ()), ())) (fun val => some ((val.fst, ()), ())) val)
                    (fun val => some ((val.fst, ()), ())) val
theorem pastL_loop (xs : List Stt) (h : xs.length ≤ 200) (b0 : Int) (b1 : List ByteArray) (b2 : List Wr) (b3 : Bool) (b4 b5 b6 b7 b8 b9 b10 b11 b12 : Int) (b13 : List Pr2) (b15 : List ByteArray) :
    lo_spec_ValidWorld_7 (fu_spec_ValidWorld_7 0 b0 b1 b2 b3 b4 b5 b6 b7 b8 b9 b10 b11 b12 b13 xs b15) 0 b0 b1 b2 b3 b4 b5 b6 b7 b8 b9 b10 b11 b12 b13 xs b15 =
    some (bif (List.range' 0 xs.length).all (fun i => validState (xs.getD i zSs)) then .inl (b0, b1, b2, b3, b4, b5, b6, b7, b8, b9, b10, b11, b12, b13, xs, b15, ()) else .inr (false, ())) := by
  have hL := all_loop (n := xs.length) (fun i => validState (xs.getD i zSs)) (g := fun m i => lo_spec_ValidWorld_7 m i b0 b1 b2 b3 b4 b5 b6 b7 b8 b9 b10 b11 b12 b13 xs b15) (ok := .inl (b0, b1, b2, b3, b4, b5, b6, b7, b8, b9, b10, b11, b12, b13, xs, b15, ())) (bad := .inr (false, ())) (fun m i hi => by
    show lo_spec_ValidWorld_7 (m + 1) i b0 b1 b2 b3 b4 b5 b6 b7 b8 b9 b10 b11 b12 b13 xs b15 = _
    simp only [lo_spec_ValidWorld_7, tr_spec_ValidWorld_7]
    rw [cLt hi, cLe0, wI (show i < 4611686018427387904 by omega), Int.toNat_natCast]
    show (bif !validState (xs.getD i zSs) then _ else _) = _
    cases validState (xs.getD i zSs) <;> rfl) (fun m => by
    show lo_spec_ValidWorld_7 (m + 1) (xs.length : Int) b0 b1 b2 b3 b4 b5 b6 b7 b8 b9 b10 b11 b12 b13 xs b15 = _
    simp only [lo_spec_ValidWorld_7, tr_spec_ValidWorld_7]
    rw [cLtF]
    rfl) (fu_spec_ValidWorld_7 0 b0 b1 b2 b3 b4 b5 b6 b7 b8 b9 b10 b11 b12 b13 xs b15) 0 (by omega) (by simp [fu_spec_ValidWorld_7, nI])
  exact hL
theorem writL_loop (xs : List ByteArray) (h : xs.length ≤ 2000) (b0 : Int) (b1 : List ByteArray) (b2 : List Wr) (b3 : Bool) (b4 b5 b6 b7 b8 b9 b10 b11 b12 : Int) (b13 : List Pr2) (b14 : List Stt) : lo_spec_ValidWorld_12 (fu_spec_ValidWorld_12 0 b0 b1 b2 b3 b4 b5 b6 b7 b8 b9 b10 b11 b12 b13 b14 xs) 0 b0 b1 b2 b3 b4 b5 b6 b7 b8 b9 b10 b11 b12 b13 b14 xs =
    some (bif (List.range' 0 xs.length).all (fun i => decide ((xs.getD i z0).size = 64)) then .inl () else .inr (false, ())) := by
  have hL := all_loop (n := xs.length) (fun i => decide ((xs.getD i z0).size = 64)) (g := fun m i => lo_spec_ValidWorld_12 m i b0 b1 b2 b3 b4 b5 b6 b7 b8 b9 b10 b11 b12 b13 b14 xs) (ok := .inl ()) (bad := .inr (false, ())) (fun m i hi => by
    show lo_spec_ValidWorld_12 (m + 1) i b0 b1 b2 b3 b4 b5 b6 b7 b8 b9 b10 b11 b12 b13 b14 xs = _
    simp only [lo_spec_ValidWorld_12, tr_spec_ValidWorld_12]
    have e : (nI (ByteArray.size (List.getD xs i (ByteArray.mk #[]))) != 64) = !decide ((xs.getD i z0).size = 64) := ne64 (xs.getD i z0).size 64
    rw [cLt hi, cLe0, wI (show i < 4611686018427387904 by omega), Int.toNat_natCast, e]
    cases decide ((xs.getD i z0).size = 64) <;> rfl) (fun m => by
    show lo_spec_ValidWorld_12 (m + 1) (xs.length : Int) b0 b1 b2 b3 b4 b5 b6 b7 b8 b9 b10 b11 b12 b13 b14 xs = _
    simp only [lo_spec_ValidWorld_12, tr_spec_ValidWorld_12]
    rw [cLtF]
    rfl) (fu_spec_ValidWorld_12 0 b0 b1 b2 b3 b4 b5 b6 b7 b8 b9 b10 b11 b12 b13 b14 xs) 0 (by omega) (by simp [fu_spec_ValidWorld_12, nI])
  exact hL
theorem eq_spec_ValidWorld (a0 : Int × ((List ByteArray) × (List (Int × ByteArray × Unit)) × Unit) × Bool × (Int × Int × Int × (Int × Int × Int × Int × Unit) × Int × Int × ((List (ByteArray × ByteArray × Unit)) × Unit) × Unit) × (List ((List (ByteArray × ByteArray × Unit)) × Unit)) × (List ByteArray) × Unit) : de_spec_ValidWorld a0 = some (((m_spec_ValidWorld a0), ()), (())) := by
  unfold de_spec_ValidWorld m_spec_ValidWorld validWorld
  refine bi_ (wid a0.1) ?_
  show (bif !inB a0.1 1 8 then _ else bif !validDisk a0.2.1 then _ else bif !inB (nI a0.2.2.2.2.1.length) 1 200 then _ else _) = _
  cases inB a0.1 1 8 with
  | false => rfl
  | true =>
    cases validDisk a0.2.1 with
    | false => rfl
    | true =>
      cases hp : inB (nI a0.2.2.2.2.1.length) 1 200 with
      | false => rfl
      | true =>
        have hpl : a0.2.2.2.2.1.length ≤ 200 := by have := (inB_r hp).2; simp only [nI] at this; omega
        have e1 : decide (nI a0.2.2.2.2.2.1.length > 2000) = !decide (a0.2.2.2.2.2.1.length ≤ 2000) := gt100 _ 2000
        rw [e1]
        cases hw : decide (a0.2.2.2.2.2.1.length ≤ 2000) with
        | false => rfl
        | true =>
          have hwl := of_decide_eq_true hw
          simp only [Bool.not_true, Bool.true_and, cond_false]
          have key : ∀ b : Bool, (bif b then (bif pastOk a0 then (bif writtenOk a0 then some ((true, ()), ()) else some ((false, ()), ())) else some ((false, ()), ())) else some ((false, ()), ())) = (some ((b && (pastOk a0 && writtenOk a0), ()), ()) : Option ((Bool × Unit) × Unit)) := fun b => by
            cases b <;> cases pastOk a0 <;> cases writtenOk a0 <;> rfl
          rw [← key]
          simp only [pastL_loop _ hpl, Option.bind_some]
          show _ = (bif storeFits a0 then (bif pastOk a0 then (bif writtenOk a0 then _ else _) else _) else _)
          unfold storeFits
          have hP : pastOk a0 = (List.range' 0 a0.2.2.2.2.1.length).all (fun i => validState (a0.2.2.2.2.1.getD i zSs)) := rfl
          have hW : writtenOk a0 = (List.range' 0 a0.2.2.2.2.2.1.length).all (fun i => decide ((a0.2.2.2.2.2.1.getD i z0).size = 64)) := rfl
          rw [hP, hW]
          cases hu : a0.2.2.1 with
          | true =>
            simp only [cond_true, Bool.not_true, cond_false]
            show (bif !validStore a0.2.2.2.1 then _ else _) = _
            have w1 : (a0.2.2.2.1.1 != a0.1) = !(a0.2.2.2.1.1 == a0.1) := rfl
            have w2 : (a0.2.2.2.1.2.1 != nI a0.2.1.1.length) = !(a0.2.2.2.1.2.1 == nI a0.2.1.1.length) := rfl
            rw [w1, w2]
            cases validStore a0.2.2.2.1 with
            | false => rfl
            | true =>
              cases (a0.2.2.2.1.1 == a0.1) with
              | false => rfl
              | true =>
                cases (a0.2.2.2.1.2.1 == nI a0.2.1.1.length) with
                | false => rfl
                | true =>
                  cases (List.range' 0 a0.2.2.2.2.1.length).all (fun i => validState (a0.2.2.2.2.1.getD i zSs)) with
                  | false => rfl
                  | true =>
                    show (lo_spec_ValidWorld_12 (fu_spec_ValidWorld_12 0 a0.1 a0.2.1.1 a0.2.1.2.1 true a0.2.2.2.1.1 a0.2.2.2.1.2.1 a0.2.2.2.1.2.2.1 a0.2.2.2.1.2.2.2.1.1 a0.2.2.2.1.2.2.2.1.2.1 a0.2.2.2.1.2.2.2.1.2.2.1 a0.2.2.2.1.2.2.2.1.2.2.2.1 a0.2.2.2.1.2.2.2.2.1 a0.2.2.2.1.2.2.2.2.2.1 a0.2.2.2.1.2.2.2.2.2.2.1.1 a0.2.2.2.2.1 a0.2.2.2.2.2.1) 0 a0.1 a0.2.1.1 a0.2.1.2.1 true a0.2.2.2.1.1 a0.2.2.2.1.2.1 a0.2.2.2.1.2.2.1 a0.2.2.2.1.2.2.2.1.1 a0.2.2.2.1.2.2.2.1.2.1 a0.2.2.2.1.2.2.2.1.2.2.1 a0.2.2.2.1.2.2.2.1.2.2.2.1 a0.2.2.2.1.2.2.2.2.1 a0.2.2.2.1.2.2.2.2.2.1 a0.2.2.2.1.2.2.2.2.2.2.1.1 a0.2.2.2.2.1 a0.2.2.2.2.2.1).bind _ = _
                    rw [writL_loop _ hwl]
                    cases (List.range' 0 a0.2.2.2.2.2.1.length).all (fun i => decide ((a0.2.2.2.2.2.1.getD i z0).size = 64)) <;> rfl
          | false =>
            simp only [cond_true, Bool.not_false, cond_false]
            show (bif !noStore a0.2.2.2.1 then _ else _) = _
            cases noStore a0.2.2.2.1 with
            | false => rfl
            | true =>
              cases (List.range' 0 a0.2.2.2.2.1.length).all (fun i => validState (a0.2.2.2.2.1.getD i zSs)) with
              | false => rfl
              | true =>
                show (lo_spec_ValidWorld_12 (fu_spec_ValidWorld_12 0 a0.1 a0.2.1.1 a0.2.1.2.1 false a0.2.2.2.1.1 a0.2.2.2.1.2.1 a0.2.2.2.1.2.2.1 a0.2.2.2.1.2.2.2.1.1 a0.2.2.2.1.2.2.2.1.2.1 a0.2.2.2.1.2.2.2.1.2.2.1 a0.2.2.2.1.2.2.2.1.2.2.2.1 a0.2.2.2.1.2.2.2.2.1 a0.2.2.2.1.2.2.2.2.2.1 a0.2.2.2.1.2.2.2.2.2.2.1.1 a0.2.2.2.2.1 a0.2.2.2.2.2.1) 0 a0.1 a0.2.1.1 a0.2.1.2.1 false a0.2.2.2.1.1 a0.2.2.2.1.2.1 a0.2.2.2.1.2.2.1 a0.2.2.2.1.2.2.2.1.1 a0.2.2.2.1.2.2.2.1.2.1 a0.2.2.2.1.2.2.2.1.2.2.1 a0.2.2.2.1.2.2.2.1.2.2.2.1 a0.2.2.2.1.2.2.2.2.1 a0.2.2.2.1.2.2.2.2.2.1 a0.2.2.2.1.2.2.2.2.2.2.1.1 a0.2.2.2.2.1 a0.2.2.2.2.2.1).bind _ = _
                rw [writL_loop _ hwl]
                cases (List.range' 0 a0.2.2.2.2.2.1.length).all (fun i => decide ((a0.2.2.2.2.2.1.getD i z0).size = 64)) <;> rfl
noncomputable def ou_spec_ValidWorld_7 {R : Type} (k : Kt R) : (((Int) × (List ByteArray) × (List (Int × ByteArray × Unit)) × (Bool) × (Int) × (Int) × (Int) × (Int) × (Int) × (Int) × (Int) × (Int) × (Int) × (List (ByteArray × ByteArray × Unit)) × (List ((List (ByteArray × ByteArray × Unit)) × Unit)) × (List ByteArray) × Unit) ⊕ ((Bool) × Unit)) → Option R := (onSum (fun d => k (.exit 0) (((pa_spec_ValidWorld 7).2 2).st d) (((pa_spec_ValidWorld 7).2 2).nid)) (fun d => k .ret (((pa_spec_ValidWorld 7).2 1).st d) (((pa_spec_ValidWorld 7).2 1).nid)))
noncomputable def ou_spec_ValidWorld_12 {R : Type} (k : Kt R) : ((Unit) ⊕ ((Bool) × Unit)) → Option R := (onSum (fun d => k (.exit 2) (((pa_spec_ValidWorld 12).2 4).st d) (((pa_spec_ValidWorld 12).2 4).nid)) (fun d => k .ret (((pa_spec_ValidWorld 12).2 1).st d) (((pa_spec_ValidWorld 12).2 1).nid)))
noncomputable def L_spec_ValidWorld {R : Type} : Lt R pa_spec_ValidWorld := (addL (pat := pa_spec_ValidWorld) 7 (fun d k => (lo_spec_ValidWorld_7 (fu_spec_ValidWorld_7 d.1 d.2.1 d.2.2.1 d.2.2.2.1 d.2.2.2.2.1 d.2.2.2.2.2.1 d.2.2.2.2.2.2.1 d.2.2.2.2.2.2.2.1 d.2.2.2.2.2.2.2.2.1 d.2.2.2.2.2.2.2.2.2.1 d.2.2.2.2.2.2.2.2.2.2.1 d.2.2.2.2.2.2.2.2.2.2.2.1 d.2.2.2.2.2.2.2.2.2.2.2.2.1 d.2.2.2.2.2.2.2.2.2.2.2.2.2.1 d.2.2.2.2.2.2.2.2.2.2.2.2.2.2.1 d.2.2.2.2.2.2.2.2.2.2.2.2.2.2.2.1 d.2.2.2.2.2.2.2.2.2.2.2.2.2.2.2.2.1) d.1 d.2.1 d.2.2.1 d.2.2.2.1 d.2.2.2.2.1 d.2.2.2.2.2.1 d.2.2.2.2.2.2.1 d.2.2.2.2.2.2.2.1 d.2.2.2.2.2.2.2.2.1 d.2.2.2.2.2.2.2.2.2.1 d.2.2.2.2.2.2.2.2.2.2.1 d.2.2.2.2.2.2.2.2.2.2.2.1 d.2.2.2.2.2.2.2.2.2.2.2.2.1 d.2.2.2.2.2.2.2.2.2.2.2.2.2.1 d.2.2.2.2.2.2.2.2.2.2.2.2.2.2.1 d.2.2.2.2.2.2.2.2.2.2.2.2.2.2.2.1 d.2.2.2.2.2.2.2.2.2.2.2.2.2.2.2.2.1).bind (ou_spec_ValidWorld_7 k)) (addL (pat := pa_spec_ValidWorld) 12 (fun d k => (lo_spec_ValidWorld_12 (fu_spec_ValidWorld_12 d.1 d.2.1 d.2.2.1 d.2.2.2.1 d.2.2.2.2.1 d.2.2.2.2.2.1 d.2.2.2.2.2.2.1 d.2.2.2.2.2.2.2.1 d.2.2.2.2.2.2.2.2.1 d.2.2.2.2.2.2.2.2.2.1 d.2.2.2.2.2.2.2.2.2.2.1 d.2.2.2.2.2.2.2.2.2.2.2.1 d.2.2.2.2.2.2.2.2.2.2.2.2.1 d.2.2.2.2.2.2.2.2.2.2.2.2.2.1 d.2.2.2.2.2.2.2.2.2.2.2.2.2.2.1 d.2.2.2.2.2.2.2.2.2.2.2.2.2.2.2.1 d.2.2.2.2.2.2.2.2.2.2.2.2.2.2.2.2.1) d.1 d.2.1 d.2.2.1 d.2.2.2.1 d.2.2.2.2.1 d.2.2.2.2.2.1 d.2.2.2.2.2.2.1 d.2.2.2.2.2.2.2.1 d.2.2.2.2.2.2.2.2.1 d.2.2.2.2.2.2.2.2.2.1 d.2.2.2.2.2.2.2.2.2.2.1 d.2.2.2.2.2.2.2.2.2.2.2.1 d.2.2.2.2.2.2.2.2.2.2.2.2.1 d.2.2.2.2.2.2.2.2.2.2.2.2.2.1 d.2.2.2.2.2.2.2.2.2.2.2.2.2.2.1 d.2.2.2.2.2.2.2.2.2.2.2.2.2.2.2.1 d.2.2.2.2.2.2.2.2.2.2.2.2.2.2.2.2.1).bind (ou_spec_ValidWorld_12 k)) noL))
theorem rd_spec_ValidWorld_12 {R : Type} (nx : (pa_spec_ValidWorld 12).1.D → Kt R → Option R) (k : Kt R) (v4 : Int) (b0_0 : Int) (b0_1 : List ByteArray) (b0_2 : List (Int × ByteArray × Unit)) (b0_3 : Bool) (b0_4 : Int) (b0_5 : Int) (b0_6 : Int) (b0_7 : Int) (b0_8 : Int) (b0_9 : Int) (b0_10 : Int) (b0_11 : Int) (b0_12 : Int) (b0_13 : List (ByteArray × ByteArray × Unit)) (b0_14 : List ((List (ByteArray × ByteArray × Unit)) × Unit)) (b0_15 : List ByteArray) : ev Try.prog ⟨ta_spec_ValidWorld, 0, 93, pa_spec_ValidWorld⟩ L_spec_ValidWorld co_spec_ValidWorld_12 ((pa_spec_ValidWorld 12).1.st (v4, b0_0, b0_1, b0_2, b0_3, b0_4, b0_5, b0_6, b0_7, b0_8, b0_9, b0_10, b0_11, b0_12, b0_13, b0_14, b0_15, ())) (pa_spec_ValidWorld 12).1.nid (roundK 0 (pa_spec_ValidWorld 12) nx k) = tr_spec_ValidWorld_12  (fun d => nx d k) (fun d => k (.exit 2) (((pa_spec_ValidWorld 12).2 4).st d) (((pa_spec_ValidWorld 12).2 4).nid)) (fun d => k .ret (((pa_spec_ValidWorld 12).2 1).st d) (((pa_spec_ValidWorld 12).2 1).nid)) v4 b0_0 b0_1 b0_2 b0_3 b0_4 b0_5 b0_6 b0_7 b0_8 b0_9 b0_10 b0_11 b0_12 b0_13 b0_14 b0_15 := by kernel_rfl
theorem lp_spec_ValidWorld_12 {R : Type} : ∀ (m : Nat) (d : (pa_spec_ValidWorld 12).1.D) (k : Kt R), loopN 0 (pa_spec_ValidWorld 12) (fun s nid k => ev Try.prog ⟨ta_spec_ValidWorld, 0, 93, pa_spec_ValidWorld⟩ L_spec_ValidWorld co_spec_ValidWorld_12 s nid k) m d k = (lo_spec_ValidWorld_12 m d.1 d.2.1 d.2.2.1 d.2.2.2.1 d.2.2.2.2.1 d.2.2.2.2.2.1 d.2.2.2.2.2.2.1 d.2.2.2.2.2.2.2.1 d.2.2.2.2.2.2.2.2.1 d.2.2.2.2.2.2.2.2.2.1 d.2.2.2.2.2.2.2.2.2.2.1 d.2.2.2.2.2.2.2.2.2.2.2.1 d.2.2.2.2.2.2.2.2.2.2.2.2.1 d.2.2.2.2.2.2.2.2.2.2.2.2.2.1 d.2.2.2.2.2.2.2.2.2.2.2.2.2.2.1 d.2.2.2.2.2.2.2.2.2.2.2.2.2.2.2.1 d.2.2.2.2.2.2.2.2.2.2.2.2.2.2.2.2.1).bind (ou_spec_ValidWorld_12 k)
  | 0, _, _ => rfl
  | m + 1, ⟨v4, b0_0, b0_1, b0_2, b0_3, b0_4, b0_5, b0_6, b0_7, b0_8, b0_9, b0_10, b0_11, b0_12, b0_13, b0_14, b0_15, ⟨⟩⟩, k => (rd_spec_ValidWorld_12 _ k v4 b0_0 b0_1 b0_2 b0_3 b0_4 b0_5 b0_6 b0_7 b0_8 b0_9 b0_10 b0_11 b0_12 b0_13 b0_14 b0_15).trans ((congrArg (fun F => tr_spec_ValidWorld_12  F (fun d => k (.exit 2) (((pa_spec_ValidWorld 12).2 4).st d) (((pa_spec_ValidWorld 12).2 4).nid)) (fun d => k .ret (((pa_spec_ValidWorld 12).2 1).st d) (((pa_spec_ValidWorld 12).2 1).nid)) v4 b0_0 b0_1 b0_2 b0_3 b0_4 b0_5 b0_6 b0_7 b0_8 b0_9 b0_10 b0_11 b0_12 b0_13 b0_14 b0_15) (funext fun d => lp_spec_ValidWorld_12 m d k)).trans (na_spec_ValidWorld_12 (f := ou_spec_ValidWorld_12 k)  (fun d => lo_spec_ValidWorld_12 m d.1 d.2.1 d.2.2.1 d.2.2.2.1 d.2.2.2.2.1 d.2.2.2.2.2.1 d.2.2.2.2.2.2.1 d.2.2.2.2.2.2.2.1 d.2.2.2.2.2.2.2.2.1 d.2.2.2.2.2.2.2.2.2.1 d.2.2.2.2.2.2.2.2.2.2.1 d.2.2.2.2.2.2.2.2.2.2.2.1 d.2.2.2.2.2.2.2.2.2.2.2.2.1 d.2.2.2.2.2.2.2.2.2.2.2.2.2.1 d.2.2.2.2.2.2.2.2.2.2.2.2.2.2.1 d.2.2.2.2.2.2.2.2.2.2.2.2.2.2.2.1 d.2.2.2.2.2.2.2.2.2.2.2.2.2.2.2.2.1) (fun d => some (.inl (d))) (fun d => some (.inr (d))) v4 b0_0 b0_1 b0_2 b0_3 b0_4 b0_5 b0_6 b0_7 b0_8 b0_9 b0_10 b0_11 b0_12 b0_13 b0_14 b0_15))
theorem rd_spec_ValidWorld_7 {R : Type} (nx : (pa_spec_ValidWorld 7).1.D → Kt R → Option R) (k : Kt R) (v3 : Int) (b0_0 : Int) (b0_1 : List ByteArray) (b0_2 : List (Int × ByteArray × Unit)) (b0_3 : Bool) (b0_4 : Int) (b0_5 : Int) (b0_6 : Int) (b0_7 : Int) (b0_8 : Int) (b0_9 : Int) (b0_10 : Int) (b0_11 : Int) (b0_12 : Int) (b0_13 : List (ByteArray × ByteArray × Unit)) (b0_14 : List ((List (ByteArray × ByteArray × Unit)) × Unit)) (b0_15 : List ByteArray) : ev Try.prog ⟨ta_spec_ValidWorld, 0, 93, pa_spec_ValidWorld⟩ L_spec_ValidWorld co_spec_ValidWorld_7 ((pa_spec_ValidWorld 7).1.st (v3, b0_0, b0_1, b0_2, b0_3, b0_4, b0_5, b0_6, b0_7, b0_8, b0_9, b0_10, b0_11, b0_12, b0_13, b0_14, b0_15, ())) (pa_spec_ValidWorld 7).1.nid (roundK 0 (pa_spec_ValidWorld 7) nx k) = tr_spec_ValidWorld_7  (fun d => nx d k) (fun d => k (.exit 0) (((pa_spec_ValidWorld 7).2 2).st d) (((pa_spec_ValidWorld 7).2 2).nid)) (fun d => k .ret (((pa_spec_ValidWorld 7).2 1).st d) (((pa_spec_ValidWorld 7).2 1).nid)) v3 b0_0 b0_1 b0_2 b0_3 b0_4 b0_5 b0_6 b0_7 b0_8 b0_9 b0_10 b0_11 b0_12 b0_13 b0_14 b0_15 := by kernel_rfl
theorem lp_spec_ValidWorld_7 {R : Type} : ∀ (m : Nat) (d : (pa_spec_ValidWorld 7).1.D) (k : Kt R), loopN 0 (pa_spec_ValidWorld 7) (fun s nid k => ev Try.prog ⟨ta_spec_ValidWorld, 0, 93, pa_spec_ValidWorld⟩ L_spec_ValidWorld co_spec_ValidWorld_7 s nid k) m d k = (lo_spec_ValidWorld_7 m d.1 d.2.1 d.2.2.1 d.2.2.2.1 d.2.2.2.2.1 d.2.2.2.2.2.1 d.2.2.2.2.2.2.1 d.2.2.2.2.2.2.2.1 d.2.2.2.2.2.2.2.2.1 d.2.2.2.2.2.2.2.2.2.1 d.2.2.2.2.2.2.2.2.2.2.1 d.2.2.2.2.2.2.2.2.2.2.2.1 d.2.2.2.2.2.2.2.2.2.2.2.2.1 d.2.2.2.2.2.2.2.2.2.2.2.2.2.1 d.2.2.2.2.2.2.2.2.2.2.2.2.2.2.1 d.2.2.2.2.2.2.2.2.2.2.2.2.2.2.2.1 d.2.2.2.2.2.2.2.2.2.2.2.2.2.2.2.2.1).bind (ou_spec_ValidWorld_7 k)
  | 0, _, _ => rfl
  | m + 1, ⟨v3, b0_0, b0_1, b0_2, b0_3, b0_4, b0_5, b0_6, b0_7, b0_8, b0_9, b0_10, b0_11, b0_12, b0_13, b0_14, b0_15, ⟨⟩⟩, k => (rd_spec_ValidWorld_7 _ k v3 b0_0 b0_1 b0_2 b0_3 b0_4 b0_5 b0_6 b0_7 b0_8 b0_9 b0_10 b0_11 b0_12 b0_13 b0_14 b0_15).trans ((congrArg (fun F => tr_spec_ValidWorld_7  F (fun d => k (.exit 0) (((pa_spec_ValidWorld 7).2 2).st d) (((pa_spec_ValidWorld 7).2 2).nid)) (fun d => k .ret (((pa_spec_ValidWorld 7).2 1).st d) (((pa_spec_ValidWorld 7).2 1).nid)) v3 b0_0 b0_1 b0_2 b0_3 b0_4 b0_5 b0_6 b0_7 b0_8 b0_9 b0_10 b0_11 b0_12 b0_13 b0_14 b0_15) (funext fun d => lp_spec_ValidWorld_7 m d k)).trans (na_spec_ValidWorld_7 (f := ou_spec_ValidWorld_7 k)  (fun d => lo_spec_ValidWorld_7 m d.1 d.2.1 d.2.2.1 d.2.2.2.1 d.2.2.2.2.1 d.2.2.2.2.2.1 d.2.2.2.2.2.2.1 d.2.2.2.2.2.2.2.1 d.2.2.2.2.2.2.2.2.1 d.2.2.2.2.2.2.2.2.2.1 d.2.2.2.2.2.2.2.2.2.2.1 d.2.2.2.2.2.2.2.2.2.2.2.1 d.2.2.2.2.2.2.2.2.2.2.2.2.1 d.2.2.2.2.2.2.2.2.2.2.2.2.2.1 d.2.2.2.2.2.2.2.2.2.2.2.2.2.2.1 d.2.2.2.2.2.2.2.2.2.2.2.2.2.2.2.1 d.2.2.2.2.2.2.2.2.2.2.2.2.2.2.2.2.1) (fun d => some (.inl (d))) (fun d => some (.inr (d))) v3 b0_0 b0_1 b0_2 b0_3 b0_4 b0_5 b0_6 b0_7 b0_8 b0_9 b0_10 b0_11 b0_12 b0_13 b0_14 b0_15))
theorem en_spec_ValidWorld (a0 : Int × ((List ByteArray) × (List (Int × ByteArray × Unit)) × Unit) × Bool × (Int × Int × Int × (Int × Int × Int × Int × Unit) × Int × Int × ((List (ByteArray × ByteArray × Unit)) × Unit) × Unit) × (List ((List (ByteArray × ByteArray × Unit)) × Unit)) × (List ByteArray) × Unit) : evalF Try.prog ta_spec_ValidWorld pa_spec_ValidWorld sg_spec_ValidWorld Try.f76 L_spec_ValidWorld (a0, ()) = de_spec_ValidWorld a0 := by kernel_rfl
theorem si_spec_ValidWorld : SigsOk Try.prog ta_spec_ValidWorld := SigsOk.of fun f sd h => by
  try dsimp only [Tb.of, ta_spec_ValidWorld] at h
  split at h
  · rename_i e; subst e; cases h; exact sn_spec_ValidDisk
  split at h
  · rename_i e; subst e; cases h; exact sn_spec_ValidStore
  split at h
  · rename_i e; subst e; cases h; exact sn_spec_l1Width
  split at h
  · rename_i e; subst e; cases h; exact sn_spec_ValidState
  split at h
  · rename_i e; subst e; cases h; exact sn_spec_l6In
  split at h
  · rename_i e; subst e; cases h; exact sn_spec_l7NoStore
  cases h
theorem lk_spec_ValidWorld_12 {R : Type} : LoopOk Try.prog R 93 0 pa_spec_ValidWorld L_spec_ValidWorld co_spec_ValidWorld_12 :=
  loop_key (cfg := ⟨ta_spec_ValidWorld, 0, 93, pa_spec_ValidWorld⟩) (key := 12) (by kernel_rfl) (by kernel_rfl) si_spec_ValidWorld rfl rfl (fun d k r h => ⟨fu_spec_ValidWorld_12 d.1 d.2.1 d.2.2.1 d.2.2.2.1 d.2.2.2.2.1 d.2.2.2.2.2.1 d.2.2.2.2.2.2.1 d.2.2.2.2.2.2.2.1 d.2.2.2.2.2.2.2.2.1 d.2.2.2.2.2.2.2.2.2.1 d.2.2.2.2.2.2.2.2.2.2.1 d.2.2.2.2.2.2.2.2.2.2.2.1 d.2.2.2.2.2.2.2.2.2.2.2.2.1 d.2.2.2.2.2.2.2.2.2.2.2.2.2.1 d.2.2.2.2.2.2.2.2.2.2.2.2.2.2.1 d.2.2.2.2.2.2.2.2.2.2.2.2.2.2.2.1 d.2.2.2.2.2.2.2.2.2.2.2.2.2.2.2.2.1, (lp_spec_ValidWorld_12 _ d k).trans h⟩) (fun c hc => by rw [show loopsIn co_spec_ValidWorld_12 = [] from by kernel_rfl] at hc; cases hc)
theorem lk_spec_ValidWorld_7 {R : Type} : LoopOk Try.prog R 93 0 pa_spec_ValidWorld L_spec_ValidWorld co_spec_ValidWorld_7 :=
  loop_key (cfg := ⟨ta_spec_ValidWorld, 0, 93, pa_spec_ValidWorld⟩) (key := 7) (by kernel_rfl) (by kernel_rfl) si_spec_ValidWorld rfl rfl (fun d k r h => ⟨fu_spec_ValidWorld_7 d.1 d.2.1 d.2.2.1 d.2.2.2.1 d.2.2.2.2.1 d.2.2.2.2.2.1 d.2.2.2.2.2.2.1 d.2.2.2.2.2.2.2.1 d.2.2.2.2.2.2.2.2.1 d.2.2.2.2.2.2.2.2.2.1 d.2.2.2.2.2.2.2.2.2.2.1 d.2.2.2.2.2.2.2.2.2.2.2.1 d.2.2.2.2.2.2.2.2.2.2.2.2.1 d.2.2.2.2.2.2.2.2.2.2.2.2.2.1 d.2.2.2.2.2.2.2.2.2.2.2.2.2.2.1 d.2.2.2.2.2.2.2.2.2.2.2.2.2.2.2.1 d.2.2.2.2.2.2.2.2.2.2.2.2.2.2.2.2.1, (lp_spec_ValidWorld_7 _ d k).trans h⟩) (fun c hc => by rw [show loopsIn co_spec_ValidWorld_7 = [] from by kernel_rfl] at hc; cases hc)
theorem sn_spec_ValidWorld : Callable Try.prog 76 ∧ Sound Try.prog 76 sd_spec_ValidWorld.sg sd_spec_ValidWorld.den :=
  fn_loops (pat := pa_spec_ValidWorld) L_spec_ValidWorld (by kernel_rfl) si_spec_ValidWorld Try.func76 (by kernel_rfl) (by kernel_rfl) (fun c hc => by rw [show loopsIn (bodyOf Try.f76) = [co_spec_ValidWorld_7, co_spec_ValidWorld_12] from by kernel_rfl] at hc; simp only [List.mem_cons, List.not_mem_nil, or_false] at hc; rcases hc with rfl | rfl <;> first | exact lk_spec_ValidWorld_7 | exact lk_spec_ValidWorld_12) fun x r h => by
    obtain ⟨a0, ⟨⟩⟩ := x; rw [← h]; exact (en_spec_ValidWorld a0).trans (eq_spec_ValidWorld a0)
theorem mx_spec_l1Number : ∃ f : Int → Int → Option ByteArray, f = fun v n => if 0 ≤ v ∧ v < 9223372036854775808 ∧ 0 ≤ n ∧ n ≤ 1000 then some (beS v n.toNat) else none := ⟨_, rfl⟩
noncomputable def m_spec_l1Number (v n : Int) : Option ByteArray := Classical.choose mx_spec_l1Number v n
theorem me_spec_l1Number (v n : Int) : m_spec_l1Number v n = if 0 ≤ v ∧ v < 9223372036854775808 ∧ 0 ≤ n ∧ n ≤ 1000 then some (beS v n.toNat) else none := by
  unfold m_spec_l1Number
  rw [Classical.choose_spec mx_spec_l1Number]
def fu_spec_l1Number_4 (v0 v1 : Int) (v5 : ByteArray) (v6 : Int) : Nat := (v1 - v6).toNat + 1
def sg_spec_l1Number : Sig := ⟨[.rd (.int .i64), .rd (.int .i64)], [none, none], [.rd .str], [none]⟩
noncomputable def sd_spec_l1Number : SD := ⟨sg_spec_l1Number, fun x => (m_spec_l1Number x.1 x.2.1).bind fun r => some ((r, ()), (()))⟩
noncomputable def ta_spec_l1Number : Tb := Tb.of fun f => none
def pa_spec_l1Number : Nat → Pat × (Nat → Pat) := fun k => if k = 4 then (⟨[], [(0, .lf (.d (.int .i64))), (1, .lf (.d (.int .i64))), (5, .lf (.d .str)), (6, .lf (.d (.int .i64)))], []⟩, fun e => if e = 2 then ⟨[], [(5, .lf (.d .str))], []⟩ else ⟨[], [], []⟩) else (⟨[], [], []⟩, fun _ => ⟨[], [], []⟩)
noncomputable def co_spec_l1Number_4 : Code := (loopsIn (bodyOf Try.f92)).getD 0 .skip
noncomputable def tr_spec_l1Number_4 {R : Type}  (NX : ((Int) × (Int) × (ByteArray) × (Int) × Unit) → Option R) (X2 : ((ByteArray) × Unit) → Option R) (v0 : Int) (v1 : Int) (v5 : ByteArray) (v6 : Int) : Option R :=
  bif decide (v6 < v1) then
    bif decide (ByteArray.size (strOfNums [IntKind.wrap IntKind.u8 (Int.tmod v0 256)]) + ByteArray.size v5 ≤ 9223372036854775807) then
      NX (IntKind.wrap IntKind.i64 (Int.tdiv v0 256), v1, strOfNums [IntKind.wrap IntKind.u8 (Int.tmod v0 256)] ++ v5, IntKind.wrap IntKind.i64 (v6 + 1), ())
    else none
  else X2 (v5, ())
noncomputable def lo_spec_l1Number_4 : Nat → (Int) → (Int) → (ByteArray) → (Int) →  Option ((ByteArray) × Unit)
  | 0, _, _, _, _ => none
  | m + 1, v0, v1, v5, v6 => tr_spec_l1Number_4  (fun d => lo_spec_l1Number_4 m d.1 d.2.1 d.2.2.1 d.2.2.2.1) (fun d => some (d)) v0 v1 v5 v6
theorem na_spec_l1Number_4 {R S : Type}  (NX : ((Int) × (Int) × (ByteArray) × (Int) × Unit) → Option R) (X2 : ((ByteArray) × Unit) → Option R) (v0 : Int) (v1 : Int) (v5 : ByteArray) (v6 : Int) (f : R → Option S) : tr_spec_l1Number_4  (fun d => (NX d).bind f) (fun d => (X2 d).bind f) v0 v1 v5 v6 = (tr_spec_l1Number_4  NX X2 v0 v1 v5 v6).bind f := by
  unfold tr_spec_l1Number_4
  simp only [cond_bind, ite_bind, onSum_bind, Option.bind_assoc, Option.bind_none, Option.bind_some]
noncomputable def de_spec_l1Number (a0 : Int) (a1 : Int) : Option ((((ByteArray) × Unit) × (Unit))) :=
  Option.bind ((fun d => lo_spec_l1Number_4 (fu_spec_l1Number_4 d.1 d.2.1 d.2.2.1 d.2.2.2.1) d.1 d.2.1 d.2.2.1 d.2.2.2.1) (a0, a1, ByteArray.mk #[], 0, ())) fun val => some ((val.fst, ()), ())
theorem l1Number_loop : ∀ (k m i : Nat) (v : Int) (out : ByteArray), i + k ≤ 1000 → k < m → out.size = i → 0 ≤ v → v < 9223372036854775808 → lo_spec_l1Number_4 m v ((i + k : Nat) : Int) out i = some (beS v k ++ out, ())
  | 0, m + 1, i, v, out, hi, hm, ho, h0, h1 => by
    simp only [lo_spec_l1Number_4, tr_spec_l1Number_4]
    rw [decide_eq_false (by omega), beS_zero]
    rfl
  | k + 1, m + 1, i, v, out, hi, hm, ho, h0, h1 => by
    simp only [lo_spec_l1Number_4, tr_spec_l1Number_4]
    have e1 : IntKind.wrap IntKind.u8 (Int.tmod v 256) = v % 256 := by
      rw [Int.tmod_eq_emod_of_nonneg h0]
      show v % 256 % 256 = v % 256
      omega
    have e2 : IntKind.wrap IntKind.i64 (Int.tdiv v 256) = v / 256 := by
      rw [Int.tdiv_eq_ediv_of_nonneg h0]
      exact wrap_ok (by omega) (by omega)
    rw [decide_eq_true (show (i : Int) < ((i + (k + 1) : Nat) : Int) by omega), e1, e2, decide_eq_true (show ByteArray.size (strOfNums [v % 256]) + ByteArray.size out ≤ 9223372036854775807 by rw [ho, size_strOfNums]; simp; omega), wI (show i < 4611686018427387904 by omega)]
    have hL := l1Number_loop k m (i + 1) (v / 256) (strOfNums [v % 256] ++ out) (by omega) (by omega) (by rw [ByteArray.size_append, ho, size_strOfNums]; simp; omega) (by omega) (by omega)
    rw [show i + 1 + k = i + (k + 1) by omega] at hL
    refine hL.trans ?_
    rw [← ByteArray.append_assoc, ← beS_succ]
theorem eq_spec_l1Number (a0 : Int) (a1 : Int) r (h : m_spec_l1Number a0 a1 = some r) : de_spec_l1Number a0 a1 = some ((r, ()), (())) := by
  rw [me_spec_l1Number] at h
  split at h
  · rename_i hc
    cases h
    obtain ⟨n, rfl⟩ : ∃ n : Nat, a1 = (n : Int) := ⟨a1.toNat, by omega⟩
    unfold de_spec_l1Number
    have hL := l1Number_loop n (fu_spec_l1Number_4 a0 n (ByteArray.mk #[]) 0) 0 a0 (ByteArray.mk #[]) (by omega) (by simp only [fu_spec_l1Number_4]; omega) rfl hc.1 hc.2.1
    rw [Nat.zero_add] at hL
    rw [app_z] at hL
    exact bi_ hL rfl
  · cases h
noncomputable def ou_spec_l1Number_4 {R : Type} (k : Kt R) : ((ByteArray) × Unit) → Option R := (fun d => k (.exit 0) (((pa_spec_l1Number 4).2 2).st d) (((pa_spec_l1Number 4).2 2).nid))
noncomputable def L_spec_l1Number {R : Type} : Lt R pa_spec_l1Number := (addL (pat := pa_spec_l1Number) 4 (fun d k => (lo_spec_l1Number_4 (fu_spec_l1Number_4 d.1 d.2.1 d.2.2.1 d.2.2.2.1) d.1 d.2.1 d.2.2.1 d.2.2.2.1).bind (ou_spec_l1Number_4 k)) noL)
theorem rd_spec_l1Number_4 {R : Type} (nx : (pa_spec_l1Number 4).1.D → Kt R → Option R) (k : Kt R) (v0 : Int) (v1 : Int) (v5 : ByteArray) (v6 : Int) : ev Try.prog ⟨ta_spec_l1Number, 0, 22, pa_spec_l1Number⟩ L_spec_l1Number co_spec_l1Number_4 ((pa_spec_l1Number 4).1.st (v0, v1, v5, v6, ())) (pa_spec_l1Number 4).1.nid (roundK 0 (pa_spec_l1Number 4) nx k) = tr_spec_l1Number_4  (fun d => nx d k) (fun d => k (.exit 0) (((pa_spec_l1Number 4).2 2).st d) (((pa_spec_l1Number 4).2 2).nid)) v0 v1 v5 v6 := by kernel_rfl
theorem lp_spec_l1Number_4 {R : Type} : ∀ (m : Nat) (d : (pa_spec_l1Number 4).1.D) (k : Kt R), loopN 0 (pa_spec_l1Number 4) (fun s nid k => ev Try.prog ⟨ta_spec_l1Number, 0, 22, pa_spec_l1Number⟩ L_spec_l1Number co_spec_l1Number_4 s nid k) m d k = (lo_spec_l1Number_4 m d.1 d.2.1 d.2.2.1 d.2.2.2.1).bind (ou_spec_l1Number_4 k)
  | 0, _, _ => rfl
  | m + 1, ⟨v0, v1, v5, v6, ⟨⟩⟩, k => (rd_spec_l1Number_4 _ k v0 v1 v5 v6).trans ((congrArg (fun F => tr_spec_l1Number_4  F (fun d => k (.exit 0) (((pa_spec_l1Number 4).2 2).st d) (((pa_spec_l1Number 4).2 2).nid)) v0 v1 v5 v6) (funext fun d => lp_spec_l1Number_4 m d k)).trans (na_spec_l1Number_4 (f := ou_spec_l1Number_4 k)  (fun d => lo_spec_l1Number_4 m d.1 d.2.1 d.2.2.1 d.2.2.2.1) (fun d => some (d)) v0 v1 v5 v6))
theorem en_spec_l1Number (a0 : Int) (a1 : Int) : evalF Try.prog ta_spec_l1Number pa_spec_l1Number sg_spec_l1Number Try.f92 L_spec_l1Number (a0, a1, ()) = de_spec_l1Number a0 a1 := by kernel_rfl
theorem si_spec_l1Number : SigsOk Try.prog ta_spec_l1Number := SigsOk.of fun f sd h => by
  try dsimp only [Tb.of, ta_spec_l1Number] at h
  cases h
theorem lk_spec_l1Number_4 {R : Type} : LoopOk Try.prog R 22 0 pa_spec_l1Number L_spec_l1Number co_spec_l1Number_4 :=
  loop_key (cfg := ⟨ta_spec_l1Number, 0, 22, pa_spec_l1Number⟩) (key := 4) (by kernel_rfl) (by kernel_rfl) si_spec_l1Number rfl rfl (fun d k r h => ⟨fu_spec_l1Number_4 d.1 d.2.1 d.2.2.1 d.2.2.2.1, (lp_spec_l1Number_4 _ d k).trans h⟩) (fun c hc => by rw [show loopsIn co_spec_l1Number_4 = [] from by kernel_rfl] at hc; cases hc)
theorem sn_spec_l1Number : Callable Try.prog 92 ∧ Sound Try.prog 92 sd_spec_l1Number.sg sd_spec_l1Number.den :=
  fn_loops (pat := pa_spec_l1Number) L_spec_l1Number (by kernel_rfl) si_spec_l1Number Try.func92 (by kernel_rfl) (by kernel_rfl) (fun c hc => by rw [show loopsIn (bodyOf Try.f92) = [co_spec_l1Number_4] from by kernel_rfl] at hc; simp only [List.mem_cons, List.not_mem_nil, or_false] at hc; rcases hc with rfl <;> first | exact lk_spec_l1Number_4) fun x r h => by
    obtain ⟨a0, a1, ⟨⟩⟩ := x; obtain ⟨y, h1, h2⟩ := Option.bind_eq_some_iff.1 (show (m_spec_l1Number a0 a1).bind (fun r => some ((r, ()), (()))) = some r from h); cases h2; exact (en_spec_l1Number a0 a1).trans (eq_spec_l1Number a0 a1 _ h1)
def m_spec_l1Ok (p : Pg) (w : Int) : Bool := pageOk p w
def sg_spec_l1Ok : Sig := ⟨[.rd (.pair (.int .i64) (.pair (.int .i64) (.pair (.int .i64) (.pair .str .unit)))), .rd (.int .i64)], [some 4, none], [.rd .bool], [none]⟩
noncomputable def sd_spec_l1Ok : SD := ⟨sg_spec_l1Ok, fun x => some (((m_spec_l1Ok x.1 x.2.1), ()), (()))⟩
noncomputable def ta_spec_l1Ok : Tb := Tb.of fun f => if f = 96 then some sd_spec_l1Width else if f = 136 then some sd_spec_l1Part else none
def pa_spec_l1Ok : Nat → Pat × (Nat → Pat) := fun k => (⟨[], [], []⟩, fun _ => ⟨[], [], []⟩)
noncomputable def de_spec_l1Ok (a0 : Int × Int × Int × ByteArray × Unit) (a1 : Int) : Option ((((Bool) × Unit) × (Unit))) :=
  Option.bind (bif decide (a1 ≥ 1) then some ((decide (a1 ≤ 8), ()), ()) else some ((false, ()), ())) fun val =>
    bif !val.fst.fst then some ((false, ()), ())
    else
      bif decide (a0.fst < 1) then some ((false, ()), ())
      else
        bif decide (a0.fst > 4) then some ((false, ()), ())
        else
          bif decide (a0.snd.fst < 1) then some ((false, ()), ())
          else
            bif decide (a0.snd.fst > 60000) then some ((false, ()), ())
            else
              bif decide (a0.snd.snd.fst < 1) then some ((false, ()), ())
              else
                bif decide (a0.snd.snd.fst > 1000000000) then some ((false, ()), ())
                else
                  bif decide (nI (ByteArray.size a0.snd.snd.snd.fst) ≤ IntKind.wrap IntKind.i64 (IntKind.wrap IntKind.i64 (64 - a1) - 8)) then
                    bif a0.fst != 3 then some ((true, ()), ()) else some ((ByteArray.toList a0.snd.snd.snd.fst == ByteArray.toList (ByteArray.mk #[]), ()), ())
                  else some ((false, ()), ())
theorem eq_spec_l1Ok (a0 : Int × Int × Int × ByteArray × Unit) (a1 : Int) : de_spec_l1Ok a0 a1 = some (((m_spec_l1Ok a0 a1), ()), (())) := by
  unfold de_spec_l1Ok m_spec_l1Ok pageOk
  have tl : ByteArray.toList (ByteArray.mk #[]) = [] := by decide +kernel
  rw [tl]
  refine bi_ (wid a1) ?_
  show (bif !inB a1 1 8 then _ else _) = _
  cases hw : inB a1 1 8 with
  | false => rfl
  | true =>
    have k1 := of_decide_eq_true (and2 hw).1
    have k2 := of_decide_eq_true (and2 hw).2
    rw [wrap_ok (n := 64 - a1) (by omega) (by omega), wrap_ok (by omega) (by omega), show 64 - a1 - 8 = 56 - a1 by omega]
    have e : ∀ (x lo hi : Int) {ρ : Type} (f t : ρ), (bif decide (x < lo) then f else bif decide (x > hi) then f else t) = bif inB x lo hi then t else f := by
      intro x lo hi ρ f t
      unfold inB
      by_cases h1 : x < lo
      · rw [decide_eq_true h1, decide_eq_false (show ¬ lo ≤ x by omega)]; rfl
      · rw [decide_eq_false h1, decide_eq_true (show lo ≤ x by omega)]
        by_cases h2 : x > hi
        · rw [decide_eq_true h2, decide_eq_false (show ¬ x ≤ hi by omega)]; rfl
        · rw [decide_eq_false h2, decide_eq_true (show x ≤ hi by omega)]; rfl
    rw [e a0.1, e a0.2.1, e a0.2.2.1]
    cases inB a0.1 1 4 <;> cases inB a0.2.1 1 60000 <;> cases inB a0.2.2.1 1 1000000000 <;> try rfl
    show (bif decide ((ByteArray.size a0.2.2.2.1 : Int) ≤ 56 - a1) then _ else _) = _
    cases decide ((ByteArray.size a0.2.2.2.1 : Int) ≤ 56 - a1) <;> cases (a0.1 != 3) <;> rfl
theorem en_spec_l1Ok (a0 : Int × Int × Int × ByteArray × Unit) (a1 : Int) : evalF Try.prog ta_spec_l1Ok pa_spec_l1Ok sg_spec_l1Ok Try.f143 noL (a0, a1, ()) = de_spec_l1Ok a0 a1 := by kernel_rfl
theorem si_spec_l1Ok : SigsOk Try.prog ta_spec_l1Ok := SigsOk.of fun f sd h => by
  try dsimp only [Tb.of, ta_spec_l1Ok] at h
  split at h
  · rename_i e; subst e; cases h; exact sn_spec_l1Width
  split at h
  · rename_i e; subst e; cases h; exact sn_spec_l1Part
  cases h
theorem sn_spec_l1Ok : Callable Try.prog 143 ∧ Sound Try.prog 143 sd_spec_l1Ok.sg sd_spec_l1Ok.den :=
  fn_plain (pat := pa_spec_l1Ok) (by kernel_rfl) si_spec_l1Ok Try.func143 (by kernel_rfl) (by kernel_rfl) (by kernel_rfl) fun x r h => by
    obtain ⟨a0, a1, ⟨⟩⟩ := x; rw [← h]; exact (en_spec_l1Ok a0 a1).trans (eq_spec_l1Ok a0 a1)
def m_spec_Sum (s : ByteArray) (w : Int) : Option ByteArray := if s.size < 4611686018427387904 then some (sumS s w) else none
def fu_spec_Sum_6 (v0 : ByteArray) (v1 v5 v6 : Int) : Nat := (nI v0.size - v6).toNat + 1
def fu_spec_Sum_11 (v1 v5 : Int) (v7 : ByteArray) (v8 : Int) : Nat := (v1 - v8).toNat + 1
def sg_spec_Sum : Sig := ⟨[.rd .str, .rd (.int .i64)], [none, none], [.rd .str], [none]⟩
noncomputable def sd_spec_Sum : SD := ⟨sg_spec_Sum, fun x => (m_spec_Sum x.1 x.2.1).bind fun r => some ((r, ()), (()))⟩
noncomputable def ta_spec_Sum : Tb := Tb.of fun f => if f = 96 then some sd_spec_l1Width else none
def pa_spec_Sum : Nat → Pat × (Nat → Pat) := fun k => if k = 6 then (⟨[], [(0, .lf (.d .str)), (1, .lf (.d (.int .i64))), (5, .lf (.d (.int .u64))), (6, .lf (.d (.int .i64)))], []⟩, fun e => if e = 2 then ⟨[], [(1, .lf (.d (.int .i64))), (5, .lf (.d (.int .u64)))], []⟩ else ⟨[], [], []⟩) else if k = 11 then (⟨[], [(1, .lf (.d (.int .i64))), (5, .lf (.d (.int .u64))), (7, .lf (.d .str)), (8, .lf (.d (.int .i64)))], []⟩, fun e => if e = 4 then ⟨[], [(7, .lf (.d .str))], []⟩ else ⟨[], [], []⟩) else (⟨[], [], []⟩, fun _ => ⟨[], [], []⟩)
noncomputable def co_spec_Sum_6 : Code := (loopsIn (bodyOf Try.f144)).getD 0 .skip
noncomputable def co_spec_Sum_11 : Code := (loopsIn (bodyOf Try.f144)).getD 1 .skip
noncomputable def tr_spec_Sum_11 {R : Type}  (NX : ((Int) × (Int) × (ByteArray) × (Int) × Unit) → Option R) (X4 : ((ByteArray) × Unit) → Option R) (v1 : Int) (v5 : Int) (v7 : ByteArray) (v8 : Int) : Option R :=
  bif decide (v8 < v1) then
    bif decide (ByteArray.size (strOfNums [IntKind.wrap IntKind.u8 (Int.tmod v5 256)]) + ByteArray.size v7 ≤ 9223372036854775807) then
      NX (v1, IntKind.wrap IntKind.u64 (Int.tdiv v5 256), strOfNums [IntKind.wrap IntKind.u8 (Int.tmod v5 256)] ++ v7, IntKind.wrap IntKind.i64 (v8 + 1), ())
    else none
  else X4 (v7, ())
noncomputable def lo_spec_Sum_11 : Nat → (Int) → (Int) → (ByteArray) → (Int) →  Option ((ByteArray) × Unit)
  | 0, _, _, _, _ => none
  | m + 1, v1, v5, v7, v8 => tr_spec_Sum_11  (fun d => lo_spec_Sum_11 m d.1 d.2.1 d.2.2.1 d.2.2.2.1) (fun d => some (d)) v1 v5 v7 v8
theorem na_spec_Sum_11 {R S : Type}  (NX : ((Int) × (Int) × (ByteArray) × (Int) × Unit) → Option R) (X4 : ((ByteArray) × Unit) → Option R) (v1 : Int) (v5 : Int) (v7 : ByteArray) (v8 : Int) (f : R → Option S) : tr_spec_Sum_11  (fun d => (NX d).bind f) (fun d => (X4 d).bind f) v1 v5 v7 v8 = (tr_spec_Sum_11  NX X4 v1 v5 v7 v8).bind f := by
  unfold tr_spec_Sum_11
  simp only [cond_bind, ite_bind, onSum_bind, Option.bind_assoc, Option.bind_none, Option.bind_some]
noncomputable def tr_spec_Sum_6 {R : Type}  (NX : ((ByteArray) × (Int) × (Int) × (Int) × Unit) → Option R) (X2 : ((Int) × (Int) × Unit) → Option R) (v0 : ByteArray) (v1 : Int) (v5 : Int) (v6 : Int) : Option R :=
  bif decide (v6 < nI (ByteArray.size v0)) then
    bif decide (0 ≤ v6) then
      bif decide (v6 < nI (ByteArray.size v0)) then
        NX
          (v0, v1, IntKind.wrap IntKind.u64 (IntKind.wrap IntKind.u64 (nI (BitVec.toNat (BitVec.ofInt 64 v5 ^^^ BitVec.ofInt 64 (IntKind.wrap IntKind.u64 (byteAt v0 v6))))) * 1099511628211),
            IntKind.wrap IntKind.i64 (v6 + 1), ())
      else none
    else none
  else X2 (v1, v5, ())
noncomputable def lo_spec_Sum_6 : Nat → (ByteArray) → (Int) → (Int) → (Int) →  Option ((Int) × (Int) × Unit)
  | 0, _, _, _, _ => none
  | m + 1, v0, v1, v5, v6 => tr_spec_Sum_6  (fun d => lo_spec_Sum_6 m d.1 d.2.1 d.2.2.1 d.2.2.2.1) (fun d => some (d)) v0 v1 v5 v6
theorem na_spec_Sum_6 {R S : Type}  (NX : ((ByteArray) × (Int) × (Int) × (Int) × Unit) → Option R) (X2 : ((Int) × (Int) × Unit) → Option R) (v0 : ByteArray) (v1 : Int) (v5 : Int) (v6 : Int) (f : R → Option S) : tr_spec_Sum_6  (fun d => (NX d).bind f) (fun d => (X2 d).bind f) v0 v1 v5 v6 = (tr_spec_Sum_6  NX X2 v0 v1 v5 v6).bind f := by
  unfold tr_spec_Sum_6
  simp only [cond_bind, ite_bind, onSum_bind, Option.bind_assoc, Option.bind_none, Option.bind_some]
noncomputable def de_spec_Sum (a0 : ByteArray) (a1 : Int) : Option ((((ByteArray) × Unit) × (Unit))) :=
  Option.bind (bif decide (a1 ≥ 1) then some ((decide (a1 ≤ 8), ()), ()) else some ((false, ()), ())) fun val =>
    bif !val.fst.fst then some ((ByteArray.mk #[], ()), ())
    else Option.bind ((fun d => lo_spec_Sum_6 (fu_spec_Sum_6 d.1 d.2.1 d.2.2.1 d.2.2.2.1) d.1 d.2.1 d.2.2.1 d.2.2.2.1) (a0, a1, 14695981039346656037, 0, ())) fun val => Option.bind ((fun d => lo_spec_Sum_11 (fu_spec_Sum_11 d.1 d.2.1 d.2.2.1 d.2.2.2.1) d.1 d.2.1 d.2.2.1 d.2.2.2.1) (val.fst, val.snd.fst, ByteArray.mk #[], 0, ())) fun val => some ((val.fst, ()), ())
theorem spSum_loop : ∀ (k m i : Nat) (v : Int) (out : ByteArray), i + k ≤ 1000 → k < m → out.size = i → U64 v → lo_spec_Sum_11 m ((i + k : Nat) : Int) v out i = some (beS v k ++ out, ())
  | 0, m + 1, i, v, out, hi, hm, ho, hv => by
    simp only [lo_spec_Sum_11, tr_spec_Sum_11]
    rw [decide_eq_false (by omega), beS_zero]
    rfl
  | k + 1, m + 1, i, v, out, hi, hm, ho, hv => by
    have h0 := hv.1
    have h1 := hv.2
    simp only [lo_spec_Sum_11, tr_spec_Sum_11]
    have e1 : IntKind.wrap IntKind.u8 (Int.tmod v 256) = v % 256 := by
      rw [Int.tmod_eq_emod_of_nonneg h0]
      show v % 256 % 256 = v % 256
      omega
    have e2 : IntKind.wrap IntKind.u64 (Int.tdiv v 256) = v / 256 := by
      rw [Int.tdiv_eq_ediv_of_nonneg h0, wrapU]
      omega
    rw [decide_eq_true (show (i : Int) < ((i + (k + 1) : Nat) : Int) by omega), e1, e2, decide_eq_true (show ByteArray.size (strOfNums [v % 256]) + ByteArray.size out ≤ 9223372036854775807 by rw [ho, size_strOfNums]; simp; omega), wI (show i < 4611686018427387904 by omega)]
    have hL := spSum_loop k m (i + 1) (v / 256) (strOfNums [v % 256] ++ out) (by omega) (by omega) (by rw [ByteArray.size_append, ho, size_strOfNums]; simp; omega) ⟨by omega, by omega⟩
    rw [show i + 1 + k = i + (k + 1) by omega] at hL
    refine hL.trans ?_
    rw [← ByteArray.append_assoc, ← beS_succ]
theorem eq_spec_Sum (a0 : ByteArray) (a1 : Int) r (h : m_spec_Sum a0 a1 = some r) : de_spec_Sum a0 a1 = some ((r, ()), (())) := by
  unfold m_spec_Sum at h
  split at h
  rotate_left
  · cases h
  rename_i hsz
  cases h
  unfold de_spec_Sum sumS
  generalize hC : (14695981039346656037 : Int) = C
  have h0 : U64 C := by rw [← hC]; exact ⟨by decide, by decide⟩
  refine bi_ (wid a1) ?_
  show (bif !inB a1 1 8 then _ else _) = _
  cases hw : inB a1 1 8 with
  | false => rfl
  | true =>
    have k1 := of_decide_eq_true (and2 hw).1
    have k2 := of_decide_eq_true (and2 hw).2
    · simp only [Bool.not_true, cond_false, cond_true]
      have hL := up_loop a0.size (fun _ _ => True) (fun i h => hashStep h (byteAt a0 i)) (g := fun m i h => lo_spec_Sum_6 m a0 a1 h i) (ok := fun h => (a1, h, ())) (fun m i h hi _ => by
        show lo_spec_Sum_6 (m + 1) a0 a1 h i = _
        simp only [lo_spec_Sum_6, tr_spec_Sum_6]
        have c1 : (i : Int) < nI a0.size := by simp only [nI]; omega
        rw [decide_eq_true c1, cLe0, wI (show i < 4611686018427387904 by omega)]
        rfl) (fun m h _ => by
        show lo_spec_Sum_6 (m + 1) a0 a1 h a0.size = _
        simp only [lo_spec_Sum_6, tr_spec_Sum_6]
        rw [decide_eq_false (show ¬ ((a0.size : Int) < nI a0.size) by simp only [nI]; omega)]
        rfl) (fun _ _ _ _ => trivial) a0.size (fu_spec_Sum_6 a0 a1 C 0) 0 C (by omega) (by simp only [fu_spec_Sum_6, nI]; omega) trivial
      rw [show ((0 : Nat) : Int) = 0 from rfl] at hL
      refine bi_ hL ?_
      obtain ⟨n, rfl⟩ : ∃ n : Nat, a1 = (n : Int) := ⟨a1.toNat, by omega⟩
      have hM := spSum_loop n (fu_spec_Sum_11 n (hashGo a0 a0.size 0 C) (ByteArray.mk #[]) 0) 0 (hashGo a0 a0.size 0 C) (ByteArray.mk #[]) (by omega) (by simp only [fu_spec_Sum_11]; omega) rfl (hash_in a0 _ _ h0)
      rw [Nat.zero_add, app_z] at hM
      exact bi_ hM rfl
noncomputable def ou_spec_Sum_6 {R : Type} (k : Kt R) : ((Int) × (Int) × Unit) → Option R := (fun d => k (.exit 0) (((pa_spec_Sum 6).2 2).st d) (((pa_spec_Sum 6).2 2).nid))
noncomputable def ou_spec_Sum_11 {R : Type} (k : Kt R) : ((ByteArray) × Unit) → Option R := (fun d => k (.exit 2) (((pa_spec_Sum 11).2 4).st d) (((pa_spec_Sum 11).2 4).nid))
noncomputable def L_spec_Sum {R : Type} : Lt R pa_spec_Sum := (addL (pat := pa_spec_Sum) 6 (fun d k => (lo_spec_Sum_6 (fu_spec_Sum_6 d.1 d.2.1 d.2.2.1 d.2.2.2.1) d.1 d.2.1 d.2.2.1 d.2.2.2.1).bind (ou_spec_Sum_6 k)) (addL (pat := pa_spec_Sum) 11 (fun d k => (lo_spec_Sum_11 (fu_spec_Sum_11 d.1 d.2.1 d.2.2.1 d.2.2.2.1) d.1 d.2.1 d.2.2.1 d.2.2.2.1).bind (ou_spec_Sum_11 k)) noL))
theorem rd_spec_Sum_11 {R : Type} (nx : (pa_spec_Sum 11).1.D → Kt R → Option R) (k : Kt R) (v1 : Int) (v5 : Int) (v7 : ByteArray) (v8 : Int) : ev Try.prog ⟨ta_spec_Sum, 0, 40, pa_spec_Sum⟩ L_spec_Sum co_spec_Sum_11 ((pa_spec_Sum 11).1.st (v1, v5, v7, v8, ())) (pa_spec_Sum 11).1.nid (roundK 0 (pa_spec_Sum 11) nx k) = tr_spec_Sum_11  (fun d => nx d k) (fun d => k (.exit 2) (((pa_spec_Sum 11).2 4).st d) (((pa_spec_Sum 11).2 4).nid)) v1 v5 v7 v8 := by kernel_rfl
theorem lp_spec_Sum_11 {R : Type} : ∀ (m : Nat) (d : (pa_spec_Sum 11).1.D) (k : Kt R), loopN 0 (pa_spec_Sum 11) (fun s nid k => ev Try.prog ⟨ta_spec_Sum, 0, 40, pa_spec_Sum⟩ L_spec_Sum co_spec_Sum_11 s nid k) m d k = (lo_spec_Sum_11 m d.1 d.2.1 d.2.2.1 d.2.2.2.1).bind (ou_spec_Sum_11 k)
  | 0, _, _ => rfl
  | m + 1, ⟨v1, v5, v7, v8, ⟨⟩⟩, k => (rd_spec_Sum_11 _ k v1 v5 v7 v8).trans ((congrArg (fun F => tr_spec_Sum_11  F (fun d => k (.exit 2) (((pa_spec_Sum 11).2 4).st d) (((pa_spec_Sum 11).2 4).nid)) v1 v5 v7 v8) (funext fun d => lp_spec_Sum_11 m d k)).trans (na_spec_Sum_11 (f := ou_spec_Sum_11 k)  (fun d => lo_spec_Sum_11 m d.1 d.2.1 d.2.2.1 d.2.2.2.1) (fun d => some (d)) v1 v5 v7 v8))
theorem rd_spec_Sum_6 {R : Type} (nx : (pa_spec_Sum 6).1.D → Kt R → Option R) (k : Kt R) (v0 : ByteArray) (v1 : Int) (v5 : Int) (v6 : Int) : ev Try.prog ⟨ta_spec_Sum, 0, 40, pa_spec_Sum⟩ L_spec_Sum co_spec_Sum_6 ((pa_spec_Sum 6).1.st (v0, v1, v5, v6, ())) (pa_spec_Sum 6).1.nid (roundK 0 (pa_spec_Sum 6) nx k) = tr_spec_Sum_6  (fun d => nx d k) (fun d => k (.exit 0) (((pa_spec_Sum 6).2 2).st d) (((pa_spec_Sum 6).2 2).nid)) v0 v1 v5 v6 := by kernel_rfl
theorem lp_spec_Sum_6 {R : Type} : ∀ (m : Nat) (d : (pa_spec_Sum 6).1.D) (k : Kt R), loopN 0 (pa_spec_Sum 6) (fun s nid k => ev Try.prog ⟨ta_spec_Sum, 0, 40, pa_spec_Sum⟩ L_spec_Sum co_spec_Sum_6 s nid k) m d k = (lo_spec_Sum_6 m d.1 d.2.1 d.2.2.1 d.2.2.2.1).bind (ou_spec_Sum_6 k)
  | 0, _, _ => rfl
  | m + 1, ⟨v0, v1, v5, v6, ⟨⟩⟩, k => (rd_spec_Sum_6 _ k v0 v1 v5 v6).trans ((congrArg (fun F => tr_spec_Sum_6  F (fun d => k (.exit 0) (((pa_spec_Sum 6).2 2).st d) (((pa_spec_Sum 6).2 2).nid)) v0 v1 v5 v6) (funext fun d => lp_spec_Sum_6 m d k)).trans (na_spec_Sum_6 (f := ou_spec_Sum_6 k)  (fun d => lo_spec_Sum_6 m d.1 d.2.1 d.2.2.1 d.2.2.2.1) (fun d => some (d)) v0 v1 v5 v6))
theorem en_spec_Sum (a0 : ByteArray) (a1 : Int) : evalF Try.prog ta_spec_Sum pa_spec_Sum sg_spec_Sum Try.f144 L_spec_Sum (a0, a1, ()) = de_spec_Sum a0 a1 := by kernel_rfl
theorem si_spec_Sum : SigsOk Try.prog ta_spec_Sum := SigsOk.of fun f sd h => by
  try dsimp only [Tb.of, ta_spec_Sum] at h
  split at h
  · rename_i e; subst e; cases h; exact sn_spec_l1Width
  cases h
theorem lk_spec_Sum_11 {R : Type} : LoopOk Try.prog R 40 0 pa_spec_Sum L_spec_Sum co_spec_Sum_11 :=
  loop_key (cfg := ⟨ta_spec_Sum, 0, 40, pa_spec_Sum⟩) (key := 11) (by kernel_rfl) (by kernel_rfl) si_spec_Sum rfl rfl (fun d k r h => ⟨fu_spec_Sum_11 d.1 d.2.1 d.2.2.1 d.2.2.2.1, (lp_spec_Sum_11 _ d k).trans h⟩) (fun c hc => by rw [show loopsIn co_spec_Sum_11 = [] from by kernel_rfl] at hc; cases hc)
theorem lk_spec_Sum_6 {R : Type} : LoopOk Try.prog R 40 0 pa_spec_Sum L_spec_Sum co_spec_Sum_6 :=
  loop_key (cfg := ⟨ta_spec_Sum, 0, 40, pa_spec_Sum⟩) (key := 6) (by kernel_rfl) (by kernel_rfl) si_spec_Sum rfl rfl (fun d k r h => ⟨fu_spec_Sum_6 d.1 d.2.1 d.2.2.1 d.2.2.2.1, (lp_spec_Sum_6 _ d k).trans h⟩) (fun c hc => by rw [show loopsIn co_spec_Sum_6 = [] from by kernel_rfl] at hc; cases hc)
theorem sn_spec_Sum : Callable Try.prog 144 ∧ Sound Try.prog 144 sd_spec_Sum.sg sd_spec_Sum.den :=
  fn_loops (pat := pa_spec_Sum) L_spec_Sum (by kernel_rfl) si_spec_Sum Try.func144 (by kernel_rfl) (by kernel_rfl) (fun c hc => by rw [show loopsIn (bodyOf Try.f144) = [co_spec_Sum_6, co_spec_Sum_11] from by kernel_rfl] at hc; simp only [List.mem_cons, List.not_mem_nil, or_false] at hc; rcases hc with rfl | rfl <;> first | exact lk_spec_Sum_6 | exact lk_spec_Sum_11) fun x r h => by
    obtain ⟨a0, a1, ⟨⟩⟩ := x; obtain ⟨y, h1, h2⟩ := Option.bind_eq_some_iff.1 (show (m_spec_Sum a0 a1).bind (fun r => some ((r, ()), (()))) = some r from h); cases h2; exact (en_spec_Sum a0 a1).trans (eq_spec_Sum a0 a1 _ h1)
def m_spec_FormPage (p : Pg) (w : Int) : ByteArray := pageS p w
def fu_spec_FormPage_5 (v1 : Int) (v5 : ByteArray) : Nat := (64 - v1 - nI v5.size).toNat + 1
def sg_spec_FormPage : Sig := ⟨[.rd (.pair (.int .i64) (.pair (.int .i64) (.pair (.int .i64) (.pair .str .unit)))), .rd (.int .i64)], [some 4, none], [.rd .str], [none]⟩
noncomputable def sd_spec_FormPage : SD := ⟨sg_spec_FormPage, fun x => some (((m_spec_FormPage x.1 x.2.1), ()), (()))⟩
noncomputable def ta_spec_FormPage : Tb := Tb.of fun f => if f = 92 then some sd_spec_l1Number else if f = 143 then some sd_spec_l1Ok else if f = 144 then some sd_spec_Sum else none
def pa_spec_FormPage : Nat → Pat × (Nat → Pat) := fun k => if k = 5 then (⟨[], [(1, .lf (.d (.int .i64))), (5, .lf (.d .str))], []⟩, fun e => if e = 2 then ⟨[], [(1, .lf (.d (.int .i64))), (5, .lf (.d .str))], []⟩ else ⟨[], [], []⟩) else (⟨[], [], []⟩, fun _ => ⟨[], [], []⟩)
noncomputable def co_spec_FormPage_5 : Code := (loopsIn (bodyOf Try.f91)).getD 0 .skip
noncomputable def tr_spec_FormPage_5 {R : Type}  (NX : ((Int) × (ByteArray) × Unit) → Option R) (X2 : ((Int) × (ByteArray) × Unit) → Option R) (v1 : Int) (v5 : ByteArray) : Option R :=
  bif decide (IntKind.wrap IntKind.i64 (nI (ByteArray.size v5) + v1) < 64) then
    bif decide (ByteArray.size v5 + ByteArray.size (ByteArray.mk #[0]) ≤ 9223372036854775807) then NX (v1, v5 ++ ByteArray.mk #[0], ()) else none
  else X2 (v1, v5, ())
noncomputable def lo_spec_FormPage_5 : Nat → (Int) → (ByteArray) →  Option ((Int) × (ByteArray) × Unit)
  | 0, _, _ => none
  | m + 1, v1, v5 => tr_spec_FormPage_5  (fun d => lo_spec_FormPage_5 m d.1 d.2.1) (fun d => some (d)) v1 v5
theorem na_spec_FormPage_5 {R S : Type}  (NX : ((Int) × (ByteArray) × Unit) → Option R) (X2 : ((Int) × (ByteArray) × Unit) → Option R) (v1 : Int) (v5 : ByteArray) (f : R → Option S) : tr_spec_FormPage_5  (fun d => (NX d).bind f) (fun d => (X2 d).bind f) v1 v5 = (tr_spec_FormPage_5  NX X2 v1 v5).bind f := by
  unfold tr_spec_FormPage_5
  simp only [cond_bind, ite_bind, onSum_bind, Option.bind_assoc, Option.bind_none, Option.bind_some]
noncomputable def de_spec_FormPage (a0 : Int × Int × Int × ByteArray × Unit) (a1 : Int) : Option ((((ByteArray) × Unit) × (Unit))) :=
  bif !m_spec_l1Ok (a0.fst, a0.snd.fst, a0.snd.snd.fst, a0.snd.snd.snd.fst, ()) a1 then some ((ByteArray.mk #[], ()), ())
  else
    Option.bind (Option.bind (m_spec_l1Number a0.fst 1) fun val => some ((val, ()), ())) fun val =>
      Option.bind (Option.bind (m_spec_l1Number a0.snd.fst 2) fun val => some ((val, ()), ())) fun val_1 =>
        bif decide (ByteArray.size val.fst.fst + ByteArray.size val_1.fst.fst ≤ 9223372036854775807) then
          Option.bind (Option.bind (m_spec_l1Number a0.snd.snd.fst 4) fun val => some ((val, ()), ())) fun val_2 =>
            bif decide (ByteArray.size (val.fst.fst ++ val_1.fst.fst) + ByteArray.size val_2.fst.fst ≤ 9223372036854775807) then
              Option.bind (Option.bind (m_spec_l1Number (nI (ByteArray.size a0.snd.snd.snd.fst)) 1) fun val => some ((val, ()), ())) fun val_3 =>
                bif decide (ByteArray.size (val.fst.fst ++ val_1.fst.fst ++ val_2.fst.fst) + ByteArray.size val_3.fst.fst ≤ 9223372036854775807) then
                  bif decide (ByteArray.size (val.fst.fst ++ val_1.fst.fst ++ val_2.fst.fst ++ val_3.fst.fst) + ByteArray.size a0.snd.snd.snd.fst ≤ 9223372036854775807) then
                    Option.bind ((fun d => lo_spec_FormPage_5 (fu_spec_FormPage_5 d.1 d.2.1) d.1 d.2.1) (a1, val.fst.fst ++ val_1.fst.fst ++ val_2.fst.fst ++ val_3.fst.fst ++ a0.snd.snd.snd.fst, ())) fun val =>
                      Option.bind (Option.bind (m_spec_Sum val.snd.fst val.fst) fun val => some ((val, ()), ())) fun val_4 =>
                        bif decide (ByteArray.size val_4.fst.fst + ByteArray.size val.snd.fst ≤ 9223372036854775807) then some ((val_4.fst.fst ++ val.snd.fst, ()), ()) else none
                  else none
                else none
            else none
        else none
theorem pad_loop (w : Int) : ∀ (k m : Nat) (b : ByteArray), (b.size : Int) + w + k = 64 → 0 ≤ w → k < m → lo_spec_FormPage_5 m w b = some (w, b ++ strOfNums (List.replicate k 0), ())
  | 0, m + 1, b, h, h0, hm => by
    simp only [lo_spec_FormPage_5, tr_spec_FormPage_5]
    rw [wrap_ok (by simp only [nI]; omega) (by simp only [nI]; omega), decide_eq_false (show ¬ (nI b.size + w < 64) by simp only [nI]; omega), show strOfNums (List.replicate 0 0) = ByteArray.mk #[] from rfl, app_z]
    rfl
  | k + 1, m + 1, b, h, h0, hm => by
    simp only [lo_spec_FormPage_5, tr_spec_FormPage_5]
    have hz : (ByteArray.mk #[0]).size = 1 := rfl
    rw [wrap_ok (by simp only [nI]; omega) (by simp only [nI]; omega), decide_eq_true (show nI b.size + w < 64 by simp only [nI]; omega), hz, decide_eq_true (show b.size + 1 ≤ 9223372036854775807 by omega)]
    have := pad_loop w k m (b ++ ByteArray.mk #[0]) (by rw [ByteArray.size_append, hz]; omega) h0 (by omega)
    refine this.trans ?_
    rw [ByteArray.append_assoc, show ByteArray.mk #[0] = strOfNums [0] from rfl, ← strOfNums_app]
    rfl
theorem eq_spec_FormPage (a0 : Int × Int × Int × ByteArray × Unit) (a1 : Int) : de_spec_FormPage a0 a1 = some (((m_spec_FormPage a0 a1), ()), (())) := by
  unfold de_spec_FormPage m_spec_FormPage pageS
  show (bif !pageOk a0 a1 then _ else _) = _
  cases hp : pageOk a0 a1 with
  | false => rfl
  | true =>
    obtain ⟨hw, k1, k2, kp⟩ := pageOk_w hp
    obtain ⟨r1, r2, r3⟩ := pageOk_r hp
    have n1 : m_spec_l1Number a0.1 1 = some (beS a0.1 1) := (me_spec_l1Number _ _).trans (if_pos (by omega))
    have n2 : m_spec_l1Number a0.2.1 2 = some (beS a0.2.1 2) := (me_spec_l1Number _ _).trans (if_pos (by omega))
    have n3 : m_spec_l1Number a0.2.2.1 4 = some (beS a0.2.2.1 4) := (me_spec_l1Number _ _).trans (if_pos (by omega))
    have n4 : m_spec_l1Number (nI a0.2.2.2.1.size) 1 = some (beS (nI a0.2.2.2.1.size) 1) := (me_spec_l1Number _ _).trans (if_pos (by simp only [nI]; omega))
    simp only [Bool.not_true, cond_false, cond_true, n1, n2, n3, n4, Option.bind_some]
    have hb : bodyS a0 a1 = beS a0.1 1 ++ beS a0.2.1 2 ++ beS a0.2.2.1 4 ++ beS (nI a0.2.2.2.1.size) 1 ++ a0.2.2.2.1 ++ strOfNums (List.replicate (56 - a1 - a0.2.2.2.1.size).toNat 0) := rfl
    have hs4 : (beS a0.1 1 ++ beS a0.2.1 2 ++ beS a0.2.2.1 4 ++ beS (nI a0.2.2.2.1.size) 1).size = 8 := by simp only [ByteArray.size_append, beS_size]
    have hs3 : (beS a0.1 1 ++ beS a0.2.1 2 ++ beS a0.2.2.1 4).size = 7 := by simp only [ByteArray.size_append, beS_size]
    have hs2 : (beS a0.1 1 ++ beS a0.2.1 2).size = 3 := by simp only [ByteArray.size_append, beS_size]
    have hs5 : (beS a0.1 1 ++ beS a0.2.1 2 ++ beS a0.2.2.1 4 ++ beS (nI a0.2.2.2.1.size) 1 ++ a0.2.2.2.1).size = 8 + a0.2.2.2.1.size := by rw [ByteArray.size_append, hs4]
    rw [hs4, hs3, hs2, beS_size, beS_size, beS_size, beS_size, decide_eq_true (show 1 + 2 ≤ 9223372036854775807 by decide), decide_eq_true (show 3 + 4 ≤ 9223372036854775807 by decide), decide_eq_true (show 7 + 1 ≤ 9223372036854775807 by decide), decide_eq_true (show 8 + a0.2.2.2.1.size ≤ 9223372036854775807 by omega)]
    simp only [cond_true]
    generalize hB : beS a0.1 1 ++ beS a0.2.1 2 ++ beS a0.2.2.1 4 ++ beS (nI a0.2.2.2.1.size) 1 ++ a0.2.2.2.1 = B at *
    have hL := pad_loop a1 (56 - a1 - a0.2.2.2.1.size).toNat (fu_spec_FormPage_5 a1 B) B (by rw [hs5]; omega) (by omega) (by simp only [fu_spec_FormPage_5, nI, hs5]; omega)
    have hz : (strOfNums (List.replicate (56 - a1 - a0.2.2.2.1.size).toNat 0)).size = (56 - a1 - a0.2.2.2.1.size).toNat := by rw [size_strOfNums, List.length_replicate]
    rw [← hb] at hL
    have hbs : (bodyS a0 a1).size ≤ 64 := by rw [hb, ByteArray.size_append, hs5, hz]; omega
    have hm : m_spec_Sum (bodyS a0 a1) a1 = some (sumS (bodyS a0 a1) a1) := if_pos (by omega)
    refine bi_ hL (bi_ (bi_ hm rfl) ?_)
    show (bif decide (ByteArray.size (sumS (bodyS a0 a1) a1) + ByteArray.size (bodyS a0 a1) ≤ 9223372036854775807) then some ((sumS (bodyS a0 a1) a1 ++ bodyS a0 a1, ()), ()) else none) = _
    rw [sumS_size hw, decide_eq_true (by omega)]
    rfl
noncomputable def ou_spec_FormPage_5 {R : Type} (k : Kt R) : ((Int) × (ByteArray) × Unit) → Option R := (fun d => k (.exit 0) (((pa_spec_FormPage 5).2 2).st d) (((pa_spec_FormPage 5).2 2).nid))
noncomputable def L_spec_FormPage {R : Type} : Lt R pa_spec_FormPage := (addL (pat := pa_spec_FormPage) 5 (fun d k => (lo_spec_FormPage_5 (fu_spec_FormPage_5 d.1 d.2.1) d.1 d.2.1).bind (ou_spec_FormPage_5 k)) noL)
theorem rd_spec_FormPage_5 {R : Type} (nx : (pa_spec_FormPage 5).1.D → Kt R → Option R) (k : Kt R) (v1 : Int) (v5 : ByteArray) : ev Try.prog ⟨ta_spec_FormPage, 0, 41, pa_spec_FormPage⟩ L_spec_FormPage co_spec_FormPage_5 ((pa_spec_FormPage 5).1.st (v1, v5, ())) (pa_spec_FormPage 5).1.nid (roundK 0 (pa_spec_FormPage 5) nx k) = tr_spec_FormPage_5  (fun d => nx d k) (fun d => k (.exit 0) (((pa_spec_FormPage 5).2 2).st d) (((pa_spec_FormPage 5).2 2).nid)) v1 v5 := by kernel_rfl
theorem lp_spec_FormPage_5 {R : Type} : ∀ (m : Nat) (d : (pa_spec_FormPage 5).1.D) (k : Kt R), loopN 0 (pa_spec_FormPage 5) (fun s nid k => ev Try.prog ⟨ta_spec_FormPage, 0, 41, pa_spec_FormPage⟩ L_spec_FormPage co_spec_FormPage_5 s nid k) m d k = (lo_spec_FormPage_5 m d.1 d.2.1).bind (ou_spec_FormPage_5 k)
  | 0, _, _ => rfl
  | m + 1, ⟨v1, v5, ⟨⟩⟩, k => (rd_spec_FormPage_5 _ k v1 v5).trans ((congrArg (fun F => tr_spec_FormPage_5  F (fun d => k (.exit 0) (((pa_spec_FormPage 5).2 2).st d) (((pa_spec_FormPage 5).2 2).nid)) v1 v5) (funext fun d => lp_spec_FormPage_5 m d k)).trans (na_spec_FormPage_5 (f := ou_spec_FormPage_5 k)  (fun d => lo_spec_FormPage_5 m d.1 d.2.1) (fun d => some (d)) v1 v5))
theorem en_spec_FormPage (a0 : Int × Int × Int × ByteArray × Unit) (a1 : Int) : evalF Try.prog ta_spec_FormPage pa_spec_FormPage sg_spec_FormPage Try.f91 L_spec_FormPage (a0, a1, ()) = de_spec_FormPage a0 a1 := by kernel_rfl
theorem si_spec_FormPage : SigsOk Try.prog ta_spec_FormPage := SigsOk.of fun f sd h => by
  try dsimp only [Tb.of, ta_spec_FormPage] at h
  split at h
  · rename_i e; subst e; cases h; exact sn_spec_l1Number
  split at h
  · rename_i e; subst e; cases h; exact sn_spec_l1Ok
  split at h
  · rename_i e; subst e; cases h; exact sn_spec_Sum
  cases h
theorem lk_spec_FormPage_5 {R : Type} : LoopOk Try.prog R 41 0 pa_spec_FormPage L_spec_FormPage co_spec_FormPage_5 :=
  loop_key (cfg := ⟨ta_spec_FormPage, 0, 41, pa_spec_FormPage⟩) (key := 5) (by kernel_rfl) (by kernel_rfl) si_spec_FormPage rfl rfl (fun d k r h => ⟨fu_spec_FormPage_5 d.1 d.2.1, (lp_spec_FormPage_5 _ d k).trans h⟩) (fun c hc => by rw [show loopsIn co_spec_FormPage_5 = [] from by kernel_rfl] at hc; cases hc)
theorem sn_spec_FormPage : Callable Try.prog 91 ∧ Sound Try.prog 91 sd_spec_FormPage.sg sd_spec_FormPage.den :=
  fn_loops (pat := pa_spec_FormPage) L_spec_FormPage (by kernel_rfl) si_spec_FormPage Try.func91 (by kernel_rfl) (by kernel_rfl) (fun c hc => by rw [show loopsIn (bodyOf Try.f91) = [co_spec_FormPage_5] from by kernel_rfl] at hc; simp only [List.mem_cons, List.not_mem_nil, or_false] at hc; rcases hc with rfl <;> first | exact lk_spec_FormPage_5) fun x r h => by
    obtain ⟨a0, a1, ⟨⟩⟩ := x; rw [← h]; exact (en_spec_FormPage a0 a1).trans (eq_spec_FormPage a0 a1)
end Go.Proofs.Yteaoabdlcefkhaa.V
