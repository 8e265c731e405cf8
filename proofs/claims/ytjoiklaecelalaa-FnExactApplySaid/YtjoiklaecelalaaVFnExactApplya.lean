/- What the functions that FnExactApply reaches come to: part 1. No condition. -/
import Derived.Test.YtjoiklaecelalaaQBase
import Derived.Test.YtjoiklaecelalaaTLay
import Derived.Test.YtjoiklaecelalaaProg
import Derived.Test.YtjoiklaecelalaaQS
import Derived.Test.YtjoiklaecelalaaQA
import Derived.Test.YtjoiklaecelalaaQT
import Derived.Test.YtjoiklaecelalaaTSort
import Derived.KernelRfl
namespace Go.Proofs.Ytjoiklaecelalaa.V
open Go Go.Proofs.Ytjoiklaecelalaa.R Go.Proofs
set_option maxRecDepth 100000
set_option linter.unusedVariables false
set_option linter.unusedSimpArgs false
def m_laws_szPair (a : ByteArray × ByteArray × Unit) (left : Int) : Option Int := szM (.pair .str (.pair .str .unit)) a left
def sg_laws_szPair : Sig := ⟨[.rd (.pair .str (.pair .str .unit)), .rd (.int .i64)], [some 2, none], [.rd (.int .i64)], [none]⟩
noncomputable def sd_laws_szPair : SD := ⟨sg_laws_szPair, fun x => (m_laws_szPair x.1 x.2.1).bind fun r => some ((r, ()), (()))⟩
noncomputable def ta_laws_szPair : Tb := Tb.of fun f => none
def pa_laws_szPair : Nat → Pat × (Nat → Pat) := fun k => (⟨[], [], []⟩, fun _ => ⟨[], [], []⟩)
noncomputable def de_laws_szPair (a0 : ByteArray × ByteArray × Unit) (a1 : Int) : Option ((((Int) × Unit) × (Unit))) :=
  bif decide (IntKind.wrap IntKind.i64 (a1 - nI (ByteArray.size a0.fst)) < 0) then some ((-1, ()), ())
  else
    bif decide (IntKind.wrap IntKind.i64 (IntKind.wrap IntKind.i64 (a1 - nI (ByteArray.size a0.fst)) - nI (ByteArray.size a0.snd.fst)) < 0) then some ((-1, ()), ())
    else some ((IntKind.wrap IntKind.i64 (IntKind.wrap IntKind.i64 (a1 - nI (ByteArray.size a0.fst)) - nI (ByteArray.size a0.snd.fst)), ()), ())
theorem eq_laws_szPair (a0 : ByteArray × ByteArray × Unit) (a1 : Int) r (h : m_laws_szPair a0 a1 = some r) : de_laws_szPair a0 a1 = some ((r, ()), (())) := by
  obtain ⟨hc, g0, g1, rfl⟩ := szM_some (t := (.pair .str (.pair .str .unit))) h
  obtain ⟨hc0, hc1, _⟩ : fineB .str a0.1 = true ∧ fineB .str a0.2.1 = true ∧ True := by
    have s := hc
    obtain ⟨h0, s⟩ := fineB_pair s
    obtain ⟨h1, s⟩ := fineB_pair s
    exact ⟨h0, h1, trivial⟩
  unfold de_laws_szPair
  have hwt : (wt (.pair .str (.pair .str .unit)) a0 : Int) = (ByteArray.size a0.1 : Int) + (ByteArray.size a0.2.1 : Int) := by simp only [wt]; omega
  rw [hwt]
  have hs0 : ByteArray.size a0.1 < 1152921504606846976 := fineB_str hc0
  have e0 : IntKind.i64.wrap (a1 - nI (ByteArray.size a0.1)) = a1 - (ByteArray.size a0.1 : Int) := wrap_ok (by simp only [nI]; omega) (by simp only [nI]; omega)
  simp only [e0]
  by_cases q0 : a1 - (ByteArray.size a0.1 : Int) < 0
  · simp only [decide_eq_true q0, cond_true]; try rw [if_pos (by omega)]
  · simp only [decide_eq_false q0, cond_false]
    have hs1 : ByteArray.size a0.2.1 < 1152921504606846976 := fineB_str hc1
    have e1 : IntKind.i64.wrap (a1 - (ByteArray.size a0.1 : Int) - nI (ByteArray.size a0.2.1)) = a1 - (ByteArray.size a0.1 : Int) - (ByteArray.size a0.2.1 : Int) := wrap_ok (by simp only [nI]; omega) (by simp only [nI]; omega)
    simp only [e1]
    by_cases q1 : a1 - (ByteArray.size a0.1 : Int) - (ByteArray.size a0.2.1 : Int) < 0
    · simp only [decide_eq_true q1, cond_true]; try rw [if_pos (by omega)]
    · simp only [decide_eq_false q1, cond_false]
      rw [if_neg (by omega)]
      simp only [Int.sub_sub, Int.add_assoc]
theorem en_laws_szPair (a0 : ByteArray × ByteArray × Unit) (a1 : Int) : evalF Try.prog ta_laws_szPair pa_laws_szPair sg_laws_szPair Try.f173 noL (a0, a1, ()) = de_laws_szPair a0 a1 := by kernel_rfl
theorem si_laws_szPair : SigsOk Try.prog ta_laws_szPair := SigsOk.of fun f sd h => by
  try dsimp only [Tb.of, ta_laws_szPair] at h
  cases h
theorem sn_laws_szPair : Callable Try.prog 173 ∧ Sound Try.prog 173 sd_laws_szPair.sg sd_laws_szPair.den :=
  fn_plain (pat := pa_laws_szPair) (by kernel_rfl) si_laws_szPair Try.func173 (by kernel_rfl) (by kernel_rfl) (by kernel_rfl) fun x r h => by
    obtain ⟨a0, a1, ⟨⟩⟩ := x; obtain ⟨y, h1, h2⟩ := Option.bind_eq_some_iff.1 (show (m_laws_szPair a0 a1).bind (fun r => some ((r, ()), (()))) = some r from h); cases h2; exact (en_laws_szPair a0 a1).trans (eq_laws_szPair a0 a1 _ h1)
def m_laws_szPairS (a : List (ByteArray × ByteArray × Unit)) (left : Int) : Option Int := szM (.sl (.pair .str (.pair .str .unit))) a left
def sg_laws_szPairS : Sig := ⟨[.rd (.sl (.pair .str (.pair .str .unit))), .rd (.int .i64)], [none, none], [.rd (.int .i64)], [none]⟩
noncomputable def sd_laws_szPairS : SD := ⟨sg_laws_szPairS, fun x => (m_laws_szPairS x.1 x.2.1).bind fun r => some ((r, ()), (()))⟩
noncomputable def ta_laws_szPairS : Tb := Tb.of fun f => if f = 173 then some sd_laws_szPair else none
def pa_laws_szPairS : Nat → Pat × (Nat → Pat) := fun k => if k = 6 then (⟨[.sl 0 0 (.pair .str (.pair .str .unit))], [(0, .lf (.d (.sl (.pair .str (.pair .str .unit))))), (1, .lf (.d (.int .i64))), (5, .lf (.d (.int .i64)))], []⟩, fun e => if e = 1 then ⟨[], [(4, .lf (.d (.int .i64)))], []⟩ else if e = 2 then ⟨[], [(1, .lf (.d (.int .i64)))], []⟩ else ⟨[], [], []⟩) else (⟨[], [], []⟩, fun _ => ⟨[], [], []⟩)
noncomputable def co_laws_szPairS_6 : Code := (loopsIn (bodyOf Try.f91)).getD 0 .skip
def fu_laws_szPairS_6 (v0 : List (ByteArray × ByteArray × Unit)) (v1 : Int) (v5 : Int) : Nat := ((v0.length : Int) - v5).toNat + 1
noncomputable def tr_laws_szPairS_6 {R : Type}  (NX : ((List (ByteArray × ByteArray × Unit)) × (Int) × (Int) × Unit) → Option R) (X2 : ((Int) × Unit) → Option R) (X1 : ((Int) × Unit) → Option R) (v0 : List (ByteArray × ByteArray × Unit)) (v1 : Int) (v5 : Int) : Option R :=
  bif decide (v5 < nI (List.length v0)) then
    bif decide (0 ≤ v5) then
      bif decide (v5 < nI (List.length v0)) then
        Option.bind
          (Option.bind (m_laws_szPair ((List.getD v0 (Int.toNat v5) (ByteArray.mk #[], ByteArray.mk #[], ())).fst, (List.getD v0 (Int.toNat v5) (ByteArray.mk #[], ByteArray.mk #[], ())).snd.fst, ()) v1)
            fun val => some ((val, ()), ()))
          fun val => bif decide (val.fst.fst < 0) then X1 (-1, ()) else NX (v0, val.fst.fst, IntKind.wrap IntKind.i64 (v5 + 1), ())
      else none
    else none
  else X2 (v1, ())
noncomputable def lo_laws_szPairS_6 : Nat → (List (ByteArray × ByteArray × Unit)) → (Int) → (Int) →  Option (((Int) × Unit) ⊕ ((Int) × Unit))
  | 0, _, _, _ => none
  | m + 1, v0, v1, v5 => tr_laws_szPairS_6  (fun d => lo_laws_szPairS_6 m d.1 d.2.1 d.2.2.1) (fun d => some (.inl (d))) (fun d => some (.inr (d))) v0 v1 v5
theorem na_laws_szPairS_6 {R S : Type}  (NX : ((List (ByteArray × ByteArray × Unit)) × (Int) × (Int) × Unit) → Option R) (X2 : ((Int) × Unit) → Option R) (X1 : ((Int) × Unit) → Option R) (v0 : List (ByteArray × ByteArray × Unit)) (v1 : Int) (v5 : Int) (f : R → Option S) : tr_laws_szPairS_6  (fun d => (NX d).bind f) (fun d => (X2 d).bind f) (fun d => (X1 d).bind f) v0 v1 v5 = (tr_laws_szPairS_6  NX X2 X1 v0 v1 v5).bind f := by
  unfold tr_laws_szPairS_6
  simp only [cond_bind, ite_bind, onSum_bind, Option.bind_assoc, Option.bind_none, Option.bind_some]
noncomputable def de_laws_szPairS (a0 : List (ByteArray × ByteArray × Unit)) (a1 : Int) : Option ((((Int) × Unit) × (Unit))) :=
  bif decide (IntKind.wrap IntKind.i64 (a1 - nI (List.length a0)) < 0) then some ((-1, ()), ())
  else Option.bind ((fun d => lo_laws_szPairS_6 (fu_laws_szPairS_6 d.1 d.2.1 d.2.2.1) d.1 d.2.1 d.2.2.1) (a0, IntKind.wrap IntKind.i64 (a1 - nI (List.length a0)), 0, ())) fun val => onSum (fun val => some ((val.fst, ()), ())) (fun val => some ((val.fst, ()), ())) val
theorem eq_laws_szPairS (a0 : List (ByteArray × ByteArray × Unit)) (a1 : Int) r (h : m_laws_szPairS a0 a1 = some r) : de_laws_szPairS a0 a1 = some ((r, ()), (())) := by
  obtain ⟨hc, g0, g1, rfl⟩ := szM_some (t := .sl (.pair .str (.pair .str .unit))) h
  obtain ⟨hl0, hall⟩ := fineB_sl hc
  have hl : a0.length < 1152921504606846976 := hl0
  clear hl0 hc
  · unfold de_laws_szPairS
    have hw1 : IntKind.i64.wrap (a1 - nI a0.length) = a1 - (a0.length : Int) := wrap_ok (by simp only [nI]; omega) (by simp only [nI]; omega)
    rw [hw1]
    have hL := sz_loop (xs := a0) ((ByteArray.mk #[]), (ByteArray.mk #[]), ()) (fun x : ByteArray × ByteArray × Unit => wt (.pair .str (.pair .str .unit)) x) (g := fun m l i => lo_laws_szPairS_6 m a0 l i) (ok := fun l => .inl (l, ())) (bad := .inr (-1, ())) (fun m i l hi h0 h1 => by
      show lo_laws_szPairS_6 (m + 1) a0 l i = _
      simp only [lo_laws_szPairS_6, tr_laws_szPairS_6]
      rw [cLt hi, cLe0, wI (by omega)]
      simp only [cond_true, Int.toNat_natCast]
      have hE : m_laws_szPair ((List.getD (α := ByteArray × ByteArray × Unit) a0 i ((ByteArray.mk #[]), (ByteArray.mk #[]), ())).fst, (List.getD (α := ByteArray × ByteArray × Unit) a0 i ((ByteArray.mk #[]), (ByteArray.mk #[]), ())).snd.fst, ()) l = some (if l - (wt (.pair .str (.pair .str .unit)) (List.getD (α := ByteArray × ByteArray × Unit) a0 i ((ByteArray.mk #[]), (ByteArray.mk #[]), ())) : Int) < 0 then -1 else l - wt (.pair .str (.pair .str .unit)) (List.getD (α := ByteArray × ByteArray × Unit) a0 i ((ByteArray.mk #[]), (ByteArray.mk #[]), ()))) := by
        exact szM_is (t := (.pair .str (.pair .str .unit))) (x := (List.getD (α := ByteArray × ByteArray × Unit) a0 i ((ByteArray.mk #[]), (ByteArray.mk #[]), ()))) (hall _ (getD_mem ((ByteArray.mk #[]), (ByteArray.mk #[]), ()) hi)) h0 h1
      rw [hE]
      by_cases q : l - (wt (.pair .str (.pair .str .unit)) (List.getD (α := ByteArray × ByteArray × Unit) a0 i ((ByteArray.mk #[]), (ByteArray.mk #[]), ())) : Int) < 0
      · simp only [if_pos q, decide_eq_true q, Option.bind_some, cond_true]; rfl
      · simp only [if_neg q, decide_eq_false q, Option.bind_some, cond_false]
    ) (fun m l => by
      show lo_laws_szPairS_6 (m + 1) a0 l a0.length = _
      simp only [lo_laws_szPairS_6, tr_laws_szPairS_6]
      rw [cLtF]
      rfl) (fu_laws_szPairS_6 a0 (a1 - (a0.length : Int)) 0) 0 (a1 - (a0.length : Int)) (by omega) (by simp [fu_laws_szPairS_6])
    have hW : wt (.sl (.pair .str (.pair .str .unit))) a0 = a0.length + (a0.map (fun x : ByteArray × ByteArray × Unit => wt (.pair .str (.pair .str .unit)) x)).sum := rfl
    rw [hW]
    by_cases q : a1 - (a0.length : Int) < 0
    · simp only [decide_eq_true q, cond_true]; rw [if_pos (by omega)]
    · simp only [decide_eq_false q, cond_false]
      have hL := hL (by omega) (by omega)
      rw [List.drop_zero] at hL
      show (lo_laws_szPairS_6 (fu_laws_szPairS_6 a0 (a1 - (a0.length : Int)) 0) a0 (a1 - (a0.length : Int)) 0).bind _ = _
      have hL' : lo_laws_szPairS_6 (fu_laws_szPairS_6 a0 (a1 - (a0.length : Int)) 0) a0 (a1 - (a0.length : Int)) 0 = _ := hL
      rw [hL']
      have hsum : a1 - ((a0.length + (a0.map (fun x : ByteArray × ByteArray × Unit => wt (.pair .str (.pair .str .unit)) x)).sum : Nat) : Int) = a1 - (a0.length : Int) - ((a0.map (fun x : ByteArray × ByteArray × Unit => wt (.pair .str (.pair .str .unit)) x)).sum : Int) := by omega
      rw [hsum]
      by_cases q2 : a1 - (a0.length : Int) - ((a0.map (fun x : ByteArray × ByteArray × Unit => wt (.pair .str (.pair .str .unit)) x)).sum : Int) < 0
      · simp only [if_pos q2]; rfl
      · simp only [if_neg q2]; rfl
noncomputable def ou_laws_szPairS_6 {R : Type} (k : Kt R) : (((Int) × Unit) ⊕ ((Int) × Unit)) → Option R := (onSum (fun d => k (.exit 0) (((pa_laws_szPairS 6).2 2).st d) (((pa_laws_szPairS 6).2 2).nid)) (fun d => k .ret (((pa_laws_szPairS 6).2 1).st d) (((pa_laws_szPairS 6).2 1).nid)))
noncomputable def L_laws_szPairS {R : Type} : Lt R pa_laws_szPairS := (addL (pat := pa_laws_szPairS) 6 (fun d k => (lo_laws_szPairS_6 (fu_laws_szPairS_6 d.1 d.2.1 d.2.2.1) d.1 d.2.1 d.2.2.1).bind (ou_laws_szPairS_6 k)) noL)
theorem rd_laws_szPairS_6 {R : Type} (nx : (pa_laws_szPairS 6).1.D → Kt R → Option R) (k : Kt R) (v0 : List (ByteArray × ByteArray × Unit)) (v1 : Int) (v5 : Int) : ev Try.prog ⟨ta_laws_szPairS, 0, 27, pa_laws_szPairS⟩ L_laws_szPairS co_laws_szPairS_6 ((pa_laws_szPairS 6).1.st (v0, v1, v5, ())) (pa_laws_szPairS 6).1.nid (roundK 0 (pa_laws_szPairS 6) nx k) = tr_laws_szPairS_6  (fun d => nx d k) (fun d => k (.exit 0) (((pa_laws_szPairS 6).2 2).st d) (((pa_laws_szPairS 6).2 2).nid)) (fun d => k .ret (((pa_laws_szPairS 6).2 1).st d) (((pa_laws_szPairS 6).2 1).nid)) v0 v1 v5 := by kernel_rfl
theorem lp_laws_szPairS_6 {R : Type} : ∀ (m : Nat) (d : (pa_laws_szPairS 6).1.D) (k : Kt R), loopN 0 (pa_laws_szPairS 6) (fun s nid k => ev Try.prog ⟨ta_laws_szPairS, 0, 27, pa_laws_szPairS⟩ L_laws_szPairS co_laws_szPairS_6 s nid k) m d k = (lo_laws_szPairS_6 m d.1 d.2.1 d.2.2.1).bind (ou_laws_szPairS_6 k)
  | 0, _, _ => rfl
  | m + 1, ⟨v0, v1, v5, ⟨⟩⟩, k => (rd_laws_szPairS_6 _ k v0 v1 v5).trans ((congrArg (fun F => tr_laws_szPairS_6  F (fun d => k (.exit 0) (((pa_laws_szPairS 6).2 2).st d) (((pa_laws_szPairS 6).2 2).nid)) (fun d => k .ret (((pa_laws_szPairS 6).2 1).st d) (((pa_laws_szPairS 6).2 1).nid)) v0 v1 v5) (funext fun d => lp_laws_szPairS_6 m d k)).trans (na_laws_szPairS_6 (f := ou_laws_szPairS_6 k)  (fun d => lo_laws_szPairS_6 m d.1 d.2.1 d.2.2.1) (fun d => some (.inl (d))) (fun d => some (.inr (d))) v0 v1 v5))
theorem en_laws_szPairS (a0 : List (ByteArray × ByteArray × Unit)) (a1 : Int) : evalF Try.prog ta_laws_szPairS pa_laws_szPairS sg_laws_szPairS Try.f91 L_laws_szPairS (a0, a1, ()) = de_laws_szPairS a0 a1 := by kernel_rfl
theorem si_laws_szPairS : SigsOk Try.prog ta_laws_szPairS := SigsOk.of fun f sd h => by
  try dsimp only [Tb.of, ta_laws_szPairS] at h
  split at h
  · rename_i e; subst e; cases h; exact sn_laws_szPair
  cases h
theorem lk_laws_szPairS_6 {R : Type} : LoopOk Try.prog R 27 0 pa_laws_szPairS L_laws_szPairS co_laws_szPairS_6 :=
  loop_key (cfg := ⟨ta_laws_szPairS, 0, 27, pa_laws_szPairS⟩) (key := 6) (by kernel_rfl) (by kernel_rfl) si_laws_szPairS rfl rfl (fun d k r h => ⟨fu_laws_szPairS_6 d.1 d.2.1 d.2.2.1, (lp_laws_szPairS_6 _ d k).trans h⟩) (fun c hc => by rw [show loopsIn co_laws_szPairS_6 = [] from by kernel_rfl] at hc; cases hc)
theorem sn_laws_szPairS : Callable Try.prog 91 ∧ Sound Try.prog 91 sd_laws_szPairS.sg sd_laws_szPairS.den :=
  fn_loops (pat := pa_laws_szPairS) L_laws_szPairS (by kernel_rfl) si_laws_szPairS Try.func91 (by kernel_rfl) (by kernel_rfl) (fun c hc => by rw [show loopsIn (bodyOf Try.f91) = [co_laws_szPairS_6] from by kernel_rfl] at hc; simp only [List.mem_cons, List.not_mem_nil, or_false] at hc; rcases hc with rfl <;> first | exact lk_laws_szPairS_6) fun x r h => by
    obtain ⟨a0, a1, ⟨⟩⟩ := x; obtain ⟨y, h1, h2⟩ := Option.bind_eq_some_iff.1 (show (m_laws_szPairS a0 a1).bind (fun r => some ((r, ()), (()))) = some r from h); cases h2; exact (en_laws_szPairS a0 a1).trans (eq_laws_szPairS a0 a1 _ h1)
def m_laws_szState (a : (List (ByteArray × ByteArray × Unit)) × Unit) (left : Int) : Option Int := szM (.pair (.sl (.pair .str (.pair .str .unit))) .unit) a left
def sg_laws_szState : Sig := ⟨[.rd (.pair (.sl (.pair .str (.pair .str .unit))) .unit), .rd (.int .i64)], [some 1, none], [.rd (.int .i64)], [none]⟩
noncomputable def sd_laws_szState : SD := ⟨sg_laws_szState, fun x => (m_laws_szState x.1 x.2.1).bind fun r => some ((r, ()), (()))⟩
noncomputable def ta_laws_szState : Tb := Tb.of fun f => if f = 91 then some sd_laws_szPairS else none
def pa_laws_szState : Nat → Pat × (Nat → Pat) := fun k => (⟨[], [], []⟩, fun _ => ⟨[], [], []⟩)
noncomputable def de_laws_szState (a0 : (List (ByteArray × ByteArray × Unit)) × Unit) (a1 : Int) : Option ((((Int) × Unit) × (Unit))) :=
  Option.bind (Option.bind (m_laws_szPairS a0.fst a1) fun val => some ((val, ()), ())) fun val => bif decide (val.fst.fst < 0) then some ((-1, ()), ()) else some ((val.fst.fst, ()), ())
theorem eq_laws_szState (a0 : (List (ByteArray × ByteArray × Unit)) × Unit) (a1 : Int) r (h : m_laws_szState a0 a1 = some r) : de_laws_szState a0 a1 = some ((r, ()), (())) := by
  obtain ⟨hc, g0, g1, rfl⟩ := szM_some (t := (.pair (.sl (.pair .str (.pair .str .unit))) .unit)) h
  obtain ⟨hc0, _⟩ : fineB (.sl (.pair .str (.pair .str .unit))) a0.1 = true ∧ True := by
    have s := hc
    obtain ⟨h0, s⟩ := fineB_pair s
    exact ⟨h0, trivial⟩
  unfold de_laws_szState
  have hwt : (wt (.pair (.sl (.pair .str (.pair .str .unit))) .unit) a0 : Int) = (wt (.sl (.pair .str (.pair .str .unit))) a0.1 : Int) := by simp only [wt]; omega
  rw [hwt]
  have e0 : m_laws_szPairS a0.1 (a1) = some (if a1 - (wt (.sl (.pair .str (.pair .str .unit))) a0.1 : Int) < 0 then -1 else a1 - (wt (.sl (.pair .str (.pair .str .unit))) a0.1 : Int)) := szM_is (t := (.sl (.pair .str (.pair .str .unit)))) (x := a0.1) hc0 (by omega) (by omega)
  simp only [show m_laws_szPairS a0.1 (a1) = _ from e0, Option.bind_some]
  by_cases q0 : a1 - (wt (.sl (.pair .str (.pair .str .unit))) a0.1 : Int) < 0
  · simp only [if_pos q0, show decide ((-1 : Int) < 0) = true from rfl, cond_true]; try rw [if_pos (by omega)]
  · simp only [if_neg q0, decide_eq_false q0, cond_false]
    try rw [if_neg q0]
theorem en_laws_szState (a0 : (List (ByteArray × ByteArray × Unit)) × Unit) (a1 : Int) : evalF Try.prog ta_laws_szState pa_laws_szState sg_laws_szState Try.f15 noL (a0, a1, ()) = de_laws_szState a0 a1 := by kernel_rfl
theorem si_laws_szState : SigsOk Try.prog ta_laws_szState := SigsOk.of fun f sd h => by
  try dsimp only [Tb.of, ta_laws_szState] at h
  split at h
  · rename_i e; subst e; cases h; exact sn_laws_szPairS
  cases h
theorem sn_laws_szState : Callable Try.prog 15 ∧ Sound Try.prog 15 sd_laws_szState.sg sd_laws_szState.den :=
  fn_plain (pat := pa_laws_szState) (by kernel_rfl) si_laws_szState Try.func15 (by kernel_rfl) (by kernel_rfl) (by kernel_rfl) fun x r h => by
    obtain ⟨a0, a1, ⟨⟩⟩ := x; obtain ⟨y, h1, h2⟩ := Option.bind_eq_some_iff.1 (show (m_laws_szState a0 a1).bind (fun r => some ((r, ()), (()))) = some r from h); cases h2; exact (en_laws_szState a0 a1).trans (eq_laws_szState a0 a1 _ h1)
def m_laws_toPair (a : ByteArray × ByteArray × Unit) : Option (ByteArray × ByteArray × Unit) := toM (.pair .str (.pair .str .unit)) a
def sg_laws_toPair : Sig := ⟨[.rd (.pair .str (.pair .str .unit))], [some 2], [.rd (.pair .str (.pair .str .unit))], [some 2]⟩
noncomputable def sd_laws_toPair : SD := ⟨sg_laws_toPair, fun x => (m_laws_toPair x.1).bind fun r => some ((r, ()), (()))⟩
noncomputable def ta_laws_toPair : Tb := Tb.of fun f => none
def pa_laws_toPair : Nat → Pat × (Nat → Pat) := fun k => (⟨[], [], []⟩, fun _ => ⟨[], [], []⟩)
noncomputable def de_laws_toPair (a0 : ByteArray × ByteArray × Unit) : Option ((((ByteArray × ByteArray × Unit) × Unit) × (Unit))) :=
  some (((a0.fst, a0.snd.fst, ()), ()), ())
theorem eq_laws_toPair (a0 : ByteArray × ByteArray × Unit) r (h : m_laws_toPair a0 = some r) : de_laws_toPair a0 = some ((r, ()), (())) := by
  obtain ⟨hc, rfl⟩ := toM_some (t := (.pair .str (.pair .str .unit))) h
  · rfl
theorem en_laws_toPair (a0 : ByteArray × ByteArray × Unit) : evalF Try.prog ta_laws_toPair pa_laws_toPair sg_laws_toPair Try.f174 noL (a0, ()) = de_laws_toPair a0 := by kernel_rfl
theorem si_laws_toPair : SigsOk Try.prog ta_laws_toPair := SigsOk.of fun f sd h => by
  try dsimp only [Tb.of, ta_laws_toPair] at h
  cases h
theorem sn_laws_toPair : Callable Try.prog 174 ∧ Sound Try.prog 174 sd_laws_toPair.sg sd_laws_toPair.den :=
  fn_plain (pat := pa_laws_toPair) (by kernel_rfl) si_laws_toPair Try.func174 (by kernel_rfl) (by kernel_rfl) (by kernel_rfl) fun x r h => by
    obtain ⟨a0, ⟨⟩⟩ := x; obtain ⟨y, h1, h2⟩ := Option.bind_eq_some_iff.1 (show (m_laws_toPair a0).bind (fun r => some ((r, ()), (()))) = some r from h); cases h2; exact (en_laws_toPair a0).trans (eq_laws_toPair a0 _ h1)
def m_laws_toPairS (a : List (ByteArray × ByteArray × Unit)) : Option (List (ByteArray × ByteArray × Unit)) := toM (.sl (.pair .str (.pair .str .unit))) a
def sg_laws_toPairS : Sig := ⟨[.rd (.sl (.pair .str (.pair .str .unit)))], [none], [.own 133 (.pair .str (.pair .str .unit))], [none]⟩
noncomputable def sd_laws_toPairS : SD := ⟨sg_laws_toPairS, fun x => (m_laws_toPairS x.1).bind fun r => some ((r, ()), (()))⟩
noncomputable def ta_laws_toPairS : Tb := Tb.of fun f => if f = 174 then some sd_laws_toPair else none
def pa_laws_toPairS : Nat → Pat × (Nat → Pat) := fun k => if k = 4 then (⟨[.sl 0 0 (.pair .str (.pair .str .unit)), .row 3 0 133 (.pair .str (.pair .str .unit))], [(0, .lf (.d (.sl (.pair .str (.pair .str .unit))))), (3, .lf (.row 0)), (4, .lf (.d (.int .i64)))], [.row 133 (.pair .str (.pair .str .unit))]⟩, fun e => if e = 2 then ⟨[.row 3 0 133 (.pair .str (.pair .str .unit))], [(3, .lf (.row 0))], [.row 133 (.pair .str (.pair .str .unit))]⟩ else ⟨[], [], []⟩) else (⟨[], [], []⟩, fun _ => ⟨[], [], []⟩)
noncomputable def co_laws_toPairS_4 : Code := (loopsIn (bodyOf Try.f93)).getD 0 .skip
def fu_laws_toPairS_4 (v0 : List (ByteArray × ByteArray × Unit)) (v4 : Int) (r0 : List (ByteArray × ByteArray × Unit)) : Nat := ((v0.length : Int) - v4).toNat + 1
noncomputable def tr_laws_toPairS_4 {R : Type}  (NX : ((List (ByteArray × ByteArray × Unit)) × (Int) × (List (ByteArray × ByteArray × Unit)) × Unit) → Option R) (X2 : ((List (ByteArray × ByteArray × Unit)) × Unit) → Option R) (v0 : List (ByteArray × ByteArray × Unit)) (v4 : Int) (r0 : List (ByteArray × ByteArray × Unit)) : Option R :=
  bif decide (v4 < nI (List.length v0)) then
    bif decide (0 ≤ v4) then
      bif decide (v4 < nI (List.length v0)) then
        bif decide (0 ≤ v4) then
          bif decide (v4 < nI (List.length r0)) then
            bif decide (Int.toNat v4 < List.length r0) then
              NX
                (v0, IntKind.wrap IntKind.i64 (v4 + 1),
                  List.set r0 (Int.toNat v4)
                    ((List.getD v0 (Int.toNat v4) (ByteArray.mk #[], ByteArray.mk #[], ())).fst, (List.getD v0 (Int.toNat v4) (ByteArray.mk #[], ByteArray.mk #[], ())).snd.fst, ()),
                  ())
            else none
          else none
        else none
      else none
    else none
  else X2 (r0, ())
noncomputable def lo_laws_toPairS_4 : Nat → (List (ByteArray × ByteArray × Unit)) → (Int) → (List (ByteArray × ByteArray × Unit)) →  Option ((List (ByteArray × ByteArray × Unit)) × Unit)
  | 0, _, _, _ => none
  | m + 1, v0, v4, r0 => tr_laws_toPairS_4  (fun d => lo_laws_toPairS_4 m d.1 d.2.1 d.2.2.1) (fun d => some (d)) v0 v4 r0
theorem na_laws_toPairS_4 {R S : Type}  (NX : ((List (ByteArray × ByteArray × Unit)) × (Int) × (List (ByteArray × ByteArray × Unit)) × Unit) → Option R) (X2 : ((List (ByteArray × ByteArray × Unit)) × Unit) → Option R) (v0 : List (ByteArray × ByteArray × Unit)) (v4 : Int) (r0 : List (ByteArray × ByteArray × Unit)) (f : R → Option S) : tr_laws_toPairS_4  (fun d => (NX d).bind f) (fun d => (X2 d).bind f) v0 v4 r0 = (tr_laws_toPairS_4  NX X2 v0 v4 r0).bind f := by
  unfold tr_laws_toPairS_4
  simp only [cond_bind, ite_bind, onSum_bind, Option.bind_assoc, Option.bind_none, Option.bind_some]
noncomputable def de_laws_toPairS (a0 : List (ByteArray × ByteArray × Unit)) : Option ((((List (ByteArray × ByteArray × Unit)) × Unit) × (Unit))) :=
  bif decide (nI (List.length a0) = nI (List.length a0)) then
    bif decide (Int.toNat (nI (List.length a0)) * 32 ≤ 140737488355328) then
      Option.bind ((fun d => lo_laws_toPairS_4 (fu_laws_toPairS_4 d.1 d.2.1 d.2.2.1) d.1 d.2.1 d.2.2.1) (a0, 0, List.replicate (Int.toNat (nI (List.length a0))) (ByteArray.mk #[], ByteArray.mk #[], ()), ())) fun val => some ((val.fst, ()), ())
    else none
  else none
theorem eq_laws_toPairS (a0 : List (ByteArray × ByteArray × Unit)) r (h : m_laws_toPairS a0 = some r) : de_laws_toPairS a0 = some ((r, ()), (())) := by
  obtain ⟨hc, rfl⟩ := toM_some (t := .sl (.pair .str (.pair .str .unit))) h
  obtain ⟨hl0, hall⟩ := smallB_sl hc
  have hl : a0.length ≤ 1048576 := hl0
  clear hl0 hc h
  · unfold de_laws_toPairS
    have e : Int.toNat (nI a0.length) = a0.length := by simp [nI]
    have hL := to_loop (xs := a0) ((ByteArray.mk #[]), (ByteArray.mk #[]), ()) (g := fun m i r => lo_laws_toPairS_4 m a0 i r) (ok := fun r => (r, ())) (fun m i r hi hr => by
      show lo_laws_toPairS_4 (m + 1) a0 i r = _
      simp only [lo_laws_toPairS_4, tr_laws_toPairS_4]
      have hir : i < r.length := by omega
      rw [cLt hi, cLe0, cLt hir, wI (by omega)]
      simp only [cond_true, Int.toNat_natCast]
      rw [cLtN hir]
      rfl) (fun m r => by
      show lo_laws_toPairS_4 (m + 1) a0 a0.length r = _
      simp only [lo_laws_toPairS_4, tr_laws_toPairS_4]
      rw [cLtF]
      rfl) (fu_laws_toPairS_4 a0 0 (List.replicate a0.length ((ByteArray.mk #[]), (ByteArray.mk #[]), ()))) 0 (List.replicate a0.length ((ByteArray.mk #[]), (ByteArray.mk #[]), ())) (by omega) (by simp [fu_laws_toPairS_4]) (by simp)
    have c1 : decide (Int.toNat (nI a0.length) * 32 ≤ 140737488355328) = true := by rw [e]; simp; omega
    rw [c1, decide_eq_true rfl, e]
    have hL' : lo_laws_toPairS_4 (fu_laws_toPairS_4 a0 0 (List.replicate a0.length ((ByteArray.mk #[]), (ByteArray.mk #[]), ()))) a0 0 (List.replicate a0.length ((ByteArray.mk #[]), (ByteArray.mk #[]), ())) = _ := hL
    show (lo_laws_toPairS_4 (fu_laws_toPairS_4 a0 0 (List.replicate a0.length ((ByteArray.mk #[]), (ByteArray.mk #[]), ()))) a0 0 (List.replicate a0.length ((ByteArray.mk #[]), (ByteArray.mk #[]), ()))).bind _ = _
    rw [hL']
    rfl
noncomputable def ou_laws_toPairS_4 {R : Type} (k : Kt R) : ((List (ByteArray × ByteArray × Unit)) × Unit) → Option R := (fun d => k (.exit 0) (((pa_laws_toPairS 4).2 2).st d) (((pa_laws_toPairS 4).2 2).nid))
noncomputable def L_laws_toPairS {R : Type} : Lt R pa_laws_toPairS := (addL (pat := pa_laws_toPairS) 4 (fun d k => (lo_laws_toPairS_4 (fu_laws_toPairS_4 d.1 d.2.1 d.2.2.1) d.1 d.2.1 d.2.2.1).bind (ou_laws_toPairS_4 k)) noL)
theorem rd_laws_toPairS_4 {R : Type} (nx : (pa_laws_toPairS 4).1.D → Kt R → Option R) (k : Kt R) (v0 : List (ByteArray × ByteArray × Unit)) (v4 : Int) (r0 : List (ByteArray × ByteArray × Unit)) : ev Try.prog ⟨ta_laws_toPairS, 0, 23, pa_laws_toPairS⟩ L_laws_toPairS co_laws_toPairS_4 ((pa_laws_toPairS 4).1.st (v0, v4, r0, ())) (pa_laws_toPairS 4).1.nid (roundK 0 (pa_laws_toPairS 4) nx k) = tr_laws_toPairS_4  (fun d => nx d k) (fun d => k (.exit 0) (((pa_laws_toPairS 4).2 2).st d) (((pa_laws_toPairS 4).2 2).nid)) v0 v4 r0 := by kernel_rfl
theorem lp_laws_toPairS_4 {R : Type} : ∀ (m : Nat) (d : (pa_laws_toPairS 4).1.D) (k : Kt R), loopN 0 (pa_laws_toPairS 4) (fun s nid k => ev Try.prog ⟨ta_laws_toPairS, 0, 23, pa_laws_toPairS⟩ L_laws_toPairS co_laws_toPairS_4 s nid k) m d k = (lo_laws_toPairS_4 m d.1 d.2.1 d.2.2.1).bind (ou_laws_toPairS_4 k)
  | 0, _, _ => rfl
  | m + 1, ⟨v0, v4, r0, ⟨⟩⟩, k => (rd_laws_toPairS_4 _ k v0 v4 r0).trans ((congrArg (fun F => tr_laws_toPairS_4  F (fun d => k (.exit 0) (((pa_laws_toPairS 4).2 2).st d) (((pa_laws_toPairS 4).2 2).nid)) v0 v4 r0) (funext fun d => lp_laws_toPairS_4 m d k)).trans (na_laws_toPairS_4 (f := ou_laws_toPairS_4 k)  (fun d => lo_laws_toPairS_4 m d.1 d.2.1 d.2.2.1) (fun d => some (d)) v0 v4 r0))
theorem en_laws_toPairS (a0 : List (ByteArray × ByteArray × Unit)) : evalF Try.prog ta_laws_toPairS pa_laws_toPairS sg_laws_toPairS Try.f93 L_laws_toPairS (a0, ()) = de_laws_toPairS a0 := by kernel_rfl
theorem si_laws_toPairS : SigsOk Try.prog ta_laws_toPairS := SigsOk.of fun f sd h => by
  try dsimp only [Tb.of, ta_laws_toPairS] at h
  split at h
  · rename_i e; subst e; cases h; exact sn_laws_toPair
  cases h
theorem lk_laws_toPairS_4 {R : Type} : LoopOk Try.prog R 23 0 pa_laws_toPairS L_laws_toPairS co_laws_toPairS_4 :=
  loop_key (cfg := ⟨ta_laws_toPairS, 0, 23, pa_laws_toPairS⟩) (key := 4) (by kernel_rfl) (by kernel_rfl) si_laws_toPairS rfl rfl (fun d k r h => ⟨fu_laws_toPairS_4 d.1 d.2.1 d.2.2.1, (lp_laws_toPairS_4 _ d k).trans h⟩) (fun c hc => by rw [show loopsIn co_laws_toPairS_4 = [] from by kernel_rfl] at hc; cases hc)
theorem sn_laws_toPairS : Callable Try.prog 93 ∧ Sound Try.prog 93 sd_laws_toPairS.sg sd_laws_toPairS.den :=
  fn_loops (pat := pa_laws_toPairS) L_laws_toPairS (by kernel_rfl) si_laws_toPairS Try.func93 (by kernel_rfl) (by kernel_rfl) (fun c hc => by rw [show loopsIn (bodyOf Try.f93) = [co_laws_toPairS_4] from by kernel_rfl] at hc; simp only [List.mem_cons, List.not_mem_nil, or_false] at hc; rcases hc with rfl <;> first | exact lk_laws_toPairS_4) fun x r h => by
    obtain ⟨a0, ⟨⟩⟩ := x; obtain ⟨y, h1, h2⟩ := Option.bind_eq_some_iff.1 (show (m_laws_toPairS a0).bind (fun r => some ((r, ()), (()))) = some r from h); cases h2; exact (en_laws_toPairS a0).trans (eq_laws_toPairS a0 _ h1)
def m_laws_toState (a : (List (ByteArray × ByteArray × Unit)) × Unit) : Option ((List (ByteArray × ByteArray × Unit)) × Unit) := toM (.pair (.sl (.pair .str (.pair .str .unit))) .unit) a
def sg_laws_toState : Sig := ⟨[.rd (.pair (.sl (.pair .str (.pair .str .unit))) .unit)], [some 1], [.own 133 (.pair .str (.pair .str .unit))], [some 1]⟩
noncomputable def sd_laws_toState : SD := ⟨sg_laws_toState, fun x => (m_laws_toState x.1).bind fun r => some ((r.1, ()), (()))⟩
noncomputable def ta_laws_toState : Tb := Tb.of fun f => if f = 93 then some sd_laws_toPairS else none
def pa_laws_toState : Nat → Pat × (Nat → Pat) := fun k => (⟨[], [], []⟩, fun _ => ⟨[], [], []⟩)
noncomputable def de_laws_toState (a0 : (List (ByteArray × ByteArray × Unit)) × Unit) : Option ((((List (ByteArray × ByteArray × Unit)) × Unit) × (Unit))) :=
  Option.bind (Option.bind (m_laws_toPairS a0.fst) fun val => some ((val, ()), ())) fun val => some ((val.fst.fst, ()), ())
theorem eq_laws_toState (a0 : (List (ByteArray × ByteArray × Unit)) × Unit) r (h : m_laws_toState a0 = some r) : de_laws_toState a0 = some ((r.1, ()), (())) := by
  obtain ⟨hc, rfl⟩ := toM_some (t := (.pair (.sl (.pair .str (.pair .str .unit))) .unit)) h
  · obtain ⟨s0, _⟩ : smallB (.sl (.pair .str (.pair .str .unit))) a0.1 = true ∧ True := by
      have s := hc
      obtain ⟨h0, s⟩ := smallB_pair s
      exact ⟨h0, trivial⟩
    unfold de_laws_toState
    have e0 : m_laws_toPairS a0.1 = some a0.1 := toM_is (t := (.sl (.pair .str (.pair .str .unit)))) s0
    simp only [e0]
    rfl
theorem en_laws_toState (a0 : (List (ByteArray × ByteArray × Unit)) × Unit) : evalF Try.prog ta_laws_toState pa_laws_toState sg_laws_toState Try.f17 noL (a0, ()) = de_laws_toState a0 := by kernel_rfl
theorem si_laws_toState : SigsOk Try.prog ta_laws_toState := SigsOk.of fun f sd h => by
  try dsimp only [Tb.of, ta_laws_toState] at h
  split at h
  · rename_i e; subst e; cases h; exact sn_laws_toPairS
  cases h
theorem sn_laws_toState : Callable Try.prog 17 ∧ Sound Try.prog 17 sd_laws_toState.sg sd_laws_toState.den :=
  fn_plain (pat := pa_laws_toState) (by kernel_rfl) si_laws_toState Try.func17 (by kernel_rfl) (by kernel_rfl) (by kernel_rfl) fun x r h => by
    obtain ⟨a0, ⟨⟩⟩ := x; obtain ⟨y, h1, h2⟩ := Option.bind_eq_some_iff.1 (show (m_laws_toState a0).bind (fun r => some ((r.1, ()), (()))) = some r from h); cases h2; exact (en_laws_toState a0).trans (eq_laws_toState a0 _ h1)
def m_laws_eqPair (a b : ByteArray × ByteArray × Unit) : Option Bool := eqM (.pair .str (.pair .str .unit)) a b
def sg_laws_eqPair : Sig := ⟨[.rd (.pair .str (.pair .str .unit)), .rd (.pair .str (.pair .str .unit))], [some 2, some 2], [.rd .bool], [none]⟩
noncomputable def sd_laws_eqPair : SD := ⟨sg_laws_eqPair, fun x => (m_laws_eqPair x.1 x.2.1).bind fun r => some ((r, ()), (()))⟩
noncomputable def ta_laws_eqPair : Tb := Tb.of fun f => none
def pa_laws_eqPair : Nat → Pat × (Nat → Pat) := fun k => (⟨[], [], []⟩, fun _ => ⟨[], [], []⟩)
noncomputable def de_laws_eqPair (a0 : ByteArray × ByteArray × Unit) (a1 : ByteArray × ByteArray × Unit) : Option ((((Bool) × Unit) × (Unit))) :=
  bif !ByteArray.toList a0.fst == ByteArray.toList a1.fst then some ((false, ()), ())
  else bif !ByteArray.toList a0.snd.fst == ByteArray.toList a1.snd.fst then some ((false, ()), ()) else some ((true, ()), ())
theorem eq_laws_eqPair (a0 : ByteArray × ByteArray × Unit) (a1 : ByteArray × ByteArray × Unit) r (h : m_laws_eqPair a0 a1 = some r) : de_laws_eqPair a0 a1 = some ((r, ()), (())) := by
  obtain ⟨hc, hd, rfl⟩ := eqM_some (t := (.pair .str (.pair .str .unit))) h
  obtain ⟨hc0, hc1, _⟩ : fineB .str a0.1 = true ∧ fineB .str a0.2.1 = true ∧ True := by
    have s := hc
    obtain ⟨h0, s⟩ := fineB_pair s
    obtain ⟨h1, s⟩ := fineB_pair s
    exact ⟨h0, h1, trivial⟩
  obtain ⟨hd0, hd1, _⟩ : fineB .str a1.1 = true ∧ fineB .str a1.2.1 = true ∧ True := by
    have s := hd
    obtain ⟨h0, s⟩ := fineB_pair s
    obtain ⟨h1, s⟩ := fineB_pair s
    exact ⟨h0, h1, trivial⟩
  unfold de_laws_eqPair
  have e0 : (!(ByteArray.toList a0.1 == ByteArray.toList a1.1)) = !eqS a0.1 a1.1 := rfl
  have e1 : (!(ByteArray.toList a0.2.1 == ByteArray.toList a1.2.1)) = !eqS a0.2.1 a1.2.1 := rfl
  simp only [e0, e1, Option.bind_some]
  show _ = some (((eqS a0.1 a1.1 && (eqS a0.2.1 a1.2.1 && true)), ()), ())
  generalize eqS a0.1 a1.1 = p0
  generalize eqS a0.2.1 a1.2.1 = p1
  cases p0 <;> cases p1 <;> rfl
theorem en_laws_eqPair (a0 : ByteArray × ByteArray × Unit) (a1 : ByteArray × ByteArray × Unit) : evalF Try.prog ta_laws_eqPair pa_laws_eqPair sg_laws_eqPair Try.f176 noL (a0, a1, ()) = de_laws_eqPair a0 a1 := by kernel_rfl
theorem si_laws_eqPair : SigsOk Try.prog ta_laws_eqPair := SigsOk.of fun f sd h => by
  try dsimp only [Tb.of, ta_laws_eqPair] at h
  cases h
theorem sn_laws_eqPair : Callable Try.prog 176 ∧ Sound Try.prog 176 sd_laws_eqPair.sg sd_laws_eqPair.den :=
  fn_plain (pat := pa_laws_eqPair) (by kernel_rfl) si_laws_eqPair Try.func176 (by kernel_rfl) (by kernel_rfl) (by kernel_rfl) fun x r h => by
    obtain ⟨a0, a1, ⟨⟩⟩ := x; obtain ⟨y, h1, h2⟩ := Option.bind_eq_some_iff.1 (show (m_laws_eqPair a0 a1).bind (fun r => some ((r, ()), (()))) = some r from h); cases h2; exact (en_laws_eqPair a0 a1).trans (eq_laws_eqPair a0 a1 _ h1)
def m_laws_eqPairS (a b : List (ByteArray × ByteArray × Unit)) : Option Bool := eqM (.sl (.pair .str (.pair .str .unit))) a b
def sg_laws_eqPairS : Sig := ⟨[.rd (.sl (.pair .str (.pair .str .unit))), .rd (.sl (.pair .str (.pair .str .unit)))], [none, none], [.rd .bool], [none]⟩
noncomputable def sd_laws_eqPairS : SD := ⟨sg_laws_eqPairS, fun x => (m_laws_eqPairS x.1 x.2.1).bind fun r => some ((r, ()), (()))⟩
noncomputable def ta_laws_eqPairS : Tb := Tb.of fun f => if f = 176 then some sd_laws_eqPair else none
def pa_laws_eqPairS : Nat → Pat × (Nat → Pat) := fun k => if k = 5 then (⟨[.sl 0 0 (.pair .str (.pair .str .unit)), .sl 1 0 (.pair .str (.pair .str .unit))], [(0, .lf (.d (.sl (.pair .str (.pair .str .unit))))), (1, .lf (.d (.sl (.pair .str (.pair .str .unit))))), (5, .lf (.d (.int .i64)))], []⟩, fun e => if e = 1 then ⟨[], [(4, .lf (.d .bool))], []⟩ else if e = 2 then ⟨[], [], []⟩ else ⟨[], [], []⟩) else (⟨[], [], []⟩, fun _ => ⟨[], [], []⟩)
noncomputable def co_laws_eqPairS_5 : Code := (loopsIn (bodyOf Try.f95)).getD 0 .skip
def fu_laws_eqPairS_5 (v0 : List (ByteArray × ByteArray × Unit)) (v1 : List (ByteArray × ByteArray × Unit)) (v5 : Int) : Nat := ((v0.length : Int) - v5).toNat + 1
noncomputable def tr_laws_eqPairS_5 {R : Type}  (NX : ((List (ByteArray × ByteArray × Unit)) × (List (ByteArray × ByteArray × Unit)) × (Int) × Unit) → Option R) (X2 : (Unit) → Option R) (X1 : ((Bool) × Unit) → Option R) (v0 : List (ByteArray × ByteArray × Unit)) (v1 : List (ByteArray × ByteArray × Unit)) (v5 : Int) : Option R :=
  bif decide (v5 < nI (List.length v0)) then
    bif decide (0 ≤ v5) then
      bif decide (v5 < nI (List.length v0)) then
        bif decide (0 ≤ v5) then
          bif decide (v5 < nI (List.length v1)) then
            Option.bind
              (Option.bind
                (m_laws_eqPair ((List.getD v0 (Int.toNat v5) (ByteArray.mk #[], ByteArray.mk #[], ())).fst, (List.getD v0 (Int.toNat v5) (ByteArray.mk #[], ByteArray.mk #[], ())).snd.fst, ())
                  ((List.getD v1 (Int.toNat v5) (ByteArray.mk #[], ByteArray.mk #[], ())).fst, (List.getD v1 (Int.toNat v5) (ByteArray.mk #[], ByteArray.mk #[], ())).snd.fst, ()))
                fun val => some ((val, ()), ()))
              fun val => bif !val.fst.fst then X1 (false, ()) else NX (v0, v1, IntKind.wrap IntKind.i64 (v5 + 1), ())
          else none
        else none
      else none
    else none
  else X2 PUnit.unit
noncomputable def lo_laws_eqPairS_5 : Nat → (List (ByteArray × ByteArray × Unit)) → (List (ByteArray × ByteArray × Unit)) → (Int) →  Option ((Unit) ⊕ ((Bool) × Unit))
  | 0, _, _, _ => none
  | m + 1, v0, v1, v5 => tr_laws_eqPairS_5  (fun d => lo_laws_eqPairS_5 m d.1 d.2.1 d.2.2.1) (fun d => some (.inl (d))) (fun d => some (.inr (d))) v0 v1 v5
theorem na_laws_eqPairS_5 {R S : Type}  (NX : ((List (ByteArray × ByteArray × Unit)) × (List (ByteArray × ByteArray × Unit)) × (Int) × Unit) → Option R) (X2 : (Unit) → Option R) (X1 : ((Bool) × Unit) → Option R) (v0 : List (ByteArray × ByteArray × Unit)) (v1 : List (ByteArray × ByteArray × Unit)) (v5 : Int) (f : R → Option S) : tr_laws_eqPairS_5  (fun d => (NX d).bind f) (fun d => (X2 d).bind f) (fun d => (X1 d).bind f) v0 v1 v5 = (tr_laws_eqPairS_5  NX X2 X1 v0 v1 v5).bind f := by
  unfold tr_laws_eqPairS_5
  simp only [cond_bind, ite_bind, onSum_bind, Option.bind_assoc, Option.bind_none, Option.bind_some]
noncomputable def de_laws_eqPairS (a0 : List (ByteArray × ByteArray × Unit)) (a1 : List (ByteArray × ByteArray × Unit)) : Option ((((Bool) × Unit) × (Unit))) :=
  bif nI (List.length a0) != nI (List.length a1) then some ((false, ()), ())
  else Option.bind ((fun d => lo_laws_eqPairS_5 (fu_laws_eqPairS_5 d.1 d.2.1 d.2.2.1) d.1 d.2.1 d.2.2.1) (a0, a1, 0, ())) fun val => onSum (fun val => some ((true, ()), ())) (fun val => some ((val.fst, ()), ())) val
theorem eq_laws_eqPairS (a0 : List (ByteArray × ByteArray × Unit)) (a1 : List (ByteArray × ByteArray × Unit)) r (h : m_laws_eqPairS a0 a1 = some r) : de_laws_eqPairS a0 a1 = some ((r, ()), (())) := by
  obtain ⟨hc, hd, rfl⟩ := eqM_some (t := .sl (.pair .str (.pair .str .unit))) h
  obtain ⟨hlx0, hx⟩ := fineB_sl hc
  obtain ⟨hly0, hy⟩ := fineB_sl hd
  have hlx : a0.length < 1152921504606846976 := hlx0
  have hly : a1.length < 1152921504606846976 := hly0
  clear hlx0 hly0 hc hd h
  · unfold de_laws_eqPairS
    by_cases hl : a1.length = a0.length
    · have c1 : (nI a0.length != nI a1.length) = false := by simp [nI, hl]
      have hL := eq_loop (xs := a0) (ys := a1) ((ByteArray.mk #[]), (ByteArray.mk #[]), ()) (fun x y : ByteArray × ByteArray × Unit => eqB (.pair .str (.pair .str .unit)) x y) (g := fun m i => lo_laws_eqPairS_5 m a0 a1 i) (ok := .inl ()) (bad := .inr (false, ())) hl (fun m i hi => by
        show lo_laws_eqPairS_5 (m + 1) a0 a1 i = _
        simp only [lo_laws_eqPairS_5, tr_laws_eqPairS_5]
        rw [cLt hi, cLe0, cLt (show i < a1.length by omega), wI (by omega)]
        simp only [cond_true, Int.toNat_natCast]
        have f1 : fineB (.pair .str (.pair .str .unit)) (List.getD (α := ByteArray × ByteArray × Unit) a0 i ((ByteArray.mk #[]), (ByteArray.mk #[]), ())) = true := hx _ (getD_mem ((ByteArray.mk #[]), (ByteArray.mk #[]), ()) hi)
        have f2 : fineB (.pair .str (.pair .str .unit)) (List.getD (α := ByteArray × ByteArray × Unit) a1 i ((ByteArray.mk #[]), (ByteArray.mk #[]), ())) = true := hy _ (getD_mem ((ByteArray.mk #[]), (ByteArray.mk #[]), ()) (by omega))
        have hE : m_laws_eqPair ((List.getD (α := ByteArray × ByteArray × Unit) a0 i ((ByteArray.mk #[]), (ByteArray.mk #[]), ())).fst, (List.getD (α := ByteArray × ByteArray × Unit) a0 i ((ByteArray.mk #[]), (ByteArray.mk #[]), ())).snd.fst, ()) ((List.getD (α := ByteArray × ByteArray × Unit) a1 i ((ByteArray.mk #[]), (ByteArray.mk #[]), ())).fst, (List.getD (α := ByteArray × ByteArray × Unit) a1 i ((ByteArray.mk #[]), (ByteArray.mk #[]), ())).snd.fst, ()) = some (eqB (.pair .str (.pair .str .unit)) (List.getD (α := ByteArray × ByteArray × Unit) a0 i ((ByteArray.mk #[]), (ByteArray.mk #[]), ())) (List.getD (α := ByteArray × ByteArray × Unit) a1 i ((ByteArray.mk #[]), (ByteArray.mk #[]), ()))) := by
          exact eqM_is (t := (.pair .str (.pair .str .unit))) (x := (List.getD (α := ByteArray × ByteArray × Unit) a0 i ((ByteArray.mk #[]), (ByteArray.mk #[]), ()))) (y := (List.getD (α := ByteArray × ByteArray × Unit) a1 i ((ByteArray.mk #[]), (ByteArray.mk #[]), ()))) f1 f2
        rw [hE]
        cases q : eqB (.pair .str (.pair .str .unit)) (List.getD (α := ByteArray × ByteArray × Unit) a0 i ((ByteArray.mk #[]), (ByteArray.mk #[]), ())) (List.getD (α := ByteArray × ByteArray × Unit) a1 i ((ByteArray.mk #[]), (ByteArray.mk #[]), ())) <;> simp only [Option.bind_some, q] <;> rfl) (fun m => by
        show lo_laws_eqPairS_5 (m + 1) a0 a1 a0.length = _
        simp only [lo_laws_eqPairS_5, tr_laws_eqPairS_5]
        rw [cLtF]
        rfl) (fu_laws_eqPairS_5 a0 a1 0) 0 (by omega) (by simp [fu_laws_eqPairS_5])
      rw [c1]
      have hL' : lo_laws_eqPairS_5 (fu_laws_eqPairS_5 a0 a1 0) a0 a1 0 = _ := hL
      show (lo_laws_eqPairS_5 (fu_laws_eqPairS_5 a0 a1 0) a0 a1 0).bind _ = some ((eqL (α := ByteArray × ByteArray × Unit) (fun x y : ByteArray × ByteArray × Unit => eqB (.pair .str (.pair .str .unit)) x y) a0 a1, ()), ())
      rw [hL', List.drop_zero, List.drop_zero]
      cases eqL (α := ByteArray × ByteArray × Unit) (fun x y : ByteArray × ByteArray × Unit => eqB (.pair .str (.pair .str .unit)) x y) a0 a1 <;> rfl
    · have c1 : (nI a0.length != nI a1.length) = true := by simp [nI]; omega
      rw [c1]
      show _ = some ((eqL (α := ByteArray × ByteArray × Unit) (fun x y : ByteArray × ByteArray × Unit => eqB (.pair .str (.pair .str .unit)) x y) a0 a1, ()), ())
      rw [eqL_len (fun q => hl q.symm)]
      rfl
noncomputable def ou_laws_eqPairS_5 {R : Type} (k : Kt R) : ((Unit) ⊕ ((Bool) × Unit)) → Option R := (onSum (fun d => k (.exit 0) (((pa_laws_eqPairS 5).2 2).st d) (((pa_laws_eqPairS 5).2 2).nid)) (fun d => k .ret (((pa_laws_eqPairS 5).2 1).st d) (((pa_laws_eqPairS 5).2 1).nid)))
noncomputable def L_laws_eqPairS {R : Type} : Lt R pa_laws_eqPairS := (addL (pat := pa_laws_eqPairS) 5 (fun d k => (lo_laws_eqPairS_5 (fu_laws_eqPairS_5 d.1 d.2.1 d.2.2.1) d.1 d.2.1 d.2.2.1).bind (ou_laws_eqPairS_5 k)) noL)
theorem rd_laws_eqPairS_5 {R : Type} (nx : (pa_laws_eqPairS 5).1.D → Kt R → Option R) (k : Kt R) (v0 : List (ByteArray × ByteArray × Unit)) (v1 : List (ByteArray × ByteArray × Unit)) (v5 : Int) : ev Try.prog ⟨ta_laws_eqPairS, 0, 27, pa_laws_eqPairS⟩ L_laws_eqPairS co_laws_eqPairS_5 ((pa_laws_eqPairS 5).1.st (v0, v1, v5, ())) (pa_laws_eqPairS 5).1.nid (roundK 0 (pa_laws_eqPairS 5) nx k) = tr_laws_eqPairS_5  (fun d => nx d k) (fun d => k (.exit 0) (((pa_laws_eqPairS 5).2 2).st d) (((pa_laws_eqPairS 5).2 2).nid)) (fun d => k .ret (((pa_laws_eqPairS 5).2 1).st d) (((pa_laws_eqPairS 5).2 1).nid)) v0 v1 v5 := by kernel_rfl
theorem lp_laws_eqPairS_5 {R : Type} : ∀ (m : Nat) (d : (pa_laws_eqPairS 5).1.D) (k : Kt R), loopN 0 (pa_laws_eqPairS 5) (fun s nid k => ev Try.prog ⟨ta_laws_eqPairS, 0, 27, pa_laws_eqPairS⟩ L_laws_eqPairS co_laws_eqPairS_5 s nid k) m d k = (lo_laws_eqPairS_5 m d.1 d.2.1 d.2.2.1).bind (ou_laws_eqPairS_5 k)
  | 0, _, _ => rfl
  | m + 1, ⟨v0, v1, v5, ⟨⟩⟩, k => (rd_laws_eqPairS_5 _ k v0 v1 v5).trans ((congrArg (fun F => tr_laws_eqPairS_5  F (fun d => k (.exit 0) (((pa_laws_eqPairS 5).2 2).st d) (((pa_laws_eqPairS 5).2 2).nid)) (fun d => k .ret (((pa_laws_eqPairS 5).2 1).st d) (((pa_laws_eqPairS 5).2 1).nid)) v0 v1 v5) (funext fun d => lp_laws_eqPairS_5 m d k)).trans (na_laws_eqPairS_5 (f := ou_laws_eqPairS_5 k)  (fun d => lo_laws_eqPairS_5 m d.1 d.2.1 d.2.2.1) (fun d => some (.inl (d))) (fun d => some (.inr (d))) v0 v1 v5))
theorem en_laws_eqPairS (a0 : List (ByteArray × ByteArray × Unit)) (a1 : List (ByteArray × ByteArray × Unit)) : evalF Try.prog ta_laws_eqPairS pa_laws_eqPairS sg_laws_eqPairS Try.f95 L_laws_eqPairS (a0, a1, ()) = de_laws_eqPairS a0 a1 := by kernel_rfl
theorem si_laws_eqPairS : SigsOk Try.prog ta_laws_eqPairS := SigsOk.of fun f sd h => by
  try dsimp only [Tb.of, ta_laws_eqPairS] at h
  split at h
  · rename_i e; subst e; cases h; exact sn_laws_eqPair
  cases h
theorem lk_laws_eqPairS_5 {R : Type} : LoopOk Try.prog R 27 0 pa_laws_eqPairS L_laws_eqPairS co_laws_eqPairS_5 :=
  loop_key (cfg := ⟨ta_laws_eqPairS, 0, 27, pa_laws_eqPairS⟩) (key := 5) (by kernel_rfl) (by kernel_rfl) si_laws_eqPairS rfl rfl (fun d k r h => ⟨fu_laws_eqPairS_5 d.1 d.2.1 d.2.2.1, (lp_laws_eqPairS_5 _ d k).trans h⟩) (fun c hc => by rw [show loopsIn co_laws_eqPairS_5 = [] from by kernel_rfl] at hc; cases hc)
theorem sn_laws_eqPairS : Callable Try.prog 95 ∧ Sound Try.prog 95 sd_laws_eqPairS.sg sd_laws_eqPairS.den :=
  fn_loops (pat := pa_laws_eqPairS) L_laws_eqPairS (by kernel_rfl) si_laws_eqPairS Try.func95 (by kernel_rfl) (by kernel_rfl) (fun c hc => by rw [show loopsIn (bodyOf Try.f95) = [co_laws_eqPairS_5] from by kernel_rfl] at hc; simp only [List.mem_cons, List.not_mem_nil, or_false] at hc; rcases hc with rfl <;> first | exact lk_laws_eqPairS_5) fun x r h => by
    obtain ⟨a0, a1, ⟨⟩⟩ := x; obtain ⟨y, h1, h2⟩ := Option.bind_eq_some_iff.1 (show (m_laws_eqPairS a0 a1).bind (fun r => some ((r, ()), (()))) = some r from h); cases h2; exact (en_laws_eqPairS a0 a1).trans (eq_laws_eqPairS a0 a1 _ h1)
def m_laws_eqState (a b : (List (ByteArray × ByteArray × Unit)) × Unit) : Option Bool := eqM (.pair (.sl (.pair .str (.pair .str .unit))) .unit) a b
def sg_laws_eqState : Sig := ⟨[.rd (.pair (.sl (.pair .str (.pair .str .unit))) .unit), .rd (.pair (.sl (.pair .str (.pair .str .unit))) .unit)], [some 1, some 1], [.rd .bool], [none]⟩
noncomputable def sd_laws_eqState : SD := ⟨sg_laws_eqState, fun x => (m_laws_eqState x.1 x.2.1).bind fun r => some ((r, ()), (()))⟩
noncomputable def ta_laws_eqState : Tb := Tb.of fun f => if f = 95 then some sd_laws_eqPairS else none
def pa_laws_eqState : Nat → Pat × (Nat → Pat) := fun k => (⟨[], [], []⟩, fun _ => ⟨[], [], []⟩)
noncomputable def de_laws_eqState (a0 : (List (ByteArray × ByteArray × Unit)) × Unit) (a1 : (List (ByteArray × ByteArray × Unit)) × Unit) : Option ((((Bool) × Unit) × (Unit))) :=
  Option.bind (Option.bind (m_laws_eqPairS a0.fst a1.fst) fun val => some ((val, ()), ())) fun val => bif !val.fst.fst then some ((false, ()), ()) else some ((true, ()), ())
theorem eq_laws_eqState (a0 : (List (ByteArray × ByteArray × Unit)) × Unit) (a1 : (List (ByteArray × ByteArray × Unit)) × Unit) r (h : m_laws_eqState a0 a1 = some r) : de_laws_eqState a0 a1 = some ((r, ()), (())) := by
  obtain ⟨hc, hd, rfl⟩ := eqM_some (t := (.pair (.sl (.pair .str (.pair .str .unit))) .unit)) h
  obtain ⟨hc0, _⟩ : fineB (.sl (.pair .str (.pair .str .unit))) a0.1 = true ∧ True := by
    have s := hc
    obtain ⟨h0, s⟩ := fineB_pair s
    exact ⟨h0, trivial⟩
  obtain ⟨hd0, _⟩ : fineB (.sl (.pair .str (.pair .str .unit))) a1.1 = true ∧ True := by
    have s := hd
    obtain ⟨h0, s⟩ := fineB_pair s
    exact ⟨h0, trivial⟩
  unfold de_laws_eqState
  have e0 : m_laws_eqPairS a0.1 a1.1 = some (eqB (.sl (.pair .str (.pair .str .unit))) a0.1 a1.1) := eqM_is (t := (.sl (.pair .str (.pair .str .unit)))) hc0 hd0
  simp only [e0, Option.bind_some]
  show _ = some (((eqB (.sl (.pair .str (.pair .str .unit))) a0.1 a1.1 && true), ()), ())
  generalize eqB (.sl (.pair .str (.pair .str .unit))) a0.1 a1.1 = p0
  cases p0 <;> rfl
theorem en_laws_eqState (a0 : (List (ByteArray × ByteArray × Unit)) × Unit) (a1 : (List (ByteArray × ByteArray × Unit)) × Unit) : evalF Try.prog ta_laws_eqState pa_laws_eqState sg_laws_eqState Try.f20 noL (a0, a1, ()) = de_laws_eqState a0 a1 := by kernel_rfl
theorem si_laws_eqState : SigsOk Try.prog ta_laws_eqState := SigsOk.of fun f sd h => by
  try dsimp only [Tb.of, ta_laws_eqState] at h
  split at h
  · rename_i e; subst e; cases h; exact sn_laws_eqPairS
  cases h
theorem sn_laws_eqState : Callable Try.prog 20 ∧ Sound Try.prog 20 sd_laws_eqState.sg sd_laws_eqState.den :=
  fn_plain (pat := pa_laws_eqState) (by kernel_rfl) si_laws_eqState Try.func20 (by kernel_rfl) (by kernel_rfl) (by kernel_rfl) fun x r h => by
    obtain ⟨a0, a1, ⟨⟩⟩ := x; obtain ⟨y, h1, h2⟩ := Option.bind_eq_some_iff.1 (show (m_laws_eqState a0 a1).bind (fun r => some ((r, ()), (()))) = some r from h); cases h2; exact (en_laws_eqState a0 a1).trans (eq_laws_eqState a0 a1 _ h1)
def m_laws_markText (k : Int) : Option ByteArray := if k ≤ 36028797018963968 then some (mkT k) else none
def fu_laws_markText_5 (v0 : Int) (v3 : ByteArray) : Nat := 21
def sg_laws_markText : Sig := ⟨[.rd (.int .i64)], [none], [.rd .str], [none]⟩
noncomputable def sd_laws_markText : SD := ⟨sg_laws_markText, fun x => (m_laws_markText x.1).bind fun r => some ((r, ()), (()))⟩
noncomputable def ta_laws_markText : Tb := Tb.of fun f => none
def pa_laws_markText : Nat → Pat × (Nat → Pat) := fun k => if k = 5 then (⟨[], [(0, .lf (.d (.int .i64))), (3, .lf (.d .str))], []⟩, fun e => if e = 2 then ⟨[], [(3, .lf (.d .str))], []⟩ else ⟨[], [], []⟩) else (⟨[], [], []⟩, fun _ => ⟨[], [], []⟩)
noncomputable def co_laws_markText_5 : Code := (loopsIn (bodyOf Try.f116)).getD 0 .skip
noncomputable def tr_laws_markText_5 {R : Type}  (NX : ((Int) × (ByteArray) × Unit) → Option R) (X2 : ((ByteArray) × Unit) → Option R) (v0 : Int) (v3 : ByteArray) : Option R :=
  bif decide (v0 > 0) then
    bif decide (ByteArray.size (strOfNums [IntKind.wrap IntKind.u8 (IntKind.wrap IntKind.i64 (48 + Int.tmod v0 10))]) + ByteArray.size v3 ≤ 9223372036854775807) then
      NX (IntKind.wrap IntKind.i64 (Int.tdiv v0 10), strOfNums [IntKind.wrap IntKind.u8 (IntKind.wrap IntKind.i64 (48 + Int.tmod v0 10))] ++ v3, ())
    else none
  else X2 (v3, ())
noncomputable def lo_laws_markText_5 : Nat → (Int) → (ByteArray) →  Option ((ByteArray) × Unit)
  | 0, _, _ => none
  | m + 1, v0, v3 => tr_laws_markText_5  (fun d => lo_laws_markText_5 m d.1 d.2.1) (fun d => some (d)) v0 v3
theorem na_laws_markText_5 {R S : Type}  (NX : ((Int) × (ByteArray) × Unit) → Option R) (X2 : ((ByteArray) × Unit) → Option R) (v0 : Int) (v3 : ByteArray) (f : R → Option S) : tr_laws_markText_5  (fun d => (NX d).bind f) (fun d => (X2 d).bind f) v0 v3 = (tr_laws_markText_5  NX X2 v0 v3).bind f := by
  unfold tr_laws_markText_5
  simp only [cond_bind, ite_bind, onSum_bind, Option.bind_assoc, Option.bind_none, Option.bind_some]
noncomputable def de_laws_markText (a0 : Int) : Option ((((ByteArray) × Unit) × (Unit))) :=
  bif decide (a0 ≤ 0) then some ((ByteArray.mk #[109, 48], ()), ())
  else
    Option.bind ((fun d => lo_laws_markText_5 (fu_laws_markText_5 d.1 d.2.1) d.1 d.2.1) (a0, ByteArray.mk #[], ())) fun val =>
      bif decide (ByteArray.size (ByteArray.mk #[109]) + ByteArray.size val.fst ≤ 9223372036854775807) then some ((ByteArray.mk #[109] ++ val.fst, ()), ()) else none
theorem digit_byte {k : Int} (h : 0 ≤ k) : IntKind.wrap .u8 (IntKind.wrap .i64 (48 + Int.tmod k 10)) = 48 + k % 10 := by
  rw [Int.tmod_eq_emod_of_nonneg h]
  have h1 : 0 ≤ k % 10 := Int.emod_nonneg _ (by omega)
  have h2 : k % 10 < 10 := Int.emod_lt_of_pos _ (by omega)
  have e1 : IntKind.wrap .i64 (48 + k % 10) = 48 + k % 10 := wrap_ok (by omega) (by omega)
  rw [e1]
  simp [IntKind.wrap, IntKind.bits, IntKind.signed]
  omega
theorem lo_laws_markText : ∀ (m : Nat) (k : Int) (out : ByteArray), 0 ≤ k → k ≤ 36028797018963968 → k < 10 ^ m → out.size + m ≤ 100 → lo_laws_markText_5 (m + 1) k out = some (digsGo m k out, ())
  | 0, k, out, h0, hb, h1, _ => by
    simp only [lo_laws_markText_5, tr_laws_markText_5]
    have : ¬ k > 0 := by simp at h1; omega
    rw [decide_eq_false this]
    rfl
  | m + 1, k, out, h0, hb, h1, h2 => by
    rw [lo_laws_markText_5]
    simp only [tr_laws_markText_5, digsGo]
    by_cases h : k > 0
    · have e : IntKind.wrap .i64 (Int.tdiv k 10) = k / 10 := by
        rw [Int.tdiv_eq_ediv_of_nonneg h0]
        exact wrap_ok (by omega) (by omega)
      have hs : ByteArray.size (strOfNums [48 + k % 10]) = 1 := strOfNums_size _
      have h3 : k / 10 < 10 ^ m := Int.ediv_lt_of_lt_mul (by omega) (by rw [Int.pow_succ] at h1; exact h1)
      have c : ByteArray.size (strOfNums [48 + k % 10]) + ByteArray.size out ≤ 9223372036854775807 := by rw [hs]; omega
      have ih := lo_laws_markText m (k / 10) (strOfNums [48 + k % 10] ++ out) (by omega) (by omega) h3 (by rw [ByteArray.size_append, hs]; omega)
      rw [digit_byte h0, decide_eq_true h, if_pos h, e, decide_eq_true c]
      exact ih
    · rw [decide_eq_false h, if_neg h]
      rfl
theorem digsGo_size : ∀ (m : Nat) (k : Int) (out : ByteArray), (digsGo m k out).size ≤ out.size + m
  | 0, k, out => Nat.le_refl _
  | m + 1, k, out => by
    simp only [digsGo]
    split
    · have := digsGo_size m (k / 10) (strOfNums [48 + k % 10] ++ out)
      rw [ByteArray.size_append, strOfNums_size] at this
      simp at this
      omega
    · omega
theorem eq_laws_markText (a0 : Int) r (h : m_laws_markText a0 = some r) : de_laws_markText a0 = some ((r, ()), (())) := by
  unfold m_laws_markText at h
  split at h
  · rename_i hc
    cases h
    unfold de_laws_markText mkT
    by_cases q : a0 ≤ 0
    · rw [decide_eq_true q, if_pos q]; rfl
    · rw [decide_eq_false q, if_neg q]
      have hL := lo_laws_markText 20 a0 ⟨#[]⟩ (by omega) hc (by omega) (by decide)
      have hL' : lo_laws_markText_5 (fu_laws_markText_5 a0 ⟨#[]⟩) a0 ⟨#[]⟩ = _ := hL
      show (lo_laws_markText_5 (fu_laws_markText_5 a0 ⟨#[]⟩) a0 ⟨#[]⟩).bind _ = _
      rw [hL']
      have := digsGo_size 20 a0 ⟨#[]⟩
      have h0 : ByteArray.size ⟨#[]⟩ = 0 := rfl
      have h1 : ByteArray.size ⟨#[109]⟩ = 1 := rfl
      have c : ByteArray.size ⟨#[109]⟩ + ByteArray.size (digsGo 20 a0 ⟨#[]⟩) ≤ 9223372036854775807 := by omega
      show (bif decide (ByteArray.size ⟨#[109]⟩ + ByteArray.size (digsGo 20 a0 ⟨#[]⟩) ≤ 9223372036854775807) then _ else _) = _
      rw [decide_eq_true c]
      rfl
  · cases h
noncomputable def ou_laws_markText_5 {R : Type} (k : Kt R) : ((ByteArray) × Unit) → Option R := (fun d => k (.exit 0) (((pa_laws_markText 5).2 2).st d) (((pa_laws_markText 5).2 2).nid))
noncomputable def L_laws_markText {R : Type} : Lt R pa_laws_markText := (addL (pat := pa_laws_markText) 5 (fun d k => (lo_laws_markText_5 (fu_laws_markText_5 d.1 d.2.1) d.1 d.2.1).bind (ou_laws_markText_5 k)) noL)
theorem rd_laws_markText_5 {R : Type} (nx : (pa_laws_markText 5).1.D → Kt R → Option R) (k : Kt R) (v0 : Int) (v3 : ByteArray) : ev Try.prog ⟨ta_laws_markText, 0, 20, pa_laws_markText⟩ L_laws_markText co_laws_markText_5 ((pa_laws_markText 5).1.st (v0, v3, ())) (pa_laws_markText 5).1.nid (roundK 0 (pa_laws_markText 5) nx k) = tr_laws_markText_5  (fun d => nx d k) (fun d => k (.exit 0) (((pa_laws_markText 5).2 2).st d) (((pa_laws_markText 5).2 2).nid)) v0 v3 := by kernel_rfl
theorem lp_laws_markText_5 {R : Type} : ∀ (m : Nat) (d : (pa_laws_markText 5).1.D) (k : Kt R), loopN 0 (pa_laws_markText 5) (fun s nid k => ev Try.prog ⟨ta_laws_markText, 0, 20, pa_laws_markText⟩ L_laws_markText co_laws_markText_5 s nid k) m d k = (lo_laws_markText_5 m d.1 d.2.1).bind (ou_laws_markText_5 k)
  | 0, _, _ => rfl
  | m + 1, ⟨v0, v3, ⟨⟩⟩, k => (rd_laws_markText_5 _ k v0 v3).trans ((congrArg (fun F => tr_laws_markText_5  F (fun d => k (.exit 0) (((pa_laws_markText 5).2 2).st d) (((pa_laws_markText 5).2 2).nid)) v0 v3) (funext fun d => lp_laws_markText_5 m d k)).trans (na_laws_markText_5 (f := ou_laws_markText_5 k)  (fun d => lo_laws_markText_5 m d.1 d.2.1) (fun d => some (d)) v0 v3))
theorem en_laws_markText (a0 : Int) : evalF Try.prog ta_laws_markText pa_laws_markText sg_laws_markText Try.f116 L_laws_markText (a0, ()) = de_laws_markText a0 := by kernel_rfl
theorem si_laws_markText : SigsOk Try.prog ta_laws_markText := SigsOk.of fun f sd h => by
  try dsimp only [Tb.of, ta_laws_markText] at h
  cases h
theorem lk_laws_markText_5 {R : Type} : LoopOk Try.prog R 20 0 pa_laws_markText L_laws_markText co_laws_markText_5 :=
  loop_key (cfg := ⟨ta_laws_markText, 0, 20, pa_laws_markText⟩) (key := 5) (by kernel_rfl) (by kernel_rfl) si_laws_markText rfl rfl (fun d k r h => ⟨fu_laws_markText_5 d.1 d.2.1, (lp_laws_markText_5 _ d k).trans h⟩) (fun c hc => by rw [show loopsIn co_laws_markText_5 = [] from by kernel_rfl] at hc; cases hc)
theorem sn_laws_markText : Callable Try.prog 116 ∧ Sound Try.prog 116 sd_laws_markText.sg sd_laws_markText.den :=
  fn_loops (pat := pa_laws_markText) L_laws_markText (by kernel_rfl) si_laws_markText Try.func116 (by kernel_rfl) (by kernel_rfl) (fun c hc => by rw [show loopsIn (bodyOf Try.f116) = [co_laws_markText_5] from by kernel_rfl] at hc; simp only [List.mem_cons, List.not_mem_nil, or_false] at hc; rcases hc with rfl <;> first | exact lk_laws_markText_5) fun x r h => by
    obtain ⟨a0, ⟨⟩⟩ := x; obtain ⟨y, h1, h2⟩ := Option.bind_eq_some_iff.1 (show (m_laws_markText a0).bind (fun r => some ((r, ()), (()))) = some r from h); cases h2; exact (en_laws_markText a0).trans (eq_laws_markText a0 _ h1)
def m_laws_markPairS (a : List (ByteArray × ByteArray × Unit)) (k : Int) : Option (Int × (List (ByteArray × ByteArray × Unit))) := markM (.pair .str (.pair .str .unit)) a k
def sg_laws_markPairS : Sig := ⟨[.mu 133 (.pair .str (.pair .str .unit)), .rd (.int .i64)], [none, none], [.rd (.int .i64)], [none]⟩
noncomputable def sd_laws_markPairS : SD := ⟨sg_laws_markPairS, fun x => (m_laws_markPairS x.1 x.2.1).bind fun r => some ((r.1, ()), (r.2, ()))⟩
noncomputable def ta_laws_markPairS : Tb := Tb.of fun f => if f = 116 then some sd_laws_markText else none
def pa_laws_markPairS : Nat → Pat × (Nat → Pat) := fun k => if k = 3 then (⟨[], [(0, .lf (.row 0)), (1, .lf (.d (.int .i64))), (5, .lf (.d (.int .i64)))], [.row 133 (.pair .str (.pair .str .unit))]⟩, fun e => if e = 2 then ⟨[], [(1, .lf (.d (.int .i64)))], [.row 133 (.pair .str (.pair .str .unit))]⟩ else ⟨[], [], []⟩) else (⟨[], [], []⟩, fun _ => ⟨[], [], []⟩)
noncomputable def co_laws_markPairS_3 : Code := (loopsIn (bodyOf Try.f96)).getD 0 .skip
def fu_laws_markPairS_3 (v1 : Int) (v5 : Int) (r0 : List (ByteArray × ByteArray × Unit)) : Nat := ((r0.length : Int) - v5).toNat + 1
noncomputable def tr_laws_markPairS_3 {R : Type}  (NX : ((Int) × (Int) × (List (ByteArray × ByteArray × Unit)) × Unit) → Option R) (X2 : ((Int) × (List (ByteArray × ByteArray × Unit)) × Unit) → Option R) (v1 : Int) (v5 : Int) (r0 : List (ByteArray × ByteArray × Unit)) : Option R :=
  bif decide (v5 < nI (List.length r0)) then
    Option.bind (Option.bind (m_laws_markText v1) fun val => some ((val, ()), ())) fun val =>
      bif decide (0 ≤ v5) then
        bif decide (v5 < nI (List.length r0)) then
          bif decide (Int.toNat v5 < List.length r0) then
            Option.bind (Option.bind (m_laws_markText (IntKind.wrap IntKind.i64 (v1 + 1))) fun val => some ((val, ()), ())) fun val_1 =>
              bif decide (0 ≤ v5) then
                bif decide (v5 < nI (List.length (List.set r0 (Int.toNat v5) (val.fst.fst, (List.getD r0 (Int.toNat v5) (ByteArray.mk #[], ByteArray.mk #[], ())).snd.fst, ())))) then
                  bif decide (Int.toNat v5 < List.length (List.set r0 (Int.toNat v5) (val.fst.fst, (List.getD r0 (Int.toNat v5) (ByteArray.mk #[], ByteArray.mk #[], ())).snd.fst, ()))) then
                    NX
                      (IntKind.wrap IntKind.i64 (IntKind.wrap IntKind.i64 (v1 + 1) + 1), IntKind.wrap IntKind.i64 (v5 + 1),
                        List.set (List.set r0 (Int.toNat v5) (val.fst.fst, (List.getD r0 (Int.toNat v5) (ByteArray.mk #[], ByteArray.mk #[], ())).snd.fst, ())) (Int.toNat v5)
                          ((List.getD (List.set r0 (Int.toNat v5) (val.fst.fst, (List.getD r0 (Int.toNat v5) (ByteArray.mk #[], ByteArray.mk #[], ())).snd.fst, ())) (Int.toNat v5)
                                (ByteArray.mk #[], ByteArray.mk #[], ())).fst,
                            val_1.fst.fst, ()),
                        ())
                  else none
                else none
              else none
          else none
        else none
      else none
  else X2 (v1, r0, ())
noncomputable def lo_laws_markPairS_3 : Nat → (Int) → (Int) → (List (ByteArray × ByteArray × Unit)) →  Option ((Int) × (List (ByteArray × ByteArray × Unit)) × Unit)
  | 0, _, _, _ => none
  | m + 1, v1, v5, r0 => tr_laws_markPairS_3  (fun d => lo_laws_markPairS_3 m d.1 d.2.1 d.2.2.1) (fun d => some (d)) v1 v5 r0
theorem na_laws_markPairS_3 {R S : Type}  (NX : ((Int) × (Int) × (List (ByteArray × ByteArray × Unit)) × Unit) → Option R) (X2 : ((Int) × (List (ByteArray × ByteArray × Unit)) × Unit) → Option R) (v1 : Int) (v5 : Int) (r0 : List (ByteArray × ByteArray × Unit)) (f : R → Option S) : tr_laws_markPairS_3  (fun d => (NX d).bind f) (fun d => (X2 d).bind f) v1 v5 r0 = (tr_laws_markPairS_3  NX X2 v1 v5 r0).bind f := by
  unfold tr_laws_markPairS_3
  simp only [cond_bind, ite_bind, onSum_bind, Option.bind_assoc, Option.bind_none, Option.bind_some]
noncomputable def de_laws_markPairS (a0 : List (ByteArray × ByteArray × Unit)) (a1 : Int) : Option ((((Int) × Unit) × ((List (ByteArray × ByteArray × Unit)) × Unit))) :=
  Option.bind ((fun d => lo_laws_markPairS_3 (fu_laws_markPairS_3 d.1 d.2.1 d.2.2.1) d.1 d.2.1 d.2.2.1) (a1, 0, a0, ())) fun val => some ((val.fst, ()), val.snd.fst, ())
theorem eq_laws_markPairS (a0 : List (ByteArray × ByteArray × Unit)) (a1 : Int) r (h : m_laws_markPairS a0 a1 = some r) : de_laws_markPairS a0 a1 = some ((r.1, ()), (r.2, ())) := by
  obtain ⟨g0, g1, hl0, rfl⟩ := markM_some (t := (.pair .str (.pair .str .unit))) h
  have hl : a0.length ≤ 1125899906842624 := hl0
  have hEE : (fun k : Int => (show ByteArray × ByteArray × Unit from (mkE (.pair .str (.pair .str .unit)) k).1)) = (fun k : Int => (mkT (k), mkT (k + 1), ())) := funext fun k => by
    show (mkT (k), mkT (k + 1), ()) = (mkT (k), mkT (k + 1), ())
    try simp only [Int.add_assoc, Int.add_zero]
    try rfl
  show _ = some ((a1 + (a0.length : Int) * 2, ()), (gL (fun k : Int => (show ByteArray × ByteArray × Unit from (mkE (.pair .str (.pair .str .unit)) k).1)) 2 a0.length a1, ()))
  rw [hEE]
  unfold de_laws_markPairS
  have hL := mark_loop (fun k : Int => (mkT (k), mkT (k + 1), ())) 2 (n := a0.length) (K := 36028797018963000) (g := fun m k i r => lo_laws_markPairS_3 m k i r) (ok := fun k r => (k, r, ())) (fun m i k r hi hr h1 hK => by
    show lo_laws_markPairS_3 (m + 1) k i r = _
    have hK1 : k + 2 ≤ 36028797018963000 := by
      have : (1 : Int) ≤ (a0.length - i : Nat) := by omega
      omega
    rw [show lo_laws_markPairS_3 (m + 1) k i r = lo_laws_markPairS_3 (m + 1) (k + 0) i r from by rw [Int.add_zero]]
    have k0 : k = k + 0 := (Int.add_zero k).symm
    have t0 : m_laws_markText (k + 0) = some (mkT (k + 0)) := if_pos (by omega)
    have t1 : m_laws_markText (k + 1) = some (mkT (k + 1)) := if_pos (by omega)
    have w0 : IntKind.wrap IntKind.i64 (k + 0 + 1) = k + 1 := by rw [wrap_ok (by omega) (by omega)]; omega
    have w1 : IntKind.wrap IntKind.i64 (k + 1 + 1) = k + 2 := by rw [wrap_ok (by omega) (by omega)]; omega
    have hir : i < r.length := by omega
    simp only [lo_laws_markPairS_3, tr_laws_markPairS_3]
    simp only [t0, t1,  Option.bind_some, w0, w1,  List.length_set, List.set_set, cLt hir, cLe0, cLtN hir, wI (show i < 4611686018427387904 by omega), cond_true, Int.toNat_natCast, getD_set hir]
    first | rfl | (rw [Int.add_zero]; rfl) | (simp only [Int.add_zero]; rfl)) (fun m k r hr => by
    show lo_laws_markPairS_3 (m + 1) k a0.length r = _
    simp only [lo_laws_markPairS_3, tr_laws_markPairS_3, hr]
    rw [cLtF]
    rfl) (fu_laws_markPairS_3 a1 0 a0) 0 a1 a0 (by omega) (by simp [fu_laws_markPairS_3]) rfl g0 (by omega)
  have hL' : lo_laws_markPairS_3 (fu_laws_markPairS_3 a1 0 a0) a1 0 a0 = _ := hL
  show (lo_laws_markPairS_3 (fu_laws_markPairS_3 a1 0 a0) a1 0 a0).bind _ = _
  rw [hL']
  rfl
noncomputable def ou_laws_markPairS_3 {R : Type} (k : Kt R) : ((Int) × (List (ByteArray × ByteArray × Unit)) × Unit) → Option R := (fun d => k (.exit 0) (((pa_laws_markPairS 3).2 2).st d) (((pa_laws_markPairS 3).2 2).nid))
noncomputable def L_laws_markPairS {R : Type} : Lt R pa_laws_markPairS := (addL (pat := pa_laws_markPairS) 3 (fun d k => (lo_laws_markPairS_3 (fu_laws_markPairS_3 d.1 d.2.1 d.2.2.1) d.1 d.2.1 d.2.2.1).bind (ou_laws_markPairS_3 k)) noL)
theorem rd_laws_markPairS_3 {R : Type} (nx : (pa_laws_markPairS 3).1.D → Kt R → Option R) (k : Kt R) (v1 : Int) (v5 : Int) (r0 : List (ByteArray × ByteArray × Unit)) : ev Try.prog ⟨ta_laws_markPairS, 1, 29, pa_laws_markPairS⟩ L_laws_markPairS co_laws_markPairS_3 ((pa_laws_markPairS 3).1.st (v1, v5, r0, ())) (pa_laws_markPairS 3).1.nid (roundK 1 (pa_laws_markPairS 3) nx k) = tr_laws_markPairS_3  (fun d => nx d k) (fun d => k (.exit 0) (((pa_laws_markPairS 3).2 2).st d) (((pa_laws_markPairS 3).2 2).nid)) v1 v5 r0 := by kernel_rfl
theorem lp_laws_markPairS_3 {R : Type} : ∀ (m : Nat) (d : (pa_laws_markPairS 3).1.D) (k : Kt R), loopN 1 (pa_laws_markPairS 3) (fun s nid k => ev Try.prog ⟨ta_laws_markPairS, 1, 29, pa_laws_markPairS⟩ L_laws_markPairS co_laws_markPairS_3 s nid k) m d k = (lo_laws_markPairS_3 m d.1 d.2.1 d.2.2.1).bind (ou_laws_markPairS_3 k)
  | 0, _, _ => rfl
  | m + 1, ⟨v1, v5, r0, ⟨⟩⟩, k => (rd_laws_markPairS_3 _ k v1 v5 r0).trans ((congrArg (fun F => tr_laws_markPairS_3  F (fun d => k (.exit 0) (((pa_laws_markPairS 3).2 2).st d) (((pa_laws_markPairS 3).2 2).nid)) v1 v5 r0) (funext fun d => lp_laws_markPairS_3 m d k)).trans (na_laws_markPairS_3 (f := ou_laws_markPairS_3 k)  (fun d => lo_laws_markPairS_3 m d.1 d.2.1 d.2.2.1) (fun d => some (d)) v1 v5 r0))
theorem en_laws_markPairS (a0 : List (ByteArray × ByteArray × Unit)) (a1 : Int) : evalF Try.prog ta_laws_markPairS pa_laws_markPairS sg_laws_markPairS Try.f96 L_laws_markPairS (a0, a1, ()) = de_laws_markPairS a0 a1 := by kernel_rfl
theorem si_laws_markPairS : SigsOk Try.prog ta_laws_markPairS := SigsOk.of fun f sd h => by
  try dsimp only [Tb.of, ta_laws_markPairS] at h
  split at h
  · rename_i e; subst e; cases h; exact sn_laws_markText
  cases h
theorem lk_laws_markPairS_3 {R : Type} : LoopOk Try.prog R 29 1 pa_laws_markPairS L_laws_markPairS co_laws_markPairS_3 :=
  loop_key (cfg := ⟨ta_laws_markPairS, 1, 29, pa_laws_markPairS⟩) (key := 3) (by kernel_rfl) (by kernel_rfl) si_laws_markPairS rfl rfl (fun d k r h => ⟨fu_laws_markPairS_3 d.1 d.2.1 d.2.2.1, (lp_laws_markPairS_3 _ d k).trans h⟩) (fun c hc => by rw [show loopsIn co_laws_markPairS_3 = [] from by kernel_rfl] at hc; cases hc)
theorem sn_laws_markPairS : Callable Try.prog 96 ∧ Sound Try.prog 96 sd_laws_markPairS.sg sd_laws_markPairS.den :=
  fn_loops (pat := pa_laws_markPairS) L_laws_markPairS (by kernel_rfl) si_laws_markPairS Try.func96 (by kernel_rfl) (by kernel_rfl) (fun c hc => by rw [show loopsIn (bodyOf Try.f96) = [co_laws_markPairS_3] from by kernel_rfl] at hc; simp only [List.mem_cons, List.not_mem_nil, or_false] at hc; rcases hc with rfl <;> first | exact lk_laws_markPairS_3) fun x r h => by
    obtain ⟨a0, a1, ⟨⟩⟩ := x; obtain ⟨y, h1, h2⟩ := Option.bind_eq_some_iff.1 (show (m_laws_markPairS a0 a1).bind (fun r => some ((r.1, ()), (r.2, ()))) = some r from h); cases h2; exact (en_laws_markPairS a0 a1).trans (eq_laws_markPairS a0 a1 _ h1)
def m_laws_markState (a : (List (ByteArray × ByteArray × Unit)) × Unit) (k : Int) : Option (Int × (List (ByteArray × ByteArray × Unit))) := (markM (.pair .str (.pair .str .unit)) a.1 k).bind fun r0 =>  some (r0.1, r0.2)
def sg_laws_markState : Sig := ⟨[.mu 133 (.pair .str (.pair .str .unit)), .rd (.int .i64)], [some 1, none], [.rd (.int .i64)], [none]⟩
noncomputable def sd_laws_markState : SD := ⟨sg_laws_markState, fun x => (m_laws_markState (x.1, ()) x.2.1).bind fun r => some ((r.1, ()), (r.2, ()))⟩
noncomputable def ta_laws_markState : Tb := Tb.of fun f => if f = 96 then some sd_laws_markPairS else none
def pa_laws_markState : Nat → Pat × (Nat → Pat) := fun k => (⟨[], [], []⟩, fun _ => ⟨[], [], []⟩)
noncomputable def de_laws_markState (a0 : List (ByteArray × ByteArray × Unit)) (a1 : Int) : Option ((((Int) × Unit) × ((List (ByteArray × ByteArray × Unit)) × Unit))) :=
  Option.bind (Option.bind (m_laws_markPairS a0 a1) fun val => some ((val.fst, ()), val.snd, ())) fun val => some ((val.fst.fst, ()), val.snd.fst, ())
theorem eq_laws_markState (a0 : List (ByteArray × ByteArray × Unit)) (a1 : Int) r (h : m_laws_markState (a0, ()) a1 = some r) : de_laws_markState a0 a1 = some ((r.1, ()), (r.2, ())) := by
  unfold m_laws_markState at h
  obtain ⟨⟨k0, x0⟩, e0, h⟩ := Option.bind_eq_some_iff.1 h
  have e0 : markM (.pair .str (.pair .str .unit)) a0 a1 = some (k0, x0) := e0
  cases h
  unfold de_laws_markState
  have c0 : m_laws_markPairS a0 a1 = (some (k0, x0) : Option (Int × (List (ByteArray × ByteArray × Unit)))) := e0
  rw [c0]
  simp only [Option.bind_some]
  try rfl
theorem en_laws_markState (a0 : List (ByteArray × ByteArray × Unit)) (a1 : Int) : evalF Try.prog ta_laws_markState pa_laws_markState sg_laws_markState Try.f21 noL (a0, a1, ()) = de_laws_markState a0 a1 := by kernel_rfl
theorem si_laws_markState : SigsOk Try.prog ta_laws_markState := SigsOk.of fun f sd h => by
  try dsimp only [Tb.of, ta_laws_markState] at h
  split at h
  · rename_i e; subst e; cases h; exact sn_laws_markPairS
  cases h
theorem sn_laws_markState : Callable Try.prog 21 ∧ Sound Try.prog 21 sd_laws_markState.sg sd_laws_markState.den :=
  fn_plain (pat := pa_laws_markState) (by kernel_rfl) si_laws_markState Try.func21 (by kernel_rfl) (by kernel_rfl) (by kernel_rfl) fun x r h => by
    obtain ⟨a0, a1, ⟨⟩⟩ := x; obtain ⟨y, h1, h2⟩ := Option.bind_eq_some_iff.1 (show (m_laws_markState (a0, ()) a1).bind (fun r => some ((r.1, ()), (r.2, ()))) = some r from h); cases h2; exact (en_laws_markState a0 a1).trans (eq_laws_markState a0 a1 _ h1)
def m_laws_szChange (a : ByteArray × ByteArray × Bool × Unit) (left : Int) : Option Int := szM (.pair .str (.pair .str (.pair .bool .unit))) a left
def sg_laws_szChange : Sig := ⟨[.rd (.pair .str (.pair .str (.pair .bool .unit))), .rd (.int .i64)], [some 3, none], [.rd (.int .i64)], [none]⟩
noncomputable def sd_laws_szChange : SD := ⟨sg_laws_szChange, fun x => (m_laws_szChange x.1 x.2.1).bind fun r => some ((r, ()), (()))⟩
noncomputable def ta_laws_szChange : Tb := Tb.of fun f => none
def pa_laws_szChange : Nat → Pat × (Nat → Pat) := fun k => (⟨[], [], []⟩, fun _ => ⟨[], [], []⟩)
noncomputable def de_laws_szChange (a0 : ByteArray × ByteArray × Bool × Unit) (a1 : Int) : Option ((((Int) × Unit) × (Unit))) :=
  bif decide (IntKind.wrap IntKind.i64 (a1 - nI (ByteArray.size a0.fst)) < 0) then some ((-1, ()), ())
  else
    bif decide (IntKind.wrap IntKind.i64 (IntKind.wrap IntKind.i64 (a1 - nI (ByteArray.size a0.fst)) - nI (ByteArray.size a0.snd.fst)) < 0) then some ((-1, ()), ())
    else some ((IntKind.wrap IntKind.i64 (IntKind.wrap IntKind.i64 (a1 - nI (ByteArray.size a0.fst)) - nI (ByteArray.size a0.snd.fst)), ()), ())
theorem eq_laws_szChange (a0 : ByteArray × ByteArray × Bool × Unit) (a1 : Int) r (h : m_laws_szChange a0 a1 = some r) : de_laws_szChange a0 a1 = some ((r, ()), (())) := by
  obtain ⟨hc, g0, g1, rfl⟩ := szM_some (t := (.pair .str (.pair .str (.pair .bool .unit)))) h
  obtain ⟨hc0, hc1, hc2, _⟩ : fineB .str a0.1 = true ∧ fineB .str a0.2.1 = true ∧ fineB .bool a0.2.2.1 = true ∧ True := by
    have s := hc
    obtain ⟨h0, s⟩ := fineB_pair s
    obtain ⟨h1, s⟩ := fineB_pair s
    obtain ⟨h2, s⟩ := fineB_pair s
    exact ⟨h0, h1, h2, trivial⟩
  unfold de_laws_szChange
  have hwt : (wt (.pair .str (.pair .str (.pair .bool .unit))) a0 : Int) = (ByteArray.size a0.1 : Int) + (ByteArray.size a0.2.1 : Int) := by simp only [wt]; omega
  rw [hwt]
  have hs0 : ByteArray.size a0.1 < 1152921504606846976 := fineB_str hc0
  have e0 : IntKind.i64.wrap (a1 - nI (ByteArray.size a0.1)) = a1 - (ByteArray.size a0.1 : Int) := wrap_ok (by simp only [nI]; omega) (by simp only [nI]; omega)
  simp only [e0]
  by_cases q0 : a1 - (ByteArray.size a0.1 : Int) < 0
  · simp only [decide_eq_true q0, cond_true]; try rw [if_pos (by omega)]
  · simp only [decide_eq_false q0, cond_false]
    have hs1 : ByteArray.size a0.2.1 < 1152921504606846976 := fineB_str hc1
    have e1 : IntKind.i64.wrap (a1 - (ByteArray.size a0.1 : Int) - nI (ByteArray.size a0.2.1)) = a1 - (ByteArray.size a0.1 : Int) - (ByteArray.size a0.2.1 : Int) := wrap_ok (by simp only [nI]; omega) (by simp only [nI]; omega)
    simp only [e1]
    by_cases q1 : a1 - (ByteArray.size a0.1 : Int) - (ByteArray.size a0.2.1 : Int) < 0
    · simp only [decide_eq_true q1, cond_true]; try rw [if_pos (by omega)]
    · simp only [decide_eq_false q1, cond_false]
      rw [if_neg (by omega)]
      simp only [Int.sub_sub, Int.add_assoc]
theorem en_laws_szChange (a0 : ByteArray × ByteArray × Bool × Unit) (a1 : Int) : evalF Try.prog ta_laws_szChange pa_laws_szChange sg_laws_szChange Try.f140 noL (a0, a1, ()) = de_laws_szChange a0 a1 := by kernel_rfl
theorem si_laws_szChange : SigsOk Try.prog ta_laws_szChange := SigsOk.of fun f sd h => by
  try dsimp only [Tb.of, ta_laws_szChange] at h
  cases h
theorem sn_laws_szChange : Callable Try.prog 140 ∧ Sound Try.prog 140 sd_laws_szChange.sg sd_laws_szChange.den :=
  fn_plain (pat := pa_laws_szChange) (by kernel_rfl) si_laws_szChange Try.func140 (by kernel_rfl) (by kernel_rfl) (by kernel_rfl) fun x r h => by
    obtain ⟨a0, a1, ⟨⟩⟩ := x; obtain ⟨y, h1, h2⟩ := Option.bind_eq_some_iff.1 (show (m_laws_szChange a0 a1).bind (fun r => some ((r, ()), (()))) = some r from h); cases h2; exact (en_laws_szChange a0 a1).trans (eq_laws_szChange a0 a1 _ h1)
def m_laws_szChangeS (a : List (ByteArray × ByteArray × Bool × Unit)) (left : Int) : Option Int := szM (.sl (.pair .str (.pair .str (.pair .bool .unit)))) a left
def sg_laws_szChangeS : Sig := ⟨[.rd (.sl (.pair .str (.pair .str (.pair .bool .unit)))), .rd (.int .i64)], [none, none], [.rd (.int .i64)], [none]⟩
noncomputable def sd_laws_szChangeS : SD := ⟨sg_laws_szChangeS, fun x => (m_laws_szChangeS x.1 x.2.1).bind fun r => some ((r, ()), (()))⟩
noncomputable def ta_laws_szChangeS : Tb := Tb.of fun f => if f = 140 then some sd_laws_szChange else none
def pa_laws_szChangeS : Nat → Pat × (Nat → Pat) := fun k => if k = 6 then (⟨[.sl 0 0 (.pair .str (.pair .str (.pair .bool .unit)))], [(0, .lf (.d (.sl (.pair .str (.pair .str (.pair .bool .unit)))))), (1, .lf (.d (.int .i64))), (5, .lf (.d (.int .i64)))], []⟩, fun e => if e = 1 then ⟨[], [(4, .lf (.d (.int .i64)))], []⟩ else if e = 2 then ⟨[], [(1, .lf (.d (.int .i64)))], []⟩ else ⟨[], [], []⟩) else (⟨[], [], []⟩, fun _ => ⟨[], [], []⟩)
noncomputable def co_laws_szChangeS_6 : Code := (loopsIn (bodyOf Try.f62)).getD 0 .skip
def fu_laws_szChangeS_6 (v0 : List (ByteArray × ByteArray × Bool × Unit)) (v1 : Int) (v5 : Int) : Nat := ((v0.length : Int) - v5).toNat + 1
noncomputable def tr_laws_szChangeS_6 {R : Type}  (NX : ((List (ByteArray × ByteArray × Bool × Unit)) × (Int) × (Int) × Unit) → Option R) (X2 : ((Int) × Unit) → Option R) (X1 : ((Int) × Unit) → Option R) (v0 : List (ByteArray × ByteArray × Bool × Unit)) (v1 : Int) (v5 : Int) : Option R :=
  bif decide (v5 < nI (List.length v0)) then
    bif decide (0 ≤ v5) then
      bif decide (v5 < nI (List.length v0)) then
        Option.bind
          (Option.bind
            (m_laws_szChange
              ((List.getD v0 (Int.toNat v5) (ByteArray.mk #[], ByteArray.mk #[], false, ())).fst, (List.getD v0 (Int.toNat v5) (ByteArray.mk #[], ByteArray.mk #[], false, ())).snd.fst,
                (List.getD v0 (Int.toNat v5) (ByteArray.mk #[], ByteArray.mk #[], false, ())).snd.snd.fst, ())
              v1)
            fun val => some ((val, ()), ()))
          fun val => bif decide (val.fst.fst < 0) then X1 (-1, ()) else NX (v0, val.fst.fst, IntKind.wrap IntKind.i64 (v5 + 1), ())
      else none
    else none
  else X2 (v1, ())
noncomputable def lo_laws_szChangeS_6 : Nat → (List (ByteArray × ByteArray × Bool × Unit)) → (Int) → (Int) →  Option (((Int) × Unit) ⊕ ((Int) × Unit))
  | 0, _, _, _ => none
  | m + 1, v0, v1, v5 => tr_laws_szChangeS_6  (fun d => lo_laws_szChangeS_6 m d.1 d.2.1 d.2.2.1) (fun d => some (.inl (d))) (fun d => some (.inr (d))) v0 v1 v5
theorem na_laws_szChangeS_6 {R S : Type}  (NX : ((List (ByteArray × ByteArray × Bool × Unit)) × (Int) × (Int) × Unit) → Option R) (X2 : ((Int) × Unit) → Option R) (X1 : ((Int) × Unit) → Option R) (v0 : List (ByteArray × ByteArray × Bool × Unit)) (v1 : Int) (v5 : Int) (f : R → Option S) : tr_laws_szChangeS_6  (fun d => (NX d).bind f) (fun d => (X2 d).bind f) (fun d => (X1 d).bind f) v0 v1 v5 = (tr_laws_szChangeS_6  NX X2 X1 v0 v1 v5).bind f := by
  unfold tr_laws_szChangeS_6
  simp only [cond_bind, ite_bind, onSum_bind, Option.bind_assoc, Option.bind_none, Option.bind_some]
noncomputable def de_laws_szChangeS (a0 : List (ByteArray × ByteArray × Bool × Unit)) (a1 : Int) : Option ((((Int) × Unit) × (Unit))) :=
  bif decide (IntKind.wrap IntKind.i64 (a1 - nI (List.length a0)) < 0) then some ((-1, ()), ())
  else Option.bind ((fun d => lo_laws_szChangeS_6 (fu_laws_szChangeS_6 d.1 d.2.1 d.2.2.1) d.1 d.2.1 d.2.2.1) (a0, IntKind.wrap IntKind.i64 (a1 - nI (List.length a0)), 0, ())) fun val => onSum (fun val => some ((val.fst, ()), ())) (fun val => some ((val.fst, ()), ())) val
theorem eq_laws_szChangeS (a0 : List (ByteArray × ByteArray × Bool × Unit)) (a1 : Int) r (h : m_laws_szChangeS a0 a1 = some r) : de_laws_szChangeS a0 a1 = some ((r, ()), (())) := by
  obtain ⟨hc, g0, g1, rfl⟩ := szM_some (t := .sl (.pair .str (.pair .str (.pair .bool .unit)))) h
  obtain ⟨hl0, hall⟩ := fineB_sl hc
  have hl : a0.length < 1152921504606846976 := hl0
  clear hl0 hc
  · unfold de_laws_szChangeS
    have hw1 : IntKind.i64.wrap (a1 - nI a0.length) = a1 - (a0.length : Int) := wrap_ok (by simp only [nI]; omega) (by simp only [nI]; omega)
    rw [hw1]
    have hL := sz_loop (xs := a0) ((ByteArray.mk #[]), (ByteArray.mk #[]), false, ()) (fun x : ByteArray × ByteArray × Bool × Unit => wt (.pair .str (.pair .str (.pair .bool .unit))) x) (g := fun m l i => lo_laws_szChangeS_6 m a0 l i) (ok := fun l => .inl (l, ())) (bad := .inr (-1, ())) (fun m i l hi h0 h1 => by
      show lo_laws_szChangeS_6 (m + 1) a0 l i = _
      simp only [lo_laws_szChangeS_6, tr_laws_szChangeS_6]
      rw [cLt hi, cLe0, wI (by omega)]
      simp only [cond_true, Int.toNat_natCast]
      have hE : m_laws_szChange ((List.getD (α := ByteArray × ByteArray × Bool × Unit) a0 i ((ByteArray.mk #[]), (ByteArray.mk #[]), false, ())).fst, (List.getD (α := ByteArray × ByteArray × Bool × Unit) a0 i ((ByteArray.mk #[]), (ByteArray.mk #[]), false, ())).snd.fst, (List.getD (α := ByteArray × ByteArray × Bool × Unit) a0 i ((ByteArray.mk #[]), (ByteArray.mk #[]), false, ())).snd.snd.fst, ()) l = some (if l - (wt (.pair .str (.pair .str (.pair .bool .unit))) (List.getD (α := ByteArray × ByteArray × Bool × Unit) a0 i ((ByteArray.mk #[]), (ByteArray.mk #[]), false, ())) : Int) < 0 then -1 else l - wt (.pair .str (.pair .str (.pair .bool .unit))) (List.getD (α := ByteArray × ByteArray × Bool × Unit) a0 i ((ByteArray.mk #[]), (ByteArray.mk #[]), false, ()))) := by
        exact szM_is (t := (.pair .str (.pair .str (.pair .bool .unit)))) (x := (List.getD (α := ByteArray × ByteArray × Bool × Unit) a0 i ((ByteArray.mk #[]), (ByteArray.mk #[]), false, ()))) (hall _ (getD_mem ((ByteArray.mk #[]), (ByteArray.mk #[]), false, ()) hi)) h0 h1
      rw [hE]
      by_cases q : l - (wt (.pair .str (.pair .str (.pair .bool .unit))) (List.getD (α := ByteArray × ByteArray × Bool × Unit) a0 i ((ByteArray.mk #[]), (ByteArray.mk #[]), false, ())) : Int) < 0
      · simp only [if_pos q, decide_eq_true q, Option.bind_some, cond_true]; rfl
      · simp only [if_neg q, decide_eq_false q, Option.bind_some, cond_false]
    ) (fun m l => by
      show lo_laws_szChangeS_6 (m + 1) a0 l a0.length = _
      simp only [lo_laws_szChangeS_6, tr_laws_szChangeS_6]
      rw [cLtF]
      rfl) (fu_laws_szChangeS_6 a0 (a1 - (a0.length : Int)) 0) 0 (a1 - (a0.length : Int)) (by omega) (by simp [fu_laws_szChangeS_6])
    have hW : wt (.sl (.pair .str (.pair .str (.pair .bool .unit)))) a0 = a0.length + (a0.map (fun x : ByteArray × ByteArray × Bool × Unit => wt (.pair .str (.pair .str (.pair .bool .unit))) x)).sum := rfl
    rw [hW]
    by_cases q : a1 - (a0.length : Int) < 0
    · simp only [decide_eq_true q, cond_true]; rw [if_pos (by omega)]
    · simp only [decide_eq_false q, cond_false]
      have hL := hL (by omega) (by omega)
      rw [List.drop_zero] at hL
      show (lo_laws_szChangeS_6 (fu_laws_szChangeS_6 a0 (a1 - (a0.length : Int)) 0) a0 (a1 - (a0.length : Int)) 0).bind _ = _
      have hL' : lo_laws_szChangeS_6 (fu_laws_szChangeS_6 a0 (a1 - (a0.length : Int)) 0) a0 (a1 - (a0.length : Int)) 0 = _ := hL
      rw [hL']
      have hsum : a1 - ((a0.length + (a0.map (fun x : ByteArray × ByteArray × Bool × Unit => wt (.pair .str (.pair .str (.pair .bool .unit))) x)).sum : Nat) : Int) = a1 - (a0.length : Int) - ((a0.map (fun x : ByteArray × ByteArray × Bool × Unit => wt (.pair .str (.pair .str (.pair .bool .unit))) x)).sum : Int) := by omega
      rw [hsum]
      by_cases q2 : a1 - (a0.length : Int) - ((a0.map (fun x : ByteArray × ByteArray × Bool × Unit => wt (.pair .str (.pair .str (.pair .bool .unit))) x)).sum : Int) < 0
      · simp only [if_pos q2]; rfl
      · simp only [if_neg q2]; rfl
noncomputable def ou_laws_szChangeS_6 {R : Type} (k : Kt R) : (((Int) × Unit) ⊕ ((Int) × Unit)) → Option R := (onSum (fun d => k (.exit 0) (((pa_laws_szChangeS 6).2 2).st d) (((pa_laws_szChangeS 6).2 2).nid)) (fun d => k .ret (((pa_laws_szChangeS 6).2 1).st d) (((pa_laws_szChangeS 6).2 1).nid)))
noncomputable def L_laws_szChangeS {R : Type} : Lt R pa_laws_szChangeS := (addL (pat := pa_laws_szChangeS) 6 (fun d k => (lo_laws_szChangeS_6 (fu_laws_szChangeS_6 d.1 d.2.1 d.2.2.1) d.1 d.2.1 d.2.2.1).bind (ou_laws_szChangeS_6 k)) noL)
theorem rd_laws_szChangeS_6 {R : Type} (nx : (pa_laws_szChangeS 6).1.D → Kt R → Option R) (k : Kt R) (v0 : List (ByteArray × ByteArray × Bool × Unit)) (v1 : Int) (v5 : Int) : ev Try.prog ⟨ta_laws_szChangeS, 0, 27, pa_laws_szChangeS⟩ L_laws_szChangeS co_laws_szChangeS_6 ((pa_laws_szChangeS 6).1.st (v0, v1, v5, ())) (pa_laws_szChangeS 6).1.nid (roundK 0 (pa_laws_szChangeS 6) nx k) = tr_laws_szChangeS_6  (fun d => nx d k) (fun d => k (.exit 0) (((pa_laws_szChangeS 6).2 2).st d) (((pa_laws_szChangeS 6).2 2).nid)) (fun d => k .ret (((pa_laws_szChangeS 6).2 1).st d) (((pa_laws_szChangeS 6).2 1).nid)) v0 v1 v5 := by kernel_rfl
theorem lp_laws_szChangeS_6 {R : Type} : ∀ (m : Nat) (d : (pa_laws_szChangeS 6).1.D) (k : Kt R), loopN 0 (pa_laws_szChangeS 6) (fun s nid k => ev Try.prog ⟨ta_laws_szChangeS, 0, 27, pa_laws_szChangeS⟩ L_laws_szChangeS co_laws_szChangeS_6 s nid k) m d k = (lo_laws_szChangeS_6 m d.1 d.2.1 d.2.2.1).bind (ou_laws_szChangeS_6 k)
  | 0, _, _ => rfl
  | m + 1, ⟨v0, v1, v5, ⟨⟩⟩, k => (rd_laws_szChangeS_6 _ k v0 v1 v5).trans ((congrArg (fun F => tr_laws_szChangeS_6  F (fun d => k (.exit 0) (((pa_laws_szChangeS 6).2 2).st d) (((pa_laws_szChangeS 6).2 2).nid)) (fun d => k .ret (((pa_laws_szChangeS 6).2 1).st d) (((pa_laws_szChangeS 6).2 1).nid)) v0 v1 v5) (funext fun d => lp_laws_szChangeS_6 m d k)).trans (na_laws_szChangeS_6 (f := ou_laws_szChangeS_6 k)  (fun d => lo_laws_szChangeS_6 m d.1 d.2.1 d.2.2.1) (fun d => some (.inl (d))) (fun d => some (.inr (d))) v0 v1 v5))
theorem en_laws_szChangeS (a0 : List (ByteArray × ByteArray × Bool × Unit)) (a1 : Int) : evalF Try.prog ta_laws_szChangeS pa_laws_szChangeS sg_laws_szChangeS Try.f62 L_laws_szChangeS (a0, a1, ()) = de_laws_szChangeS a0 a1 := by kernel_rfl
theorem si_laws_szChangeS : SigsOk Try.prog ta_laws_szChangeS := SigsOk.of fun f sd h => by
  try dsimp only [Tb.of, ta_laws_szChangeS] at h
  split at h
  · rename_i e; subst e; cases h; exact sn_laws_szChange
  cases h
theorem lk_laws_szChangeS_6 {R : Type} : LoopOk Try.prog R 27 0 pa_laws_szChangeS L_laws_szChangeS co_laws_szChangeS_6 :=
  loop_key (cfg := ⟨ta_laws_szChangeS, 0, 27, pa_laws_szChangeS⟩) (key := 6) (by kernel_rfl) (by kernel_rfl) si_laws_szChangeS rfl rfl (fun d k r h => ⟨fu_laws_szChangeS_6 d.1 d.2.1 d.2.2.1, (lp_laws_szChangeS_6 _ d k).trans h⟩) (fun c hc => by rw [show loopsIn co_laws_szChangeS_6 = [] from by kernel_rfl] at hc; cases hc)
theorem sn_laws_szChangeS : Callable Try.prog 62 ∧ Sound Try.prog 62 sd_laws_szChangeS.sg sd_laws_szChangeS.den :=
  fn_loops (pat := pa_laws_szChangeS) L_laws_szChangeS (by kernel_rfl) si_laws_szChangeS Try.func62 (by kernel_rfl) (by kernel_rfl) (fun c hc => by rw [show loopsIn (bodyOf Try.f62) = [co_laws_szChangeS_6] from by kernel_rfl] at hc; simp only [List.mem_cons, List.not_mem_nil, or_false] at hc; rcases hc with rfl <;> first | exact lk_laws_szChangeS_6) fun x r h => by
    obtain ⟨a0, a1, ⟨⟩⟩ := x; obtain ⟨y, h1, h2⟩ := Option.bind_eq_some_iff.1 (show (m_laws_szChangeS a0 a1).bind (fun r => some ((r, ()), (()))) = some r from h); cases h2; exact (en_laws_szChangeS a0 a1).trans (eq_laws_szChangeS a0 a1 _ h1)
def m_spec_l4KeyOk (k : ByteArray) : Bool := keyOk k
def sg_spec_l4KeyOk : Sig := ⟨[.rd .str], [none], [.rd .bool], [none]⟩
noncomputable def sd_spec_l4KeyOk : SD := ⟨sg_spec_l4KeyOk, fun x => some (((m_spec_l4KeyOk x.1), ()), (()))⟩
noncomputable def ta_spec_l4KeyOk : Tb := Tb.of fun f => none
def pa_spec_l4KeyOk : Nat → Pat × (Nat → Pat) := fun k => (⟨[], [], []⟩, fun _ => ⟨[], [], []⟩)
noncomputable def de_spec_l4KeyOk (a0 : ByteArray) : Option ((((Bool) × Unit) × (Unit))) :=
  bif decide (nI (ByteArray.size a0) ≥ 1) then some ((decide (nI (ByteArray.size a0) ≤ 20), ()), ()) else some ((false, ()), ())
theorem eq_spec_l4KeyOk (a0 : ByteArray) : de_spec_l4KeyOk a0 = some ((m_spec_l4KeyOk a0, ()), ()) := by
  unfold de_spec_l4KeyOk m_spec_l4KeyOk keyOk inB
  by_cases h : (a0.size : Int) ≥ 1
  · have : decide ((1 : Int) ≤ (a0.size : Int)) = true := by simpa using h
    simp [nI, this]
  · have h' : ¬ (1 : Int) ≤ (a0.size : Int) := h
    simp [nI, h']
theorem en_spec_l4KeyOk (a0 : ByteArray) : evalF Try.prog ta_spec_l4KeyOk pa_spec_l4KeyOk sg_spec_l4KeyOk Try.f155 noL (a0, ()) = de_spec_l4KeyOk a0 := by kernel_rfl
theorem si_spec_l4KeyOk : SigsOk Try.prog ta_spec_l4KeyOk := SigsOk.of fun f sd h => by
  try dsimp only [Tb.of, ta_spec_l4KeyOk] at h
  cases h
theorem sn_spec_l4KeyOk : Callable Try.prog 155 ∧ Sound Try.prog 155 sd_spec_l4KeyOk.sg sd_spec_l4KeyOk.den :=
  fn_plain (pat := pa_spec_l4KeyOk) (by kernel_rfl) si_spec_l4KeyOk Try.func155 (by kernel_rfl) (by kernel_rfl) (by kernel_rfl) fun x r h => by
    obtain ⟨a0, ⟨⟩⟩ := x; rw [← h]; exact (en_spec_l4KeyOk a0).trans (eq_spec_l4KeyOk a0)
def m_spec_ValidBatch (b : List Chg) : Bool := validBatch b
def sg_spec_ValidBatch : Sig := ⟨[.rd (.sl (.pair .str (.pair .str (.pair .bool .unit))))], [none], [.rd .bool], [none]⟩
noncomputable def sd_spec_ValidBatch : SD := ⟨sg_spec_ValidBatch, fun x => some (((m_spec_ValidBatch x.1), ()), (()))⟩
noncomputable def ta_spec_ValidBatch : Tb := Tb.of fun f => if f = 155 then some sd_spec_l4KeyOk else none
def pa_spec_ValidBatch : Nat → Pat × (Nat → Pat) := fun k => if k = 5 then (⟨[.sl 0 0 (.pair .str (.pair .str (.pair .bool .unit)))], [(0, .lf (.d (.sl (.pair .str (.pair .str (.pair .bool .unit)))))), (3, .lf (.d (.int .i64)))], []⟩, fun e => if e = 1 then ⟨[], [(2, .lf (.d .bool))], []⟩ else if e = 2 then ⟨[], [], []⟩ else ⟨[], [], []⟩) else (⟨[], [], []⟩, fun _ => ⟨[], [], []⟩)
noncomputable def co_spec_ValidBatch_5 : Code := (loopsIn (bodyOf Try.f72)).getD 0 .skip
def fu_spec_ValidBatch_5 (v0 : List (ByteArray × ByteArray × Bool × Unit)) (v3 : Int) : Nat := ((v0.length : Int) - v3).toNat + 1
noncomputable def tr_spec_ValidBatch_5 {R : Type}  (NX : ((List (ByteArray × ByteArray × Bool × Unit)) × (Int) × Unit) → Option R) (X2 : (Unit) → Option R) (X1 : ((Bool) × Unit) → Option R) (v0 : List (ByteArray × ByteArray × Bool × Unit)) (v3 : Int) : Option R :=
  bif decide (v3 < nI (List.length v0)) then
    bif decide (0 ≤ v3) then
      bif decide (v3 < nI (List.length v0)) then
        bif !m_spec_l4KeyOk (List.getD v0 (Int.toNat v3) (ByteArray.mk #[], ByteArray.mk #[], false, ())).fst then X1 (false, ())
        else
          bif decide (0 ≤ v3) then
            bif decide (v3 < nI (List.length v0)) then
              bif decide (nI (ByteArray.size (List.getD v0 (Int.toNat v3) (ByteArray.mk #[], ByteArray.mk #[], false, ())).snd.fst) > 100) then X1 (false, ())
              else
                bif decide (0 ≤ v3) then
                  bif decide (v3 < nI (List.length v0)) then
                    bif (List.getD v0 (Int.toNat v3) (ByteArray.mk #[], ByteArray.mk #[], false, ())).snd.snd.fst then
                      bif decide (0 ≤ v3) then
                        bif decide (v3 < nI (List.length v0)) then
                          bif !ByteArray.toList (List.getD v0 (Int.toNat v3) (ByteArray.mk #[], ByteArray.mk #[], false, ())).snd.fst == ByteArray.toList (ByteArray.mk #[]) then X1 (false, ())
                          else NX (v0, IntKind.wrap IntKind.i64 (v3 + 1), ())
                        else none
                      else none
                    else NX (v0, IntKind.wrap IntKind.i64 (v3 + 1), ())
                  else none
                else none
            else none
          else none
      else none
    else none
  else X2 PUnit.unit
noncomputable def lo_spec_ValidBatch_5 : Nat → (List (ByteArray × ByteArray × Bool × Unit)) → (Int) →  Option ((Unit) ⊕ ((Bool) × Unit))
  | 0, _, _ => none
  | m + 1, v0, v3 => tr_spec_ValidBatch_5  (fun d => lo_spec_ValidBatch_5 m d.1 d.2.1) (fun d => some (.inl (d))) (fun d => some (.inr (d))) v0 v3
theorem na_spec_ValidBatch_5 {R S : Type}  (NX : ((List (ByteArray × ByteArray × Bool × Unit)) × (Int) × Unit) → Option R) (X2 : (Unit) → Option R) (X1 : ((Bool) × Unit) → Option R) (v0 : List (ByteArray × ByteArray × Bool × Unit)) (v3 : Int) (f : R → Option S) : tr_spec_ValidBatch_5  (fun d => (NX d).bind f) (fun d => (X2 d).bind f) (fun d => (X1 d).bind f) v0 v3 = (tr_spec_ValidBatch_5  NX X2 X1 v0 v3).bind f := by
  unfold tr_spec_ValidBatch_5
  simp only [cond_bind, ite_bind, onSum_bind, Option.bind_assoc, Option.bind_none, Option.bind_some]
noncomputable def de_spec_ValidBatch (a0 : List (ByteArray × ByteArray × Bool × Unit)) : Option ((((Bool) × Unit) × (Unit))) :=
  bif decide (nI (List.length a0) < 1) then some ((false, ()), ())
  else bif decide (nI (List.length a0) > 20) then some ((false, ()), ()) else Option.bind ((fun d => lo_spec_ValidBatch_5 (fu_spec_ValidBatch_5 d.1 d.2.1) d.1 d.2.1) (a0, 0, ())) fun val => onSum (fun val => some ((true, ()), ())) (fun val => some ((val.fst, ()), ())) val
theorem eq_spec_ValidBatch (a0 : List (ByteArray × ByteArray × Bool × Unit)) : de_spec_ValidBatch a0 = some (((m_spec_ValidBatch a0), ()), (())) := by
  unfold de_spec_ValidBatch m_spec_ValidBatch validBatch
  have tl : ByteArray.toList (ByteArray.mk #[]) = [] := by decide +kernel
  rw [inB_lt (nI (List.length a0))]
  show (bif inB (a0.length : Int) 1 20 then _ else _) = _
  cases hin : inB (a0.length : Int) 1 20 with
  | false => rfl
  | true =>
    have hlen : a0.length ≤ 20 := by have := (inB_r hin).2; omega
    have hL := all_loop (n := a0.length) (fun i => okChg (a0.getD i zC)) (g := fun m i => lo_spec_ValidBatch_5 m a0 i) (ok := .inl ()) (bad := .inr (false, ())) (fun m i hi => by
      show lo_spec_ValidBatch_5 (m + 1) a0 i = _
      simp only [lo_spec_ValidBatch_5, tr_spec_ValidBatch_5]
      rw [tl, cLt hi, cLe0, wI (show i < 4611686018427387904 by omega), Int.toNat_natCast]
      have g1 : decide (nI (ByteArray.size (List.getD a0 i (ByteArray.mk #[], ByteArray.mk #[], false, ())).2.1) > 100) = !decide ((a0.getD i zC).2.1.size ≤ 100) := gt100 _ 100
      rw [g1]
      show (bif !keyOk (a0.getD i zC).1 then _ else (bif _ then _ else (bif (a0.getD i zC).2.2.1 then (bif !((a0.getD i zC).2.1.toList == []) then _ else _) else _))) = _
      unfold okChg
      cases keyOk (a0.getD i zC).1 <;> cases decide ((a0.getD i zC).2.1.size ≤ 100) <;> cases (a0.getD i zC).2.2.1 <;> cases ((a0.getD i zC).2.1.toList == []) <;> rfl) (fun m => by
      show lo_spec_ValidBatch_5 (m + 1) a0 (a0.length : Int) = _
      simp only [lo_spec_ValidBatch_5, tr_spec_ValidBatch_5]
      rw [cLtF]
      rfl) (fu_spec_ValidBatch_5 a0 0) 0 (by omega) (by simp [fu_spec_ValidBatch_5, nI])
    refine bi_ hL ?_
    rw [Nat.sub_zero]
    cases (List.range' 0 a0.length).all (fun i => okChg (a0.getD i zC)) <;> rfl
noncomputable def ou_spec_ValidBatch_5 {R : Type} (k : Kt R) : ((Unit) ⊕ ((Bool) × Unit)) → Option R := (onSum (fun d => k (.exit 0) (((pa_spec_ValidBatch 5).2 2).st d) (((pa_spec_ValidBatch 5).2 2).nid)) (fun d => k .ret (((pa_spec_ValidBatch 5).2 1).st d) (((pa_spec_ValidBatch 5).2 1).nid)))
noncomputable def L_spec_ValidBatch {R : Type} : Lt R pa_spec_ValidBatch := (addL (pat := pa_spec_ValidBatch) 5 (fun d k => (lo_spec_ValidBatch_5 (fu_spec_ValidBatch_5 d.1 d.2.1) d.1 d.2.1).bind (ou_spec_ValidBatch_5 k)) noL)
theorem rd_spec_ValidBatch_5 {R : Type} (nx : (pa_spec_ValidBatch 5).1.D → Kt R → Option R) (k : Kt R) (v0 : List (ByteArray × ByteArray × Bool × Unit)) (v3 : Int) : ev Try.prog ⟨ta_spec_ValidBatch, 0, 49, pa_spec_ValidBatch⟩ L_spec_ValidBatch co_spec_ValidBatch_5 ((pa_spec_ValidBatch 5).1.st (v0, v3, ())) (pa_spec_ValidBatch 5).1.nid (roundK 0 (pa_spec_ValidBatch 5) nx k) = tr_spec_ValidBatch_5  (fun d => nx d k) (fun d => k (.exit 0) (((pa_spec_ValidBatch 5).2 2).st d) (((pa_spec_ValidBatch 5).2 2).nid)) (fun d => k .ret (((pa_spec_ValidBatch 5).2 1).st d) (((pa_spec_ValidBatch 5).2 1).nid)) v0 v3 := by kernel_rfl
theorem lp_spec_ValidBatch_5 {R : Type} : ∀ (m : Nat) (d : (pa_spec_ValidBatch 5).1.D) (k : Kt R), loopN 0 (pa_spec_ValidBatch 5) (fun s nid k => ev Try.prog ⟨ta_spec_ValidBatch, 0, 49, pa_spec_ValidBatch⟩ L_spec_ValidBatch co_spec_ValidBatch_5 s nid k) m d k = (lo_spec_ValidBatch_5 m d.1 d.2.1).bind (ou_spec_ValidBatch_5 k)
  | 0, _, _ => rfl
  | m + 1, ⟨v0, v3, ⟨⟩⟩, k => (rd_spec_ValidBatch_5 _ k v0 v3).trans ((congrArg (fun F => tr_spec_ValidBatch_5  F (fun d => k (.exit 0) (((pa_spec_ValidBatch 5).2 2).st d) (((pa_spec_ValidBatch 5).2 2).nid)) (fun d => k .ret (((pa_spec_ValidBatch 5).2 1).st d) (((pa_spec_ValidBatch 5).2 1).nid)) v0 v3) (funext fun d => lp_spec_ValidBatch_5 m d k)).trans (na_spec_ValidBatch_5 (f := ou_spec_ValidBatch_5 k)  (fun d => lo_spec_ValidBatch_5 m d.1 d.2.1) (fun d => some (.inl (d))) (fun d => some (.inr (d))) v0 v3))
theorem en_spec_ValidBatch (a0 : List (ByteArray × ByteArray × Bool × Unit)) : evalF Try.prog ta_spec_ValidBatch pa_spec_ValidBatch sg_spec_ValidBatch Try.f72 L_spec_ValidBatch (a0, ()) = de_spec_ValidBatch a0 := by kernel_rfl
theorem si_spec_ValidBatch : SigsOk Try.prog ta_spec_ValidBatch := SigsOk.of fun f sd h => by
  try dsimp only [Tb.of, ta_spec_ValidBatch] at h
  split at h
  · rename_i e; subst e; cases h; exact sn_spec_l4KeyOk
  cases h
theorem lk_spec_ValidBatch_5 {R : Type} : LoopOk Try.prog R 49 0 pa_spec_ValidBatch L_spec_ValidBatch co_spec_ValidBatch_5 :=
  loop_key (cfg := ⟨ta_spec_ValidBatch, 0, 49, pa_spec_ValidBatch⟩) (key := 5) (by kernel_rfl) (by kernel_rfl) si_spec_ValidBatch rfl rfl (fun d k r h => ⟨fu_spec_ValidBatch_5 d.1 d.2.1, (lp_spec_ValidBatch_5 _ d k).trans h⟩) (fun c hc => by rw [show loopsIn co_spec_ValidBatch_5 = [] from by kernel_rfl] at hc; cases hc)
theorem sn_spec_ValidBatch : Callable Try.prog 72 ∧ Sound Try.prog 72 sd_spec_ValidBatch.sg sd_spec_ValidBatch.den :=
  fn_loops (pat := pa_spec_ValidBatch) L_spec_ValidBatch (by kernel_rfl) si_spec_ValidBatch Try.func72 (by kernel_rfl) (by kernel_rfl) (fun c hc => by rw [show loopsIn (bodyOf Try.f72) = [co_spec_ValidBatch_5] from by kernel_rfl] at hc; simp only [List.mem_cons, List.not_mem_nil, or_false] at hc; rcases hc with rfl <;> first | exact lk_spec_ValidBatch_5) fun x r h => by
    obtain ⟨a0, ⟨⟩⟩ := x; rw [← h]; exact (en_spec_ValidBatch a0).trans (eq_spec_ValidBatch a0)
def m_spec_ValidState (s : Stt) : Bool := validState s
def sg_spec_ValidState : Sig := ⟨[.rd (.pair (.sl (.pair .str (.pair .str .unit))) .unit)], [some 1], [.rd .bool], [none]⟩
noncomputable def sd_spec_ValidState : SD := ⟨sg_spec_ValidState, fun x => some (((m_spec_ValidState x.1), ()), (()))⟩
noncomputable def ta_spec_ValidState : Tb := Tb.of fun f => if f = 155 then some sd_spec_l4KeyOk else none
def pa_spec_ValidState : Nat → Pat × (Nat → Pat) := fun k => if k = 5 then (⟨[.boxSl 1 0 (.pair .str (.pair .str .unit))], [(1, .lf (.ptr 0 0)), (3, .lf (.d (.int .i64)))], [.box 30 [.d (.sl (.pair .str (.pair .str .unit)))]]⟩, fun e => if e = 1 then ⟨[], [(2, .lf (.d .bool))], []⟩ else if e = 2 then ⟨[], [], []⟩ else ⟨[], [], []⟩) else (⟨[], [], []⟩, fun _ => ⟨[], [], []⟩)
noncomputable def co_spec_ValidState_5 : Code := (loopsIn (bodyOf Try.f92)).getD 0 .skip
def fu_spec_ValidState_5 (v3 : Int) (b0_0 : List (ByteArray × ByteArray × Unit)) : Nat := ((b0_0.length : Int) - v3).toNat + 1
noncomputable def tr_spec_ValidState_5 {R : Type}  (NX : ((Int) × (List (ByteArray × ByteArray × Unit)) × Unit) → Option R) (X2 : (Unit) → Option R) (X1 : ((Bool) × Unit) → Option R) (v3 : Int) (b0_0 : List (ByteArray × ByteArray × Unit)) : Option R :=
  bif decide (v3 < nI (List.length b0_0)) then
    bif decide (0 ≤ v3) then
      bif decide (v3 < nI (List.length b0_0)) then
        bif !m_spec_l4KeyOk (List.getD b0_0 (Int.toNat v3) (ByteArray.mk #[], ByteArray.mk #[], ())).fst then X1 (false, ())
        else
          bif decide (0 ≤ v3) then
            bif decide (v3 < nI (List.length b0_0)) then
              bif decide (nI (ByteArray.size (List.getD b0_0 (Int.toNat v3) (ByteArray.mk #[], ByteArray.mk #[], ())).snd.fst) > 100) then X1 (false, ())
              else
                bif decide (v3 > 0) then
                  bif decide (0 ≤ IntKind.wrap IntKind.i64 (v3 - 1)) then
                    bif decide (IntKind.wrap IntKind.i64 (v3 - 1) < nI (List.length b0_0)) then
                      bif decide (0 ≤ v3) then
                        bif decide (v3 < nI (List.length b0_0)) then
                          bif
                              !Op.bytesLess (ByteArray.toList (List.getD b0_0 (Int.toNat (IntKind.wrap IntKind.i64 (v3 - 1))) (ByteArray.mk #[], ByteArray.mk #[], ())).fst)
                                  (ByteArray.toList (List.getD b0_0 (Int.toNat v3) (ByteArray.mk #[], ByteArray.mk #[], ())).fst) then
                            X1 (false, ())
                          else NX (IntKind.wrap IntKind.i64 (v3 + 1), b0_0, ())
                        else none
                      else none
                    else none
                  else none
                else NX (IntKind.wrap IntKind.i64 (v3 + 1), b0_0, ())
            else none
          else none
      else none
    else none
  else X2 PUnit.unit
noncomputable def lo_spec_ValidState_5 : Nat → (Int) → (List (ByteArray × ByteArray × Unit)) →  Option ((Unit) ⊕ ((Bool) × Unit))
  | 0, _, _ => none
  | m + 1, v3, b0_0 => tr_spec_ValidState_5  (fun d => lo_spec_ValidState_5 m d.1 d.2.1) (fun d => some (.inl (d))) (fun d => some (.inr (d))) v3 b0_0
theorem na_spec_ValidState_5 {R S : Type}  (NX : ((Int) × (List (ByteArray × ByteArray × Unit)) × Unit) → Option R) (X2 : (Unit) → Option R) (X1 : ((Bool) × Unit) → Option R) (v3 : Int) (b0_0 : List (ByteArray × ByteArray × Unit)) (f : R → Option S) : tr_spec_ValidState_5  (fun d => (NX d).bind f) (fun d => (X2 d).bind f) (fun d => (X1 d).bind f) v3 b0_0 = (tr_spec_ValidState_5  NX X2 X1 v3 b0_0).bind f := by
  unfold tr_spec_ValidState_5
  simp only [cond_bind, ite_bind, onSum_bind, Option.bind_assoc, Option.bind_none, Option.bind_some]
noncomputable def de_spec_ValidState (a0 : (List (ByteArray × ByteArray × Unit)) × Unit) : Option ((((Bool) × Unit) × (Unit))) :=
  bif decide (nI (List.length a0.fst) > 100) then some ((false, ()), ())
  else Option.bind ((fun d => lo_spec_ValidState_5 (fu_spec_ValidState_5 d.1 d.2.1) d.1 d.2.1) (0, a0.fst, ())) fun val => onSum (fun val => some ((true, ()), ())) (fun val => some ((val.fst, ()), ())) val
theorem eq_spec_ValidState (a0 : Stt) : de_spec_ValidState a0 = some ((m_spec_ValidState a0, ()), ()) := by
  unfold de_spec_ValidState m_spec_ValidState validState
  have c1 : decide (nI a0.1.length > 100) = !decide (a0.1.length ≤ 100) := gt100 _ 100
  by_cases hl : a0.1.length ≤ 100
  · have hL := all_loop (n := a0.1.length) (okPairAt a0.1) (g := fun m i => lo_spec_ValidState_5 m i a0.1) (ok := .inl ()) (bad := .inr (false, ())) (fun m i hi => by
      show lo_spec_ValidState_5 (m + 1) i a0.1 = _
      simp only [lo_spec_ValidState_5, tr_spec_ValidState_5]
      have g1 : decide (nI (ByteArray.size (List.getD a0.1 i (ByteArray.mk #[], ByteArray.mk #[], ())).2.1) > 100) = !decide (ByteArray.size (List.getD a0.1 i zP).2.1 ≤ 100) := gt100 _ 100
      rw [cLt hi, cLe0, wI (show i < 4611686018427387904 by omega), Int.toNat_natCast, gt0, g1]
      simp only [cond_true]
      unfold okPairAt bl
      show (bif !keyOk (List.getD a0.1 i zP).1 then _ else _) = _
      cases i with
      | zero =>
        show (bif !keyOk (List.getD a0.1 0 zP).1 then _ else bif !decide (ByteArray.size (List.getD a0.1 0 zP).2.1 ≤ 100) then _ else _) = _
        cases keyOk (List.getD a0.1 0 zP).1 <;> cases decide (ByteArray.size (List.getD a0.1 0 zP).2.1 ≤ 100) <;> rfl
      | succ j =>
        rw [wP j (by omega), cLe0, cLt (show j < a0.1.length by omega)]
        show (bif !keyOk (List.getD a0.1 (j + 1) zP).1 then _ else bif !decide (ByteArray.size (List.getD a0.1 (j + 1) zP).2.1 ≤ 100) then _ else bif !Op.bytesLess (ByteArray.toList (List.getD a0.1 j zP).1) (ByteArray.toList (List.getD a0.1 (j + 1) zP).1) then _ else _) = _
        rw [Nat.add_sub_cancel]
        cases keyOk (List.getD a0.1 (j + 1) zP).1 <;> cases decide (ByteArray.size (List.getD a0.1 (j + 1) zP).2.1 ≤ 100) <;> cases Op.bytesLess (ByteArray.toList (List.getD a0.1 j zP).1) (ByteArray.toList (List.getD a0.1 (j + 1) zP).1) <;> rfl) (fun m => by
      show lo_spec_ValidState_5 (m + 1) (a0.1.length : Int) a0.1 = _
      simp only [lo_spec_ValidState_5, tr_spec_ValidState_5]
      rw [cLtF]
      rfl) (fu_spec_ValidState_5 0 a0.1) 0 (by omega) (by simp [fu_spec_ValidState_5, nI])
    have hL' : lo_spec_ValidState_5 (fu_spec_ValidState_5 0 a0.1) 0 a0.1 = _ := hL
    rw [c1, decide_eq_true hl]
    show (lo_spec_ValidState_5 (fu_spec_ValidState_5 0 a0.1) 0 a0.1).bind _ = _
    rw [hL']
    cases (List.range' 0 (a0.1.length - 0)).all (okPairAt a0.1) <;> rfl
  · rw [c1, decide_eq_false hl]
    rfl
noncomputable def ou_spec_ValidState_5 {R : Type} (k : Kt R) : ((Unit) ⊕ ((Bool) × Unit)) → Option R := (onSum (fun d => k (.exit 0) (((pa_spec_ValidState 5).2 2).st d) (((pa_spec_ValidState 5).2 2).nid)) (fun d => k .ret (((pa_spec_ValidState 5).2 1).st d) (((pa_spec_ValidState 5).2 1).nid)))
noncomputable def L_spec_ValidState {R : Type} : Lt R pa_spec_ValidState := (addL (pat := pa_spec_ValidState) 5 (fun d k => (lo_spec_ValidState_5 (fu_spec_ValidState_5 d.1 d.2.1) d.1 d.2.1).bind (ou_spec_ValidState_5 k)) noL)
theorem rd_spec_ValidState_5 {R : Type} (nx : (pa_spec_ValidState 5).1.D → Kt R → Option R) (k : Kt R) (v3 : Int) (b0_0 : List (ByteArray × ByteArray × Unit)) : ev Try.prog ⟨ta_spec_ValidState, 0, 53, pa_spec_ValidState⟩ L_spec_ValidState co_spec_ValidState_5 ((pa_spec_ValidState 5).1.st (v3, b0_0, ())) (pa_spec_ValidState 5).1.nid (roundK 0 (pa_spec_ValidState 5) nx k) = tr_spec_ValidState_5  (fun d => nx d k) (fun d => k (.exit 0) (((pa_spec_ValidState 5).2 2).st d) (((pa_spec_ValidState 5).2 2).nid)) (fun d => k .ret (((pa_spec_ValidState 5).2 1).st d) (((pa_spec_ValidState 5).2 1).nid)) v3 b0_0 := by kernel_rfl
theorem lp_spec_ValidState_5 {R : Type} : ∀ (m : Nat) (d : (pa_spec_ValidState 5).1.D) (k : Kt R), loopN 0 (pa_spec_ValidState 5) (fun s nid k => ev Try.prog ⟨ta_spec_ValidState, 0, 53, pa_spec_ValidState⟩ L_spec_ValidState co_spec_ValidState_5 s nid k) m d k = (lo_spec_ValidState_5 m d.1 d.2.1).bind (ou_spec_ValidState_5 k)
  | 0, _, _ => rfl
  | m + 1, ⟨v3, b0_0, ⟨⟩⟩, k => (rd_spec_ValidState_5 _ k v3 b0_0).trans ((congrArg (fun F => tr_spec_ValidState_5  F (fun d => k (.exit 0) (((pa_spec_ValidState 5).2 2).st d) (((pa_spec_ValidState 5).2 2).nid)) (fun d => k .ret (((pa_spec_ValidState 5).2 1).st d) (((pa_spec_ValidState 5).2 1).nid)) v3 b0_0) (funext fun d => lp_spec_ValidState_5 m d k)).trans (na_spec_ValidState_5 (f := ou_spec_ValidState_5 k)  (fun d => lo_spec_ValidState_5 m d.1 d.2.1) (fun d => some (.inl (d))) (fun d => some (.inr (d))) v3 b0_0))
theorem en_spec_ValidState (a0 : (List (ByteArray × ByteArray × Unit)) × Unit) : evalF Try.prog ta_spec_ValidState pa_spec_ValidState sg_spec_ValidState Try.f92 L_spec_ValidState (a0, ()) = de_spec_ValidState a0 := by kernel_rfl
theorem si_spec_ValidState : SigsOk Try.prog ta_spec_ValidState := SigsOk.of fun f sd h => by
  try dsimp only [Tb.of, ta_spec_ValidState] at h
  split at h
  · rename_i e; subst e; cases h; exact sn_spec_l4KeyOk
  cases h
theorem lk_spec_ValidState_5 {R : Type} : LoopOk Try.prog R 53 0 pa_spec_ValidState L_spec_ValidState co_spec_ValidState_5 :=
  loop_key (cfg := ⟨ta_spec_ValidState, 0, 53, pa_spec_ValidState⟩) (key := 5) (by kernel_rfl) (by kernel_rfl) si_spec_ValidState rfl rfl (fun d k r h => ⟨fu_spec_ValidState_5 d.1 d.2.1, (lp_spec_ValidState_5 _ d k).trans h⟩) (fun c hc => by rw [show loopsIn co_spec_ValidState_5 = [] from by kernel_rfl] at hc; cases hc)
theorem sn_spec_ValidState : Callable Try.prog 92 ∧ Sound Try.prog 92 sd_spec_ValidState.sg sd_spec_ValidState.den :=
  fn_loops (pat := pa_spec_ValidState) L_spec_ValidState (by kernel_rfl) si_spec_ValidState Try.func92 (by kernel_rfl) (by kernel_rfl) (fun c hc => by rw [show loopsIn (bodyOf Try.f92) = [co_spec_ValidState_5] from by kernel_rfl] at hc; simp only [List.mem_cons, List.not_mem_nil, or_false] at hc; rcases hc with rfl <;> first | exact lk_spec_ValidState_5) fun x r h => by
    obtain ⟨a0, ⟨⟩⟩ := x; rw [← h]; exact (en_spec_ValidState a0).trans (eq_spec_ValidState a0)
def m_spec_l4Copy (s : Stt) : Option Stt := if s.1.length ≤ 1000000 then some (s.1, ()) else none
def sg_spec_l4Copy : Sig := ⟨[.rd (.pair (.sl (.pair .str (.pair .str .unit))) .unit)], [some 1], [.own 133 (.pair .str (.pair .str .unit))], [some 1]⟩
noncomputable def sd_spec_l4Copy : SD := ⟨sg_spec_l4Copy, fun x => (m_spec_l4Copy x.1).bind fun r => some ((r.1, ()), (()))⟩
noncomputable def ta_spec_l4Copy : Tb := Tb.of fun f => none
def pa_spec_l4Copy : Nat → Pat × (Nat → Pat) := fun k => (⟨[], [], []⟩, fun _ => ⟨[], [], []⟩)
noncomputable def de_spec_l4Copy (a0 : (List (ByteArray × ByteArray × Unit)) × Unit) : Option ((((List (ByteArray × ByteArray × Unit)) × Unit) × (Unit))) :=
  bif decide ((0 + List.length a0.fst) * 32 ≤ 140737488355328) then some (([] ++ a0.fst, ()), ()) else none
theorem eq_spec_l4Copy (a0 : Stt) r (h : m_spec_l4Copy a0 = some r) : de_spec_l4Copy a0 = some ((r.1, ()), (())) := by
  unfold m_spec_l4Copy at h
  split at h
  · rename_i hc
    cases h
    unfold de_spec_l4Copy
    rw [decide_eq_true (show (0 + a0.1.length) * 32 ≤ 140737488355328 by omega)]
    rfl
  · cases h
theorem en_spec_l4Copy (a0 : (List (ByteArray × ByteArray × Unit)) × Unit) : evalF Try.prog ta_spec_l4Copy pa_spec_l4Copy sg_spec_l4Copy Try.f131 noL (a0, ()) = de_spec_l4Copy a0 := by kernel_rfl
theorem si_spec_l4Copy : SigsOk Try.prog ta_spec_l4Copy := SigsOk.of fun f sd h => by
  try dsimp only [Tb.of, ta_spec_l4Copy] at h
  cases h
theorem sn_spec_l4Copy : Callable Try.prog 131 ∧ Sound Try.prog 131 sd_spec_l4Copy.sg sd_spec_l4Copy.den :=
  fn_plain (pat := pa_spec_l4Copy) (by kernel_rfl) si_spec_l4Copy Try.func131 (by kernel_rfl) (by kernel_rfl) (by kernel_rfl) fun x r h => by
    obtain ⟨a0, ⟨⟩⟩ := x; obtain ⟨y, h1, h2⟩ := Option.bind_eq_some_iff.1 (show (m_spec_l4Copy a0).bind (fun r => some ((r.1, ()), (()))) = some r from h); cases h2; exact (en_spec_l4Copy a0).trans (eq_spec_l4Copy a0 _ h1)
def m_spec_l4Change (s : Stt) (c : Chg) : Option Stt := if s.1.length ≤ 1000000 then some (chgS c s.1, ()) else none
def sg_spec_l4Change : Sig := ⟨[.rd (.pair (.sl (.pair .str (.pair .str .unit))) .unit), .rd (.pair .str (.pair .str (.pair .bool .unit)))], [some 1, some 3], [.own 133 (.pair .str (.pair .str .unit))], [some 1]⟩
noncomputable def sd_spec_l4Change : SD := ⟨sg_spec_l4Change, fun x => (m_spec_l4Change x.1 x.2.1).bind fun r => some ((r.1, ()), (()))⟩
noncomputable def ta_spec_l4Change : Tb := Tb.of fun f => none
def pa_spec_l4Change : Nat → Pat × (Nat → Pat) := fun k => if k = 5 then (⟨[.boxSl 2 0 (.pair .str (.pair .str .unit)), .boxRow 4 0 133 (.pair .str (.pair .str .unit)), .boxRow 5 0 133 (.pair .str (.pair .str .unit))], [(2, .lf (.ptr 0 0)), (3, .lf (.ptr 1 0)), (4, .lf (.ptr 2 0)), (5, .lf (.ptr 3 0)), (6, .lf (.d .bool)), (7, .lf (.d (.int .i64)))], [.box 30 [.d (.sl (.pair .str (.pair .str .unit)))], .box 135 [.d .str, .d .str, .d .bool], .box 30 [.row 4], .box 30 [.row 5], .row 133 (.pair .str (.pair .str .unit)), .row 133 (.pair .str (.pair .str .unit))]⟩, fun e => if e = 2 then ⟨[.boxRow 4 0 133 (.pair .str (.pair .str .unit)), .boxRow 5 0 133 (.pair .str (.pair .str .unit))], [(3, .lf (.ptr 0 0)), (4, .lf (.ptr 1 0)), (5, .lf (.ptr 2 0)), (6, .lf (.d .bool))], [.box 135 [.d .str, .d .str, .d .bool], .box 30 [.row 3], .box 30 [.row 4], .row 133 (.pair .str (.pair .str .unit)), .row 133 (.pair .str (.pair .str .unit))]⟩ else ⟨[], [], []⟩) else (⟨[], [], []⟩, fun _ => ⟨[], [], []⟩)
noncomputable def co_spec_l4Change_5 : Code := (loopsIn (bodyOf Try.f141)).getD 0 .skip
def fu_spec_l4Change_5 (v6 : Bool) (v7 : Int) (b0_0 : List (ByteArray × ByteArray × Unit)) (b1_0 : ByteArray) (b1_1 : ByteArray) (b1_2 : Bool) (r4 : List (ByteArray × ByteArray × Unit)) (r5 : List (ByteArray × ByteArray × Unit)) : Nat := ((b0_0.length : Int) - v7).toNat + 1
noncomputable def tr_spec_l4Change_5 {R : Type}  (NX : ((Bool) × (Int) × (List (ByteArray × ByteArray × Unit)) × (ByteArray) × (ByteArray) × (Bool) × (List (ByteArray × ByteArray × Unit)) × (List (ByteArray × ByteArray × Unit)) × Unit) → Option R) (X2 : ((Bool) × (ByteArray) × (ByteArray) × (Bool) × (List (ByteArray × ByteArray × Unit)) × (List (ByteArray × ByteArray × Unit)) × Unit) → Option R) (v6 : Bool) (v7 : Int) (b0_0 : List (ByteArray × ByteArray × Unit)) (b1_0 : ByteArray) (b1_1 : ByteArray) (b1_2 : Bool) (r4 : List (ByteArray × ByteArray × Unit)) (r5 : List (ByteArray × ByteArray × Unit)) : Option R :=
  bif decide (v7 < nI (List.length b0_0)) then
    bif !v6 then
      bif decide (0 ≤ v7) then
        bif decide (v7 < nI (List.length b0_0)) then
          bif
              !(Op.bytesLess (ByteArray.toList (List.getD b0_0 (Int.toNat v7) (ByteArray.mk #[], ByteArray.mk #[], ())).fst) (ByteArray.toList b1_0) ||
                  ByteArray.toList (List.getD b0_0 (Int.toNat v7) (ByteArray.mk #[], ByteArray.mk #[], ())).fst == ByteArray.toList b1_0) then
            bif decide ((List.length r5 + List.length [(b1_0, b1_1, ())]) * 32 ≤ 140737488355328) then
              bif decide (0 ≤ v7) then
                bif decide (v7 < nI (List.length b0_0)) then
                  bif !ByteArray.toList (List.getD b0_0 (Int.toNat v7) (ByteArray.mk #[], ByteArray.mk #[], ())).fst == ByteArray.toList b1_0 then
                    bif decide (0 ≤ v7) then
                      bif decide (v7 < nI (List.length b0_0)) then
                        bif
                            decide
                              ((List.length (r5 ++ [(b1_0, b1_1, ())]) +
                                    List.length
                                      [((List.getD b0_0 (Int.toNat v7) (ByteArray.mk #[], ByteArray.mk #[], ())).fst, (List.getD b0_0 (Int.toNat v7) (ByteArray.mk #[], ByteArray.mk #[], ())).snd.fst,
                                          ())]) *
                                  32 ≤
                                140737488355328) then
                          NX
                            (true, IntKind.wrap IntKind.i64 (v7 + 1), b0_0, b1_0, b1_1, b1_2, r4,
                              r5 ++ [(b1_0, b1_1, ())] ++
                                [((List.getD b0_0 (Int.toNat v7) (ByteArray.mk #[], ByteArray.mk #[], ())).fst, (List.getD b0_0 (Int.toNat v7) (ByteArray.mk #[], ByteArray.mk #[], ())).snd.fst, ())],
                              ())
                        else none
                      else none
                    else none
                  else NX (true, IntKind.wrap IntKind.i64 (v7 + 1), b0_0, b1_0, b1_1, b1_2, r4, r5 ++ [(b1_0, b1_1, ())], ())
                else none
              else none
            else none
          else
            bif decide (0 ≤ v7) then
              bif decide (v7 < nI (List.length b0_0)) then
                bif !ByteArray.toList (List.getD b0_0 (Int.toNat v7) (ByteArray.mk #[], ByteArray.mk #[], ())).fst == ByteArray.toList b1_0 then
                  bif decide (0 ≤ v7) then
                    bif decide (v7 < nI (List.length b0_0)) then
                      bif
                          decide
                            ((List.length r5 +
                                  List.length
                                    [((List.getD b0_0 (Int.toNat v7) (ByteArray.mk #[], ByteArray.mk #[], ())).fst, (List.getD b0_0 (Int.toNat v7) (ByteArray.mk #[], ByteArray.mk #[], ())).snd.fst,
                                        ())]) *
                                32 ≤
                              140737488355328) then
                        NX
                          (v6, IntKind.wrap IntKind.i64 (v7 + 1), b0_0, b1_0, b1_1, b1_2, r4,
                            r5 ++ [((List.getD b0_0 (Int.toNat v7) (ByteArray.mk #[], ByteArray.mk #[], ())).fst, (List.getD b0_0 (Int.toNat v7) (ByteArray.mk #[], ByteArray.mk #[], ())).snd.fst, ())],
                            ())
                      else none
                    else none
                  else none
                else NX (v6, IntKind.wrap IntKind.i64 (v7 + 1), b0_0, b1_0, b1_1, b1_2, r4, r5, ())
              else none
            else none
        else none
      else none
    else
      bif decide (0 ≤ v7) then
        bif decide (v7 < nI (List.length b0_0)) then
          bif !ByteArray.toList (List.getD b0_0 (Int.toNat v7) (ByteArray.mk #[], ByteArray.mk #[], ())).fst == ByteArray.toList b1_0 then
            bif decide (0 ≤ v7) then
              bif decide (v7 < nI (List.length b0_0)) then
                bif
                    decide
                      ((List.length r5 +
                            List.length
                              [((List.getD b0_0 (Int.toNat v7) (ByteArray.mk #[], ByteArray.mk #[], ())).fst, (List.getD b0_0 (Int.toNat v7) (ByteArray.mk #[], ByteArray.mk #[], ())).snd.fst, ())]) *
                          32 ≤
                        140737488355328) then
                  NX
                    (v6, IntKind.wrap IntKind.i64 (v7 + 1), b0_0, b1_0, b1_1, b1_2, r4,
                      r5 ++ [((List.getD b0_0 (Int.toNat v7) (ByteArray.mk #[], ByteArray.mk #[], ())).fst, (List.getD b0_0 (Int.toNat v7) (ByteArray.mk #[], ByteArray.mk #[], ())).snd.fst, ())], ())
                else none
              else none
            else none
          else NX (v6, IntKind.wrap IntKind.i64 (v7 + 1), b0_0, b1_0, b1_1, b1_2, r4, r5, ())
        else none
      else none
  else X2 (v6, b1_0, b1_1, b1_2, r4, r5, ())
noncomputable def lo_spec_l4Change_5 : Nat → (Bool) → (Int) → (List (ByteArray × ByteArray × Unit)) → (ByteArray) → (ByteArray) → (Bool) → (List (ByteArray × ByteArray × Unit)) → (List (ByteArray × ByteArray × Unit)) →  Option ((Bool) × (ByteArray) × (ByteArray) × (Bool) × (List (ByteArray × ByteArray × Unit)) × (List (ByteArray × ByteArray × Unit)) × Unit)
  | 0, _, _, _, _, _, _, _, _ => none
  | m + 1, v6, v7, b0_0, b1_0, b1_1, b1_2, r4, r5 => tr_spec_l4Change_5  (fun d => lo_spec_l4Change_5 m d.1 d.2.1 d.2.2.1 d.2.2.2.1 d.2.2.2.2.1 d.2.2.2.2.2.1 d.2.2.2.2.2.2.1 d.2.2.2.2.2.2.2.1) (fun d => some (d)) v6 v7 b0_0 b1_0 b1_1 b1_2 r4 r5
theorem na_spec_l4Change_5 {R S : Type}  (NX : ((Bool) × (Int) × (List (ByteArray × ByteArray × Unit)) × (ByteArray) × (ByteArray) × (Bool) × (List (ByteArray × ByteArray × Unit)) × (List (ByteArray × ByteArray × Unit)) × Unit) → Option R) (X2 : ((Bool) × (ByteArray) × (ByteArray) × (Bool) × (List (ByteArray × ByteArray × Unit)) × (List (ByteArray × ByteArray × Unit)) × Unit) → Option R) (v6 : Bool) (v7 : Int) (b0_0 : List (ByteArray × ByteArray × Unit)) (b1_0 : ByteArray) (b1_1 : ByteArray) (b1_2 : Bool) (r4 : List (ByteArray × ByteArray × Unit)) (r5 : List (ByteArray × ByteArray × Unit)) (f : R → Option S) : tr_spec_l4Change_5  (fun d => (NX d).bind f) (fun d => (X2 d).bind f) v6 v7 b0_0 b1_0 b1_1 b1_2 r4 r5 = (tr_spec_l4Change_5  NX X2 v6 v7 b0_0 b1_0 b1_1 b1_2 r4 r5).bind f := by
  unfold tr_spec_l4Change_5
  simp only [cond_bind, ite_bind, onSum_bind, Option.bind_assoc, Option.bind_none, Option.bind_some]
noncomputable def de_spec_l4Change (a0 : (List (ByteArray × ByteArray × Unit)) × Unit) (a1 : ByteArray × ByteArray × Bool × Unit) : Option ((((List (ByteArray × ByteArray × Unit)) × Unit) × (Unit))) :=
  Option.bind ((fun d => lo_spec_l4Change_5 (fu_spec_l4Change_5 d.1 d.2.1 d.2.2.1 d.2.2.2.1 d.2.2.2.2.1 d.2.2.2.2.2.1 d.2.2.2.2.2.2.1 d.2.2.2.2.2.2.2.1) d.1 d.2.1 d.2.2.1 d.2.2.2.1 d.2.2.2.2.1 d.2.2.2.2.2.1 d.2.2.2.2.2.2.1 d.2.2.2.2.2.2.2.1) (a1.snd.snd.fst, 0, a0.fst, a1.fst, a1.snd.fst, a1.snd.snd.fst, [], [], ())) fun val =>
    bif !val.fst then
      bif decide ((List.length val.snd.snd.snd.snd.snd.fst + List.length [(val.snd.fst, val.snd.snd.fst, ())]) * 32 ≤ 140737488355328) then
        some ((val.snd.snd.snd.snd.snd.fst ++ [(val.snd.fst, val.snd.snd.fst, ())], ()), ())
      else none
    else some ((val.snd.snd.snd.snd.snd.fst, ()), ())
theorem eq_spec_l4Change (a0 : (List (ByteArray × ByteArray × Unit)) × Unit) (a1 : ByteArray × ByteArray × Bool × Unit) r (h : m_spec_l4Change a0 a1 = some r) : de_spec_l4Change a0 a1 = some ((r.1, ()), (())) := by
  unfold m_spec_l4Change at h
  split at h
  rotate_left
  · cases h
  rename_i hlen
  cases h
  unfold de_spec_l4Change
  have hL := foldi_loop (xs := a0.1) zP (fun i (s : Bool × List Pr2) => i ≤ 1000000 ∧ s.2.length ≤ 2 * i) (fun _ p s => cgStep a1.1 a1.2.1 p s) (g := fun m i s => lo_spec_l4Change_5 m s.1 i a0.1 a1.1 a1.2.1 a1.2.2.1 [] s.2) (ok := fun s => (s.1, a1.1, a1.2.1, a1.2.2.1, [], s.2, ())) (fun m i s hi hI => by
      show lo_spec_l4Change_5 (m + 1) s.1 i a0.1 a1.1 a1.2.1 a1.2.2.1 [] s.2 = _
      obtain ⟨d, out⟩ := s
      obtain ⟨h1, h2⟩ := hI
      simp only at h2 ⊢
      simp only [lo_spec_l4Change_5, tr_spec_l4Change_5]
      have e1 : decide ((out.length + 1) * 32 ≤ 140737488355328) = true := decide_eq_true (by omega)
      have e2 : decide ((out.length + 1 + 1) * 32 ≤ 140737488355328) = true := decide_eq_true (by omega)
      rw [cLt hi, cLe0, wI (show i < 4611686018427387904 by omega), Int.toNat_natCast]
      simp only [cond_true, List.length_singleton, List.length_append, e1, e2]
      unfold cgStep gtS bl
      show (bif !d then (bif !(Op.bytesLess (List.getD a0.1 i zP).1.toList a1.1.toList || (List.getD a0.1 i zP).1.toList == a1.1.toList) then _ else _) else _) = _
      cases d with
      | true =>
        simp only [Bool.not_true, Bool.false_and, cond_false]
        show (bif !((List.getD a0.1 i zP).1.toList == a1.1.toList) then _ else _) = _
        cases ((List.getD a0.1 i zP).1.toList == a1.1.toList) <;> rfl
      | false =>
        simp only [Bool.not_false, Bool.true_and, cond_true]
        cases hq : !(Op.bytesLess (List.getD a0.1 i zP).1.toList a1.1.toList || (List.getD a0.1 i zP).1.toList == a1.1.toList) with
        | true =>
          simp only [cond_true]
          show (bif !((List.getD a0.1 i zP).1.toList == a1.1.toList) then _ else _) = _
          cases ((List.getD a0.1 i zP).1.toList == a1.1.toList) <;> rfl
        | false =>
          simp only [cond_false]
          show (bif !((List.getD a0.1 i zP).1.toList == a1.1.toList) then _ else _) = _
          cases ((List.getD a0.1 i zP).1.toList == a1.1.toList) <;> rfl) (fun i s hi hI => ⟨by omega, by have := cgStep_len a1.1 a1.2.1 (a0.1.getD i zP) s; omega⟩) (fun m s hI => by
      show lo_spec_l4Change_5 (m + 1) s.1 (a0.1.length : Int) a0.1 a1.1 a1.2.1 a1.2.2.1 [] s.2 = _
      simp only [lo_spec_l4Change_5, tr_spec_l4Change_5]
      rw [cLtF]
      rfl) (fu_spec_l4Change_5 a1.2.2.1 0 a0.1 a1.1 a1.2.1 a1.2.2.1 [] []) 0 (a1.2.2.1, []) (by omega) (by simp [fu_spec_l4Change_5, nI]) ⟨by omega, Nat.le_refl _⟩
  have hE := cg_fold a1.1 a1.2.1 a0.1 0 (a1.2.2.1, [])
  have hB : (foldI (fun _ p s => cgStep a1.1 a1.2.1 p s) 0 a0.1 (a1.2.2.1, [])).2.length ≤ 2 * a0.1.length := by
    have := foldI_mem zP (fun i (s : Bool × List Pr2) => s.2.length ≤ 2 * i) (fun _ p s => cgStep a1.1 a1.2.1 p s) (xs := a0.1) (fun i s hi hI => by have := cgStep_len a1.1 a1.2.1 (a0.1.getD i zP) s; omega) a0.1.length 0 (a1.2.2.1, []) (by omega) (Nat.le_refl _)
    exact this
  rw [List.drop_zero] at hL
  refine bindOf hL ?_
  dsimp only
  generalize foldI (fun _ p s => cgStep a1.1 a1.2.1 p s) 0 a0.1 (a1.2.2.1, []) = q at hE hB
  obtain ⟨d, out⟩ := q
  simp only at hB
  simp only [List.nil_append] at hE
  show _ = some ((chgGo a1.1 a1.2.1 a1.2.2.1 a0.1, ()), ())
  rw [← hE]
  unfold cgEnd
  have e1 : decide ((out.length + 1) * 32 ≤ 140737488355328) = true := decide_eq_true (by omega)
  cases d with
  | true => rfl
  | false =>
    simp only [Bool.not_false, cond_true, cond_false, List.length_singleton, e1]
noncomputable def ou_spec_l4Change_5 {R : Type} (k : Kt R) : ((Bool) × (ByteArray) × (ByteArray) × (Bool) × (List (ByteArray × ByteArray × Unit)) × (List (ByteArray × ByteArray × Unit)) × Unit) → Option R := (fun d => k (.exit 0) (((pa_spec_l4Change 5).2 2).st d) (((pa_spec_l4Change 5).2 2).nid))
noncomputable def L_spec_l4Change {R : Type} : Lt R pa_spec_l4Change := (addL (pat := pa_spec_l4Change) 5 (fun d k => (lo_spec_l4Change_5 (fu_spec_l4Change_5 d.1 d.2.1 d.2.2.1 d.2.2.2.1 d.2.2.2.2.1 d.2.2.2.2.2.1 d.2.2.2.2.2.2.1 d.2.2.2.2.2.2.2.1) d.1 d.2.1 d.2.2.1 d.2.2.2.1 d.2.2.2.2.1 d.2.2.2.2.2.1 d.2.2.2.2.2.2.1 d.2.2.2.2.2.2.2.1).bind (ou_spec_l4Change_5 k)) noL)
theorem rd_spec_l4Change_5 {R : Type} (nx : (pa_spec_l4Change 5).1.D → Kt R → Option R) (k : Kt R) (v6 : Bool) (v7 : Int) (b0_0 : List (ByteArray × ByteArray × Unit)) (b1_0 : ByteArray) (b1_1 : ByteArray) (b1_2 : Bool) (r4 : List (ByteArray × ByteArray × Unit)) (r5 : List (ByteArray × ByteArray × Unit)) : ev Try.prog ⟨ta_spec_l4Change, 0, 73, pa_spec_l4Change⟩ L_spec_l4Change co_spec_l4Change_5 ((pa_spec_l4Change 5).1.st (v6, v7, b0_0, b1_0, b1_1, b1_2, r4, r5, ())) (pa_spec_l4Change 5).1.nid (roundK 0 (pa_spec_l4Change 5) nx k) = tr_spec_l4Change_5  (fun d => nx d k) (fun d => k (.exit 0) (((pa_spec_l4Change 5).2 2).st d) (((pa_spec_l4Change 5).2 2).nid)) v6 v7 b0_0 b1_0 b1_1 b1_2 r4 r5 := by kernel_rfl
theorem lp_spec_l4Change_5 {R : Type} : ∀ (m : Nat) (d : (pa_spec_l4Change 5).1.D) (k : Kt R), loopN 0 (pa_spec_l4Change 5) (fun s nid k => ev Try.prog ⟨ta_spec_l4Change, 0, 73, pa_spec_l4Change⟩ L_spec_l4Change co_spec_l4Change_5 s nid k) m d k = (lo_spec_l4Change_5 m d.1 d.2.1 d.2.2.1 d.2.2.2.1 d.2.2.2.2.1 d.2.2.2.2.2.1 d.2.2.2.2.2.2.1 d.2.2.2.2.2.2.2.1).bind (ou_spec_l4Change_5 k)
  | 0, _, _ => rfl
  | m + 1, ⟨v6, v7, b0_0, b1_0, b1_1, b1_2, r4, r5, ⟨⟩⟩, k => (rd_spec_l4Change_5 _ k v6 v7 b0_0 b1_0 b1_1 b1_2 r4 r5).trans ((congrArg (fun F => tr_spec_l4Change_5  F (fun d => k (.exit 0) (((pa_spec_l4Change 5).2 2).st d) (((pa_spec_l4Change 5).2 2).nid)) v6 v7 b0_0 b1_0 b1_1 b1_2 r4 r5) (funext fun d => lp_spec_l4Change_5 m d k)).trans (na_spec_l4Change_5 (f := ou_spec_l4Change_5 k)  (fun d => lo_spec_l4Change_5 m d.1 d.2.1 d.2.2.1 d.2.2.2.1 d.2.2.2.2.1 d.2.2.2.2.2.1 d.2.2.2.2.2.2.1 d.2.2.2.2.2.2.2.1) (fun d => some (d)) v6 v7 b0_0 b1_0 b1_1 b1_2 r4 r5))
theorem en_spec_l4Change (a0 : (List (ByteArray × ByteArray × Unit)) × Unit) (a1 : ByteArray × ByteArray × Bool × Unit) : evalF Try.prog ta_spec_l4Change pa_spec_l4Change sg_spec_l4Change Try.f141 L_spec_l4Change (a0, a1, ()) = de_spec_l4Change a0 a1 := by kernel_rfl
theorem si_spec_l4Change : SigsOk Try.prog ta_spec_l4Change := SigsOk.of fun f sd h => by
  try dsimp only [Tb.of, ta_spec_l4Change] at h
  cases h
theorem lk_spec_l4Change_5 {R : Type} : LoopOk Try.prog R 73 0 pa_spec_l4Change L_spec_l4Change co_spec_l4Change_5 :=
  loop_key (cfg := ⟨ta_spec_l4Change, 0, 73, pa_spec_l4Change⟩) (key := 5) (by kernel_rfl) (by kernel_rfl) si_spec_l4Change rfl rfl (fun d k r h => ⟨fu_spec_l4Change_5 d.1 d.2.1 d.2.2.1 d.2.2.2.1 d.2.2.2.2.1 d.2.2.2.2.2.1 d.2.2.2.2.2.2.1 d.2.2.2.2.2.2.2.1, (lp_spec_l4Change_5 _ d k).trans h⟩) (fun c hc => by rw [show loopsIn co_spec_l4Change_5 = [] from by kernel_rfl] at hc; cases hc)
theorem sn_spec_l4Change : Callable Try.prog 141 ∧ Sound Try.prog 141 sd_spec_l4Change.sg sd_spec_l4Change.den :=
  fn_loops (pat := pa_spec_l4Change) L_spec_l4Change (by kernel_rfl) si_spec_l4Change Try.func141 (by kernel_rfl) (by kernel_rfl) (fun c hc => by rw [show loopsIn (bodyOf Try.f141) = [co_spec_l4Change_5] from by kernel_rfl] at hc; simp only [List.mem_cons, List.not_mem_nil, or_false] at hc; rcases hc with rfl <;> first | exact lk_spec_l4Change_5) fun x r h => by
    obtain ⟨a0, a1, ⟨⟩⟩ := x; obtain ⟨y, h1, h2⟩ := Option.bind_eq_some_iff.1 (show (m_spec_l4Change a0 a1).bind (fun r => some ((r.1, ()), (()))) = some r from h); cases h2; exact (en_spec_l4Change a0 a1).trans (eq_spec_l4Change a0 a1 _ h1)
def m_spec_Apply (s : Stt) (b : List Chg) : Stt × Int := applyS s b
def sg_spec_Apply : Sig := ⟨[.rd (.pair (.sl (.pair .str (.pair .str .unit))) .unit), .rd (.sl (.pair .str (.pair .str (.pair .bool .unit))))], [some 1, none], [.own 133 (.pair .str (.pair .str .unit)), .rd (.int .i64)], [some 1, none]⟩
noncomputable def sd_spec_Apply : SD := ⟨sg_spec_Apply, fun x => some (((m_spec_Apply x.1 x.2.1).1.1, (m_spec_Apply x.1 x.2.1).2, ()), (()))⟩
noncomputable def ta_spec_Apply : Tb := Tb.of fun f => if f = 72 then some sd_spec_ValidBatch else if f = 92 then some sd_spec_ValidState else if f = 131 then some sd_spec_l4Copy else if f = 141 then some sd_spec_l4Change else none
def pa_spec_Apply : Nat → Pat × (Nat → Pat) := fun k => if k = 6 then (⟨[.sl 1 0 (.pair .str (.pair .str (.pair .bool .unit))), .boxRow 4 0 133 (.pair .str (.pair .str .unit)), .boxRow 6 0 133 (.pair .str (.pair .str .unit))], [(1, .lf (.d (.sl (.pair .str (.pair .str (.pair .bool .unit)))))), (4, .lf (.ptr 0 0)), (6, .lf (.ptr 1 0)), (7, .lf (.d (.int .i64)))], [.box 30 [.row 2], .box 30 [.row 3], .row 133 (.pair .str (.pair .str .unit)), .row 133 (.pair .str (.pair .str .unit))]⟩, fun e => if e = 2 then ⟨[.boxRow 4 0 133 (.pair .str (.pair .str .unit)), .boxRow 6 0 133 (.pair .str (.pair .str .unit))], [(4, .lf (.ptr 0 0)), (6, .lf (.ptr 1 0))], [.box 30 [.row 2], .box 30 [.row 3], .row 133 (.pair .str (.pair .str .unit)), .row 133 (.pair .str (.pair .str .unit))]⟩ else ⟨[], [], []⟩) else (⟨[], [], []⟩, fun _ => ⟨[], [], []⟩)
noncomputable def co_spec_Apply_6 : Code := (loopsIn (bodyOf Try.f63)).getD 0 .skip
def fu_spec_Apply_6 (v1 : List (ByteArray × ByteArray × Bool × Unit)) (v7 : Int) (r2 : List (ByteArray × ByteArray × Unit)) (r3 : List (ByteArray × ByteArray × Unit)) : Nat := ((v1.length : Int) - v7).toNat + 1
noncomputable def tr_spec_Apply_6 {R : Type}  (NX : ((List (ByteArray × ByteArray × Bool × Unit)) × (Int) × (List (ByteArray × ByteArray × Unit)) × (List (ByteArray × ByteArray × Unit)) × Unit) → Option R) (X2 : ((List (ByteArray × ByteArray × Unit)) × (List (ByteArray × ByteArray × Unit)) × Unit) → Option R) (v1 : List (ByteArray × ByteArray × Bool × Unit)) (v7 : Int) (r2 : List (ByteArray × ByteArray × Unit)) (r3 : List (ByteArray × ByteArray × Unit)) : Option R :=
  bif decide (v7 < nI (List.length v1)) then
    bif decide (0 ≤ v7) then
      bif decide (v7 < nI (List.length v1)) then
        Option.bind
          (Option.bind
            (m_spec_l4Change (r3, ())
              ((List.getD v1 (Int.toNat v7) (ByteArray.mk #[], ByteArray.mk #[], false, ())).fst, (List.getD v1 (Int.toNat v7) (ByteArray.mk #[], ByteArray.mk #[], false, ())).snd.fst,
                (List.getD v1 (Int.toNat v7) (ByteArray.mk #[], ByteArray.mk #[], false, ())).snd.snd.fst, ()))
            fun val => some ((val.fst, ()), ()))
          fun val => NX (v1, IntKind.wrap IntKind.i64 (v7 + 1), r2, val.fst.fst, ())
      else none
    else none
  else X2 (r2, r3, ())
noncomputable def lo_spec_Apply_6 : Nat → (List (ByteArray × ByteArray × Bool × Unit)) → (Int) → (List (ByteArray × ByteArray × Unit)) → (List (ByteArray × ByteArray × Unit)) →  Option ((List (ByteArray × ByteArray × Unit)) × (List (ByteArray × ByteArray × Unit)) × Unit)
  | 0, _, _, _, _ => none
  | m + 1, v1, v7, r2, r3 => tr_spec_Apply_6  (fun d => lo_spec_Apply_6 m d.1 d.2.1 d.2.2.1 d.2.2.2.1) (fun d => some (d)) v1 v7 r2 r3
theorem na_spec_Apply_6 {R S : Type}  (NX : ((List (ByteArray × ByteArray × Bool × Unit)) × (Int) × (List (ByteArray × ByteArray × Unit)) × (List (ByteArray × ByteArray × Unit)) × Unit) → Option R) (X2 : ((List (ByteArray × ByteArray × Unit)) × (List (ByteArray × ByteArray × Unit)) × Unit) → Option R) (v1 : List (ByteArray × ByteArray × Bool × Unit)) (v7 : Int) (r2 : List (ByteArray × ByteArray × Unit)) (r3 : List (ByteArray × ByteArray × Unit)) (f : R → Option S) : tr_spec_Apply_6  (fun d => (NX d).bind f) (fun d => (X2 d).bind f) v1 v7 r2 r3 = (tr_spec_Apply_6  NX X2 v1 v7 r2 r3).bind f := by
  unfold tr_spec_Apply_6
  simp only [cond_bind, ite_bind, onSum_bind, Option.bind_assoc, Option.bind_none, Option.bind_some]
noncomputable def de_spec_Apply (a0 : (List (ByteArray × ByteArray × Unit)) × Unit) (a1 : List (ByteArray × ByteArray × Bool × Unit)) : Option ((((List (ByteArray × ByteArray × Unit)) × (Int) × Unit) × (Unit))) :=
  bif !m_spec_ValidState (a0.fst, ()) then some (([], 1, ()), ())
  else
    bif !m_spec_ValidBatch a1 then some (([], 1, ()), ())
    else
      Option.bind (Option.bind (m_spec_l4Copy (a0.fst, ())) fun val => some ((val.fst, ()), ())) fun val =>
        Option.bind ((fun d => lo_spec_Apply_6 (fu_spec_Apply_6 d.1 d.2.1 d.2.2.1 d.2.2.2.1) d.1 d.2.1 d.2.2.1 d.2.2.2.1) (a1, 0, [], val.fst.fst, ())) fun val => bif decide (nI (List.length val.snd.fst) > 100) then some (([], 2, ()), ()) else some ((val.snd.fst, 0, ()), ())
theorem sapply_loop6 (b : List Chg) (xs : List Pr2) (hb : b.length ≤ 20) (hx : xs.length ≤ 100) : lo_spec_Apply_6 (fu_spec_Apply_6 b 0 [] xs) b 0 [] xs = some ([], applyGo xs b, ()) := by
  have hL := foldi_loop (xs := b) zC (fun i (l : List Pr2) => i ≤ 20 ∧ l.length ≤ 100 + i) (fun _ c l => chgS c l) (g := fun m i l => lo_spec_Apply_6 m b i [] l) (ok := fun l => ([], l, ())) (fun m i l hi hI => by
      show lo_spec_Apply_6 (m + 1) b i [] l = _
      simp only [lo_spec_Apply_6, tr_spec_Apply_6]
      rw [cLt hi, cLe0, wI (show i < 4611686018427387904 by omega), Int.toNat_natCast]
      simp only [cond_true]
      have e1 : m_spec_l4Change (l, ()) ((List.getD b i zC).1, (List.getD b i zC).2.1, (List.getD b i zC).2.2.1, ()) = some (chgS (List.getD b i zC) l, ()) := if_pos (by show l.length ≤ 1000000; omega)
      refine (congrArg (fun y => Option.bind (Option.bind y _) _) e1).trans ?_
      rfl) (fun i l hi hI => ⟨by omega, by have := chg_len (b.getD i zC) l; omega⟩) (fun m l hI => by
      show lo_spec_Apply_6 (m + 1) b (b.length : Int) [] l = _
      simp only [lo_spec_Apply_6, tr_spec_Apply_6]
      rw [cLtF]
      rfl) (fu_spec_Apply_6 b 0 [] xs) 0 xs (by omega) (by simp [fu_spec_Apply_6, nI]) ⟨by omega, by omega⟩
  rw [List.drop_zero] at hL
  exact hL
theorem eq_spec_Apply (a0 : (List (ByteArray × ByteArray × Unit)) × Unit) (a1 : List (ByteArray × ByteArray × Bool × Unit)) : de_spec_Apply a0 a1 = some (((m_spec_Apply a0 a1).1.1, (m_spec_Apply a0 a1).2, ()), (())) := by
  unfold de_spec_Apply m_spec_Apply applyS
  show (bif !validState a0 then _ else bif !validBatch a1 then _ else _) = _
  cases hv : validState a0 with
  | false => rfl
  | true =>
    cases hb : validBatch a1 with
    | false => rfl
    | true =>
      simp only [Bool.not_true, cond_false]
      have hl := validState_len hv
      have hb2 := inB_r (and2 hb).1
      have e1 : m_spec_l4Copy (a0.1, ()) = some (a0.1, ()) := if_pos (Nat.le_trans hl (by decide))
      rw [e1]
      simp only [Option.bind_some]
      refine bindOf (sapply_loop6 a1 a0.1 (by omega) hl) ?_
      dsimp only
      by_cases q : (applyGo a0.1 a1).length > 100
      · rw [decide_eq_true (show nI (applyGo a0.1 a1).length > 100 by simp only [nI]; omega), decide_eq_true q]
        rfl
      · rw [decide_eq_false (show ¬ nI (applyGo a0.1 a1).length > 100 by simp only [nI]; omega), decide_eq_false q]
        rfl
noncomputable def ou_spec_Apply_6 {R : Type} (k : Kt R) : ((List (ByteArray × ByteArray × Unit)) × (List (ByteArray × ByteArray × Unit)) × Unit) → Option R := (fun d => k (.exit 0) (((pa_spec_Apply 6).2 2).st d) (((pa_spec_Apply 6).2 2).nid))
noncomputable def L_spec_Apply {R : Type} : Lt R pa_spec_Apply := (addL (pat := pa_spec_Apply) 6 (fun d k => (lo_spec_Apply_6 (fu_spec_Apply_6 d.1 d.2.1 d.2.2.1 d.2.2.2.1) d.1 d.2.1 d.2.2.1 d.2.2.2.1).bind (ou_spec_Apply_6 k)) noL)
theorem rd_spec_Apply_6 {R : Type} (nx : (pa_spec_Apply 6).1.D → Kt R → Option R) (k : Kt R) (v1 : List (ByteArray × ByteArray × Bool × Unit)) (v7 : Int) (r2 : List (ByteArray × ByteArray × Unit)) (r3 : List (ByteArray × ByteArray × Unit)) : ev Try.prog ⟨ta_spec_Apply, 0, 37, pa_spec_Apply⟩ L_spec_Apply co_spec_Apply_6 ((pa_spec_Apply 6).1.st (v1, v7, r2, r3, ())) (pa_spec_Apply 6).1.nid (roundK 0 (pa_spec_Apply 6) nx k) = tr_spec_Apply_6  (fun d => nx d k) (fun d => k (.exit 0) (((pa_spec_Apply 6).2 2).st d) (((pa_spec_Apply 6).2 2).nid)) v1 v7 r2 r3 := by kernel_rfl
theorem lp_spec_Apply_6 {R : Type} : ∀ (m : Nat) (d : (pa_spec_Apply 6).1.D) (k : Kt R), loopN 0 (pa_spec_Apply 6) (fun s nid k => ev Try.prog ⟨ta_spec_Apply, 0, 37, pa_spec_Apply⟩ L_spec_Apply co_spec_Apply_6 s nid k) m d k = (lo_spec_Apply_6 m d.1 d.2.1 d.2.2.1 d.2.2.2.1).bind (ou_spec_Apply_6 k)
  | 0, _, _ => rfl
  | m + 1, ⟨v1, v7, r2, r3, ⟨⟩⟩, k => (rd_spec_Apply_6 _ k v1 v7 r2 r3).trans ((congrArg (fun F => tr_spec_Apply_6  F (fun d => k (.exit 0) (((pa_spec_Apply 6).2 2).st d) (((pa_spec_Apply 6).2 2).nid)) v1 v7 r2 r3) (funext fun d => lp_spec_Apply_6 m d k)).trans (na_spec_Apply_6 (f := ou_spec_Apply_6 k)  (fun d => lo_spec_Apply_6 m d.1 d.2.1 d.2.2.1 d.2.2.2.1) (fun d => some (d)) v1 v7 r2 r3))
theorem en_spec_Apply (a0 : (List (ByteArray × ByteArray × Unit)) × Unit) (a1 : List (ByteArray × ByteArray × Bool × Unit)) : evalF Try.prog ta_spec_Apply pa_spec_Apply sg_spec_Apply Try.f63 L_spec_Apply (a0, a1, ()) = de_spec_Apply a0 a1 := by kernel_rfl
theorem si_spec_Apply : SigsOk Try.prog ta_spec_Apply := SigsOk.of fun f sd h => by
  try dsimp only [Tb.of, ta_spec_Apply] at h
  split at h
  · rename_i e; subst e; cases h; exact sn_spec_ValidBatch
  split at h
  · rename_i e; subst e; cases h; exact sn_spec_ValidState
  split at h
  · rename_i e; subst e; cases h; exact sn_spec_l4Copy
  split at h
  · rename_i e; subst e; cases h; exact sn_spec_l4Change
  cases h
theorem lk_spec_Apply_6 {R : Type} : LoopOk Try.prog R 37 0 pa_spec_Apply L_spec_Apply co_spec_Apply_6 :=
  loop_key (cfg := ⟨ta_spec_Apply, 0, 37, pa_spec_Apply⟩) (key := 6) (by kernel_rfl) (by kernel_rfl) si_spec_Apply rfl rfl (fun d k r h => ⟨fu_spec_Apply_6 d.1 d.2.1 d.2.2.1 d.2.2.2.1, (lp_spec_Apply_6 _ d k).trans h⟩) (fun c hc => by rw [show loopsIn co_spec_Apply_6 = [] from by kernel_rfl] at hc; cases hc)
theorem sn_spec_Apply : Callable Try.prog 63 ∧ Sound Try.prog 63 sd_spec_Apply.sg sd_spec_Apply.den :=
  fn_loops (pat := pa_spec_Apply) L_spec_Apply (by kernel_rfl) si_spec_Apply Try.func63 (by kernel_rfl) (by kernel_rfl) (fun c hc => by rw [show loopsIn (bodyOf Try.f63) = [co_spec_Apply_6] from by kernel_rfl] at hc; simp only [List.mem_cons, List.not_mem_nil, or_false] at hc; rcases hc with rfl <;> first | exact lk_spec_Apply_6) fun x r h => by
    obtain ⟨a0, a1, ⟨⟩⟩ := x; rw [← h]; exact (en_spec_Apply a0 a1).trans (eq_spec_Apply a0 a1)
def m_laws_toChange (a : ByteArray × ByteArray × Bool × Unit) : Option (ByteArray × ByteArray × Bool × Unit) := toM (.pair .str (.pair .str (.pair .bool .unit))) a
def sg_laws_toChange : Sig := ⟨[.rd (.pair .str (.pair .str (.pair .bool .unit)))], [some 3], [.rd (.pair .str (.pair .str (.pair .bool .unit)))], [some 3]⟩
noncomputable def sd_laws_toChange : SD := ⟨sg_laws_toChange, fun x => (m_laws_toChange x.1).bind fun r => some ((r, ()), (()))⟩
noncomputable def ta_laws_toChange : Tb := Tb.of fun f => none
def pa_laws_toChange : Nat → Pat × (Nat → Pat) := fun k => (⟨[], [], []⟩, fun _ => ⟨[], [], []⟩)
noncomputable def de_laws_toChange (a0 : ByteArray × ByteArray × Bool × Unit) : Option ((((ByteArray × ByteArray × Bool × Unit) × Unit) × (Unit))) :=
  some (((a0.fst, a0.snd.fst, a0.snd.snd.fst, ()), ()), ())
theorem eq_laws_toChange (a0 : ByteArray × ByteArray × Bool × Unit) r (h : m_laws_toChange a0 = some r) : de_laws_toChange a0 = some ((r, ()), (())) := by
  obtain ⟨hc, rfl⟩ := toM_some (t := (.pair .str (.pair .str (.pair .bool .unit)))) h
  · rfl
theorem en_laws_toChange (a0 : ByteArray × ByteArray × Bool × Unit) : evalF Try.prog ta_laws_toChange pa_laws_toChange sg_laws_toChange Try.f142 noL (a0, ()) = de_laws_toChange a0 := by kernel_rfl
theorem si_laws_toChange : SigsOk Try.prog ta_laws_toChange := SigsOk.of fun f sd h => by
  try dsimp only [Tb.of, ta_laws_toChange] at h
  cases h
theorem sn_laws_toChange : Callable Try.prog 142 ∧ Sound Try.prog 142 sd_laws_toChange.sg sd_laws_toChange.den :=
  fn_plain (pat := pa_laws_toChange) (by kernel_rfl) si_laws_toChange Try.func142 (by kernel_rfl) (by kernel_rfl) (by kernel_rfl) fun x r h => by
    obtain ⟨a0, ⟨⟩⟩ := x; obtain ⟨y, h1, h2⟩ := Option.bind_eq_some_iff.1 (show (m_laws_toChange a0).bind (fun r => some ((r, ()), (()))) = some r from h); cases h2; exact (en_laws_toChange a0).trans (eq_laws_toChange a0 _ h1)
def m_laws_toChangeS (a : List (ByteArray × ByteArray × Bool × Unit)) : Option (List (ByteArray × ByteArray × Bool × Unit)) := toM (.sl (.pair .str (.pair .str (.pair .bool .unit)))) a
def sg_laws_toChangeS : Sig := ⟨[.rd (.sl (.pair .str (.pair .str (.pair .bool .unit))))], [none], [.own 135 (.pair .str (.pair .str (.pair .bool .unit)))], [none]⟩
noncomputable def sd_laws_toChangeS : SD := ⟨sg_laws_toChangeS, fun x => (m_laws_toChangeS x.1).bind fun r => some ((r, ()), (()))⟩
noncomputable def ta_laws_toChangeS : Tb := Tb.of fun f => if f = 142 then some sd_laws_toChange else none
def pa_laws_toChangeS : Nat → Pat × (Nat → Pat) := fun k => if k = 4 then (⟨[.sl 0 0 (.pair .str (.pair .str (.pair .bool .unit))), .row 3 0 135 (.pair .str (.pair .str (.pair .bool .unit)))], [(0, .lf (.d (.sl (.pair .str (.pair .str (.pair .bool .unit)))))), (3, .lf (.row 0)), (4, .lf (.d (.int .i64)))], [.row 135 (.pair .str (.pair .str (.pair .bool .unit)))]⟩, fun e => if e = 2 then ⟨[.row 3 0 135 (.pair .str (.pair .str (.pair .bool .unit)))], [(3, .lf (.row 0))], [.row 135 (.pair .str (.pair .str (.pair .bool .unit)))]⟩ else ⟨[], [], []⟩) else (⟨[], [], []⟩, fun _ => ⟨[], [], []⟩)
noncomputable def co_laws_toChangeS_4 : Code := (loopsIn (bodyOf Try.f64)).getD 0 .skip
def fu_laws_toChangeS_4 (v0 : List (ByteArray × ByteArray × Bool × Unit)) (v4 : Int) (r0 : List (ByteArray × ByteArray × Bool × Unit)) : Nat := ((v0.length : Int) - v4).toNat + 1
noncomputable def tr_laws_toChangeS_4 {R : Type}  (NX : ((List (ByteArray × ByteArray × Bool × Unit)) × (Int) × (List (ByteArray × ByteArray × Bool × Unit)) × Unit) → Option R) (X2 : ((List (ByteArray × ByteArray × Bool × Unit)) × Unit) → Option R) (v0 : List (ByteArray × ByteArray × Bool × Unit)) (v4 : Int) (r0 : List (ByteArray × ByteArray × Bool × Unit)) : Option R :=
  bif decide (v4 < nI (List.length v0)) then
    bif decide (0 ≤ v4) then
      bif decide (v4 < nI (List.length v0)) then
        bif decide (0 ≤ v4) then
          bif decide (v4 < nI (List.length r0)) then
            bif decide (Int.toNat v4 < List.length r0) then
              NX
                (v0, IntKind.wrap IntKind.i64 (v4 + 1),
                  List.set r0 (Int.toNat v4)
                    ((List.getD v0 (Int.toNat v4) (ByteArray.mk #[], ByteArray.mk #[], false, ())).fst, (List.getD v0 (Int.toNat v4) (ByteArray.mk #[], ByteArray.mk #[], false, ())).snd.fst,
                      (List.getD v0 (Int.toNat v4) (ByteArray.mk #[], ByteArray.mk #[], false, ())).snd.snd.fst, ()),
                  ())
            else none
          else none
        else none
      else none
    else none
  else X2 (r0, ())
noncomputable def lo_laws_toChangeS_4 : Nat → (List (ByteArray × ByteArray × Bool × Unit)) → (Int) → (List (ByteArray × ByteArray × Bool × Unit)) →  Option ((List (ByteArray × ByteArray × Bool × Unit)) × Unit)
  | 0, _, _, _ => none
  | m + 1, v0, v4, r0 => tr_laws_toChangeS_4  (fun d => lo_laws_toChangeS_4 m d.1 d.2.1 d.2.2.1) (fun d => some (d)) v0 v4 r0
theorem na_laws_toChangeS_4 {R S : Type}  (NX : ((List (ByteArray × ByteArray × Bool × Unit)) × (Int) × (List (ByteArray × ByteArray × Bool × Unit)) × Unit) → Option R) (X2 : ((List (ByteArray × ByteArray × Bool × Unit)) × Unit) → Option R) (v0 : List (ByteArray × ByteArray × Bool × Unit)) (v4 : Int) (r0 : List (ByteArray × ByteArray × Bool × Unit)) (f : R → Option S) : tr_laws_toChangeS_4  (fun d => (NX d).bind f) (fun d => (X2 d).bind f) v0 v4 r0 = (tr_laws_toChangeS_4  NX X2 v0 v4 r0).bind f := by
  unfold tr_laws_toChangeS_4
  simp only [cond_bind, ite_bind, onSum_bind, Option.bind_assoc, Option.bind_none, Option.bind_some]
noncomputable def de_laws_toChangeS (a0 : List (ByteArray × ByteArray × Bool × Unit)) : Option ((((List (ByteArray × ByteArray × Bool × Unit)) × Unit) × (Unit))) :=
  bif decide (nI (List.length a0) = nI (List.length a0)) then
    bif decide (Int.toNat (nI (List.length a0)) * 40 ≤ 140737488355328) then
      Option.bind ((fun d => lo_laws_toChangeS_4 (fu_laws_toChangeS_4 d.1 d.2.1 d.2.2.1) d.1 d.2.1 d.2.2.1) (a0, 0, List.replicate (Int.toNat (nI (List.length a0))) (ByteArray.mk #[], ByteArray.mk #[], false, ()), ())) fun val => some ((val.fst, ()), ())
    else none
  else none
theorem eq_laws_toChangeS (a0 : List (ByteArray × ByteArray × Bool × Unit)) r (h : m_laws_toChangeS a0 = some r) : de_laws_toChangeS a0 = some ((r, ()), (())) := by
  obtain ⟨hc, rfl⟩ := toM_some (t := .sl (.pair .str (.pair .str (.pair .bool .unit)))) h
  obtain ⟨hl0, hall⟩ := smallB_sl hc
  have hl : a0.length ≤ 1048576 := hl0
  clear hl0 hc h
  · unfold de_laws_toChangeS
    have e : Int.toNat (nI a0.length) = a0.length := by simp [nI]
    have hL := to_loop (xs := a0) ((ByteArray.mk #[]), (ByteArray.mk #[]), false, ()) (g := fun m i r => lo_laws_toChangeS_4 m a0 i r) (ok := fun r => (r, ())) (fun m i r hi hr => by
      show lo_laws_toChangeS_4 (m + 1) a0 i r = _
      simp only [lo_laws_toChangeS_4, tr_laws_toChangeS_4]
      have hir : i < r.length := by omega
      rw [cLt hi, cLe0, cLt hir, wI (by omega)]
      simp only [cond_true, Int.toNat_natCast]
      rw [cLtN hir]
      rfl) (fun m r => by
      show lo_laws_toChangeS_4 (m + 1) a0 a0.length r = _
      simp only [lo_laws_toChangeS_4, tr_laws_toChangeS_4]
      rw [cLtF]
      rfl) (fu_laws_toChangeS_4 a0 0 (List.replicate a0.length ((ByteArray.mk #[]), (ByteArray.mk #[]), false, ()))) 0 (List.replicate a0.length ((ByteArray.mk #[]), (ByteArray.mk #[]), false, ())) (by omega) (by simp [fu_laws_toChangeS_4]) (by simp)
    have c1 : decide (Int.toNat (nI a0.length) * 40 ≤ 140737488355328) = true := by rw [e]; simp; omega
    rw [c1, decide_eq_true rfl, e]
    have hL' : lo_laws_toChangeS_4 (fu_laws_toChangeS_4 a0 0 (List.replicate a0.length ((ByteArray.mk #[]), (ByteArray.mk #[]), false, ()))) a0 0 (List.replicate a0.length ((ByteArray.mk #[]), (ByteArray.mk #[]), false, ())) = _ := hL
    show (lo_laws_toChangeS_4 (fu_laws_toChangeS_4 a0 0 (List.replicate a0.length ((ByteArray.mk #[]), (ByteArray.mk #[]), false, ()))) a0 0 (List.replicate a0.length ((ByteArray.mk #[]), (ByteArray.mk #[]), false, ()))).bind _ = _
    rw [hL']
    rfl
noncomputable def ou_laws_toChangeS_4 {R : Type} (k : Kt R) : ((List (ByteArray × ByteArray × Bool × Unit)) × Unit) → Option R := (fun d => k (.exit 0) (((pa_laws_toChangeS 4).2 2).st d) (((pa_laws_toChangeS 4).2 2).nid))
noncomputable def L_laws_toChangeS {R : Type} : Lt R pa_laws_toChangeS := (addL (pat := pa_laws_toChangeS) 4 (fun d k => (lo_laws_toChangeS_4 (fu_laws_toChangeS_4 d.1 d.2.1 d.2.2.1) d.1 d.2.1 d.2.2.1).bind (ou_laws_toChangeS_4 k)) noL)
theorem rd_laws_toChangeS_4 {R : Type} (nx : (pa_laws_toChangeS 4).1.D → Kt R → Option R) (k : Kt R) (v0 : List (ByteArray × ByteArray × Bool × Unit)) (v4 : Int) (r0 : List (ByteArray × ByteArray × Bool × Unit)) : ev Try.prog ⟨ta_laws_toChangeS, 0, 23, pa_laws_toChangeS⟩ L_laws_toChangeS co_laws_toChangeS_4 ((pa_laws_toChangeS 4).1.st (v0, v4, r0, ())) (pa_laws_toChangeS 4).1.nid (roundK 0 (pa_laws_toChangeS 4) nx k) = tr_laws_toChangeS_4  (fun d => nx d k) (fun d => k (.exit 0) (((pa_laws_toChangeS 4).2 2).st d) (((pa_laws_toChangeS 4).2 2).nid)) v0 v4 r0 := by kernel_rfl
theorem lp_laws_toChangeS_4 {R : Type} : ∀ (m : Nat) (d : (pa_laws_toChangeS 4).1.D) (k : Kt R), loopN 0 (pa_laws_toChangeS 4) (fun s nid k => ev Try.prog ⟨ta_laws_toChangeS, 0, 23, pa_laws_toChangeS⟩ L_laws_toChangeS co_laws_toChangeS_4 s nid k) m d k = (lo_laws_toChangeS_4 m d.1 d.2.1 d.2.2.1).bind (ou_laws_toChangeS_4 k)
  | 0, _, _ => rfl
  | m + 1, ⟨v0, v4, r0, ⟨⟩⟩, k => (rd_laws_toChangeS_4 _ k v0 v4 r0).trans ((congrArg (fun F => tr_laws_toChangeS_4  F (fun d => k (.exit 0) (((pa_laws_toChangeS 4).2 2).st d) (((pa_laws_toChangeS 4).2 2).nid)) v0 v4 r0) (funext fun d => lp_laws_toChangeS_4 m d k)).trans (na_laws_toChangeS_4 (f := ou_laws_toChangeS_4 k)  (fun d => lo_laws_toChangeS_4 m d.1 d.2.1 d.2.2.1) (fun d => some (d)) v0 v4 r0))
theorem en_laws_toChangeS (a0 : List (ByteArray × ByteArray × Bool × Unit)) : evalF Try.prog ta_laws_toChangeS pa_laws_toChangeS sg_laws_toChangeS Try.f64 L_laws_toChangeS (a0, ()) = de_laws_toChangeS a0 := by kernel_rfl
theorem si_laws_toChangeS : SigsOk Try.prog ta_laws_toChangeS := SigsOk.of fun f sd h => by
  try dsimp only [Tb.of, ta_laws_toChangeS] at h
  split at h
  · rename_i e; subst e; cases h; exact sn_laws_toChange
  cases h
theorem lk_laws_toChangeS_4 {R : Type} : LoopOk Try.prog R 23 0 pa_laws_toChangeS L_laws_toChangeS co_laws_toChangeS_4 :=
  loop_key (cfg := ⟨ta_laws_toChangeS, 0, 23, pa_laws_toChangeS⟩) (key := 4) (by kernel_rfl) (by kernel_rfl) si_laws_toChangeS rfl rfl (fun d k r h => ⟨fu_laws_toChangeS_4 d.1 d.2.1 d.2.2.1, (lp_laws_toChangeS_4 _ d k).trans h⟩) (fun c hc => by rw [show loopsIn co_laws_toChangeS_4 = [] from by kernel_rfl] at hc; cases hc)
theorem sn_laws_toChangeS : Callable Try.prog 64 ∧ Sound Try.prog 64 sd_laws_toChangeS.sg sd_laws_toChangeS.den :=
  fn_loops (pat := pa_laws_toChangeS) L_laws_toChangeS (by kernel_rfl) si_laws_toChangeS Try.func64 (by kernel_rfl) (by kernel_rfl) (fun c hc => by rw [show loopsIn (bodyOf Try.f64) = [co_laws_toChangeS_4] from by kernel_rfl] at hc; simp only [List.mem_cons, List.not_mem_nil, or_false] at hc; rcases hc with rfl <;> first | exact lk_laws_toChangeS_4) fun x r h => by
    obtain ⟨a0, ⟨⟩⟩ := x; obtain ⟨y, h1, h2⟩ := Option.bind_eq_some_iff.1 (show (m_laws_toChangeS a0).bind (fun r => some ((r, ()), (()))) = some r from h); cases h2; exact (en_laws_toChangeS a0).trans (eq_laws_toChangeS a0 _ h1)
def m_impl_in (v lo hi : Int) : Bool := inB v lo hi
def sg_impl_in : Sig := ⟨[.rd (.int .i64), .rd (.int .i64), .rd (.int .i64)], [none, none, none], [.rd .bool], [none]⟩
noncomputable def sd_impl_in : SD := ⟨sg_impl_in, fun x => some (((m_impl_in x.1 x.2.1 x.2.2.1), ()), (()))⟩
noncomputable def ta_impl_in : Tb := Tb.of fun f => none
def pa_impl_in : Nat → Pat × (Nat → Pat) := fun k => (⟨[], [], []⟩, fun _ => ⟨[], [], []⟩)
noncomputable def de_impl_in (a0 : Int) (a1 : Int) (a2 : Int) : Option ((((Bool) × Unit) × (Unit))) :=
  bif decide (a0 ≥ a1) then some ((decide (a0 ≤ a2), ()), ()) else some ((false, ()), ())
theorem eq_impl_in (a0 a1 a2 : Int) : de_impl_in a0 a1 a2 = some ((m_impl_in a0 a1 a2, ()), ()) := by
  unfold de_impl_in m_impl_in inB
  by_cases h : a0 ≥ a1
  · have : decide (a1 ≤ a0) = true := by simpa using h
    simp [h, this]
  · have : decide (a1 ≤ a0) = false := by simpa using h
    simp [h, this]
theorem en_impl_in (a0 : Int) (a1 : Int) (a2 : Int) : evalF Try.prog ta_impl_in pa_impl_in sg_impl_in Try.f98 noL (a0, a1, a2, ()) = de_impl_in a0 a1 a2 := by kernel_rfl
theorem si_impl_in : SigsOk Try.prog ta_impl_in := SigsOk.of fun f sd h => by
  try dsimp only [Tb.of, ta_impl_in] at h
  cases h
theorem sn_impl_in : Callable Try.prog 98 ∧ Sound Try.prog 98 sd_impl_in.sg sd_impl_in.den :=
  fn_plain (pat := pa_impl_in) (by kernel_rfl) si_impl_in Try.func98 (by kernel_rfl) (by kernel_rfl) (by kernel_rfl) fun x r h => by
    obtain ⟨a0, a1, a2, ⟨⟩⟩ := x; rw [← h]; exact (en_impl_in a0 a1 a2).trans (eq_impl_in a0 a1 a2)
def m_impl_goodKey (k : ByteArray) : Bool := keyOk k
def sg_impl_goodKey : Sig := ⟨[.rd .str], [none], [.rd .bool], [none]⟩
noncomputable def sd_impl_goodKey : SD := ⟨sg_impl_goodKey, fun x => some (((m_impl_goodKey x.1), ()), (()))⟩
noncomputable def ta_impl_goodKey : Tb := Tb.of fun f => if f = 98 then some sd_impl_in else none
def pa_impl_goodKey : Nat → Pat × (Nat → Pat) := fun k => (⟨[], [], []⟩, fun _ => ⟨[], [], []⟩)
noncomputable def de_impl_goodKey (a0 : ByteArray) : Option ((((Bool) × Unit) × (Unit))) :=
  some ((m_impl_in (nI (ByteArray.size a0)) 1 20, ()), ())
theorem eq_impl_goodKey (a0 : ByteArray) : de_impl_goodKey a0 = some ((m_impl_goodKey a0, ()), ()) := rfl
theorem en_impl_goodKey (a0 : ByteArray) : evalF Try.prog ta_impl_goodKey pa_impl_goodKey sg_impl_goodKey Try.f175 noL (a0, ()) = de_impl_goodKey a0 := by kernel_rfl
theorem si_impl_goodKey : SigsOk Try.prog ta_impl_goodKey := SigsOk.of fun f sd h => by
  try dsimp only [Tb.of, ta_impl_goodKey] at h
  split at h
  · rename_i e; subst e; cases h; exact sn_impl_in
  cases h
theorem sn_impl_goodKey : Callable Try.prog 175 ∧ Sound Try.prog 175 sd_impl_goodKey.sg sd_impl_goodKey.den :=
  fn_plain (pat := pa_impl_goodKey) (by kernel_rfl) si_impl_goodKey Try.func175 (by kernel_rfl) (by kernel_rfl) (by kernel_rfl) fun x r h => by
    obtain ⟨a0, ⟨⟩⟩ := x; rw [← h]; exact (en_impl_goodKey a0).trans (eq_impl_goodKey a0)
def m_impl_ValidState (s : Stt) : Bool := validState s
def sg_impl_ValidState : Sig := ⟨[.rd (.pair (.sl (.pair .str (.pair .str .unit))) .unit)], [some 1], [.rd .bool], [none]⟩
noncomputable def sd_impl_ValidState : SD := ⟨sg_impl_ValidState, fun x => some (((m_impl_ValidState x.1), ()), (()))⟩
noncomputable def ta_impl_ValidState : Tb := Tb.of fun f => if f = 175 then some sd_impl_goodKey else none
def pa_impl_ValidState : Nat → Pat × (Nat → Pat) := fun k => if k = 5 then (⟨[.sl 10 0 (.pair .str (.pair .str .unit)), .boxSl 1 0 (.pair .str (.pair .str .unit))], [(1, .lf (.ptr 0 0)), (10, .lf (.d (.sl (.pair .str (.pair .str .unit))))), (11, .lf (.d (.int .i64))), (12, .lf (.d (.int .i64)))], [.box 30 [.d (.sl (.pair .str (.pair .str .unit)))]]⟩, fun e => if e = 1 then ⟨[], [(2, .lf (.d .bool))], []⟩ else if e = 2 then ⟨[], [], []⟩ else ⟨[], [], []⟩) else (⟨[], [], []⟩, fun _ => ⟨[], [], []⟩)
noncomputable def co_impl_ValidState_5 : Code := (loopsIn (bodyOf Try.f94)).getD 0 .skip
def fu_impl_ValidState_5 (v10 : List (ByteArray × ByteArray × Unit)) (v11 : Int) (v12 : Int) (b0_0 : List (ByteArray × ByteArray × Unit)) : Nat := (v11 - v12).toNat + 1
noncomputable def tr_impl_ValidState_5 {R : Type}  (NX : ((List (ByteArray × ByteArray × Unit)) × (Int) × (Int) × (List (ByteArray × ByteArray × Unit)) × Unit) → Option R) (X2 : (Unit) → Option R) (X1 : ((Bool) × Unit) → Option R) (v10 : List (ByteArray × ByteArray × Unit)) (v11 : Int) (v12 : Int) (b0_0 : List (ByteArray × ByteArray × Unit)) : Option R :=
  bif decide (v12 < v11) then
    bif decide (0 ≤ v12) then
      bif decide (v12 < nI (List.length v10)) then
        bif !m_impl_goodKey (List.getD v10 (Int.toNat v12) (ByteArray.mk #[], ByteArray.mk #[], ())).fst then X1 (false, ())
        else
          bif decide (nI (ByteArray.size (List.getD v10 (Int.toNat v12) (ByteArray.mk #[], ByteArray.mk #[], ())).snd.fst) > 100) then X1 (false, ())
          else
            bif decide (v12 > 0) then
              bif decide (0 ≤ IntKind.wrap IntKind.i64 (v12 - 1)) then
                bif decide (IntKind.wrap IntKind.i64 (v12 - 1) < nI (List.length b0_0)) then
                  bif
                      !Op.bytesLess (ByteArray.toList (List.getD b0_0 (Int.toNat (IntKind.wrap IntKind.i64 (v12 - 1))) (ByteArray.mk #[], ByteArray.mk #[], ())).fst)
                          (ByteArray.toList (List.getD v10 (Int.toNat v12) (ByteArray.mk #[], ByteArray.mk #[], ())).fst) then
                    X1 (false, ())
                  else NX (v10, v11, IntKind.wrap IntKind.i64 (v12 + 1), b0_0, ())
                else none
              else none
            else NX (v10, v11, IntKind.wrap IntKind.i64 (v12 + 1), b0_0, ())
      else none
    else none
  else X2 PUnit.unit
noncomputable def lo_impl_ValidState_5 : Nat → (List (ByteArray × ByteArray × Unit)) → (Int) → (Int) → (List (ByteArray × ByteArray × Unit)) →  Option ((Unit) ⊕ ((Bool) × Unit))
  | 0, _, _, _, _ => none
  | m + 1, v10, v11, v12, b0_0 => tr_impl_ValidState_5  (fun d => lo_impl_ValidState_5 m d.1 d.2.1 d.2.2.1 d.2.2.2.1) (fun d => some (.inl (d))) (fun d => some (.inr (d))) v10 v11 v12 b0_0
theorem na_impl_ValidState_5 {R S : Type}  (NX : ((List (ByteArray × ByteArray × Unit)) × (Int) × (Int) × (List (ByteArray × ByteArray × Unit)) × Unit) → Option R) (X2 : (Unit) → Option R) (X1 : ((Bool) × Unit) → Option R) (v10 : List (ByteArray × ByteArray × Unit)) (v11 : Int) (v12 : Int) (b0_0 : List (ByteArray × ByteArray × Unit)) (f : R → Option S) : tr_impl_ValidState_5  (fun d => (NX d).bind f) (fun d => (X2 d).bind f) (fun d => (X1 d).bind f) v10 v11 v12 b0_0 = (tr_impl_ValidState_5  NX X2 X1 v10 v11 v12 b0_0).bind f := by
  unfold tr_impl_ValidState_5
  simp only [cond_bind, ite_bind, onSum_bind, Option.bind_assoc, Option.bind_none, Option.bind_some]
noncomputable def de_impl_ValidState (a0 : (List (ByteArray × ByteArray × Unit)) × Unit) : Option ((((Bool) × Unit) × (Unit))) :=
  bif decide (nI (List.length a0.fst) > 100) then some ((false, ()), ())
  else Option.bind ((fun d => lo_impl_ValidState_5 (fu_impl_ValidState_5 d.1 d.2.1 d.2.2.1 d.2.2.2.1) d.1 d.2.1 d.2.2.1 d.2.2.2.1) (a0.fst, nI (List.length a0.fst), 0, a0.fst, ())) fun val => onSum (fun val => some ((true, ()), ())) (fun val => some ((val.fst, ()), ())) val
theorem eq_impl_ValidState (a0 : Stt) : de_impl_ValidState a0 = some ((m_impl_ValidState a0, ()), ()) := by
  unfold de_impl_ValidState m_impl_ValidState validState
  have c1 : decide (nI a0.1.length > 100) = !decide (a0.1.length ≤ 100) := gt100 _ 100
  by_cases hl : a0.1.length ≤ 100
  · have hL := all_loop (n := a0.1.length) (okPairAt a0.1) (g := fun m i => lo_impl_ValidState_5 m a0.1 (nI a0.1.length) i a0.1) (ok := .inl ()) (bad := .inr (false, ())) (fun m i hi => by
      show lo_impl_ValidState_5 (m + 1) a0.1 (nI a0.1.length) i a0.1 = _
      simp only [lo_impl_ValidState_5, tr_impl_ValidState_5]
      have g1 : decide (nI (ByteArray.size (List.getD a0.1 i (ByteArray.mk #[], ByteArray.mk #[], ())).2.1) > 100) = !decide (ByteArray.size (List.getD a0.1 i zP).2.1 ≤ 100) := gt100 _ 100
      rw [cLt hi, cLe0, wI (show i < 4611686018427387904 by omega), Int.toNat_natCast, gt0, g1]
      simp only [cond_true]
      unfold okPairAt bl
      show (bif !keyOk (List.getD a0.1 i zP).1 then _ else _) = _
      cases i with
      | zero =>
        show (bif !keyOk (List.getD a0.1 0 zP).1 then _ else bif !decide (ByteArray.size (List.getD a0.1 0 zP).2.1 ≤ 100) then _ else _) = _
        cases keyOk (List.getD a0.1 0 zP).1 <;> cases decide (ByteArray.size (List.getD a0.1 0 zP).2.1 ≤ 100) <;> rfl
      | succ j =>
        rw [wP j (by omega), cLe0, cLt (show j < a0.1.length by omega)]
        show (bif !keyOk (List.getD a0.1 (j + 1) zP).1 then _ else bif !decide (ByteArray.size (List.getD a0.1 (j + 1) zP).2.1 ≤ 100) then _ else bif !Op.bytesLess (ByteArray.toList (List.getD a0.1 j zP).1) (ByteArray.toList (List.getD a0.1 (j + 1) zP).1) then _ else _) = _
        rw [Nat.add_sub_cancel]
        cases keyOk (List.getD a0.1 (j + 1) zP).1 <;> cases decide (ByteArray.size (List.getD a0.1 (j + 1) zP).2.1 ≤ 100) <;> cases Op.bytesLess (ByteArray.toList (List.getD a0.1 j zP).1) (ByteArray.toList (List.getD a0.1 (j + 1) zP).1) <;> rfl) (fun m => by
      show lo_impl_ValidState_5 (m + 1) a0.1 (nI a0.1.length) (a0.1.length : Int) a0.1 = _
      simp only [lo_impl_ValidState_5, tr_impl_ValidState_5]
      rw [cLtF]
      rfl) (fu_impl_ValidState_5 a0.1 (nI a0.1.length) 0 a0.1) 0 (by omega) (by simp [fu_impl_ValidState_5, nI])
    have hL' : lo_impl_ValidState_5 (fu_impl_ValidState_5 a0.1 (nI a0.1.length) 0 a0.1) a0.1 (nI a0.1.length) 0 a0.1 = _ := hL
    rw [c1, decide_eq_true hl]
    show (lo_impl_ValidState_5 (fu_impl_ValidState_5 a0.1 (nI a0.1.length) 0 a0.1) a0.1 (nI a0.1.length) 0 a0.1).bind _ = _
    rw [hL']
    cases (List.range' 0 (a0.1.length - 0)).all (okPairAt a0.1) <;> rfl
  · rw [c1, decide_eq_false hl]
    rfl
noncomputable def ou_impl_ValidState_5 {R : Type} (k : Kt R) : ((Unit) ⊕ ((Bool) × Unit)) → Option R := (onSum (fun d => k (.exit 0) (((pa_impl_ValidState 5).2 2).st d) (((pa_impl_ValidState 5).2 2).nid)) (fun d => k .ret (((pa_impl_ValidState 5).2 1).st d) (((pa_impl_ValidState 5).2 1).nid)))
noncomputable def L_impl_ValidState {R : Type} : Lt R pa_impl_ValidState := (addL (pat := pa_impl_ValidState) 5 (fun d k => (lo_impl_ValidState_5 (fu_impl_ValidState_5 d.1 d.2.1 d.2.2.1 d.2.2.2.1) d.1 d.2.1 d.2.2.1 d.2.2.2.1).bind (ou_impl_ValidState_5 k)) noL)
theorem rd_impl_ValidState_5 {R : Type} (nx : (pa_impl_ValidState 5).1.D → Kt R → Option R) (k : Kt R) (v10 : List (ByteArray × ByteArray × Unit)) (v11 : Int) (v12 : Int) (b0_0 : List (ByteArray × ByteArray × Unit)) : ev Try.prog ⟨ta_impl_ValidState, 0, 44, pa_impl_ValidState⟩ L_impl_ValidState co_impl_ValidState_5 ((pa_impl_ValidState 5).1.st (v10, v11, v12, b0_0, ())) (pa_impl_ValidState 5).1.nid (roundK 0 (pa_impl_ValidState 5) nx k) = tr_impl_ValidState_5  (fun d => nx d k) (fun d => k (.exit 0) (((pa_impl_ValidState 5).2 2).st d) (((pa_impl_ValidState 5).2 2).nid)) (fun d => k .ret (((pa_impl_ValidState 5).2 1).st d) (((pa_impl_ValidState 5).2 1).nid)) v10 v11 v12 b0_0 := by kernel_rfl
theorem lp_impl_ValidState_5 {R : Type} : ∀ (m : Nat) (d : (pa_impl_ValidState 5).1.D) (k : Kt R), loopN 0 (pa_impl_ValidState 5) (fun s nid k => ev Try.prog ⟨ta_impl_ValidState, 0, 44, pa_impl_ValidState⟩ L_impl_ValidState co_impl_ValidState_5 s nid k) m d k = (lo_impl_ValidState_5 m d.1 d.2.1 d.2.2.1 d.2.2.2.1).bind (ou_impl_ValidState_5 k)
  | 0, _, _ => rfl
  | m + 1, ⟨v10, v11, v12, b0_0, ⟨⟩⟩, k => (rd_impl_ValidState_5 _ k v10 v11 v12 b0_0).trans ((congrArg (fun F => tr_impl_ValidState_5  F (fun d => k (.exit 0) (((pa_impl_ValidState 5).2 2).st d) (((pa_impl_ValidState 5).2 2).nid)) (fun d => k .ret (((pa_impl_ValidState 5).2 1).st d) (((pa_impl_ValidState 5).2 1).nid)) v10 v11 v12 b0_0) (funext fun d => lp_impl_ValidState_5 m d k)).trans (na_impl_ValidState_5 (f := ou_impl_ValidState_5 k)  (fun d => lo_impl_ValidState_5 m d.1 d.2.1 d.2.2.1 d.2.2.2.1) (fun d => some (.inl (d))) (fun d => some (.inr (d))) v10 v11 v12 b0_0))
theorem en_impl_ValidState (a0 : (List (ByteArray × ByteArray × Unit)) × Unit) : evalF Try.prog ta_impl_ValidState pa_impl_ValidState sg_impl_ValidState Try.f94 L_impl_ValidState (a0, ()) = de_impl_ValidState a0 := by kernel_rfl
theorem si_impl_ValidState : SigsOk Try.prog ta_impl_ValidState := SigsOk.of fun f sd h => by
  try dsimp only [Tb.of, ta_impl_ValidState] at h
  split at h
  · rename_i e; subst e; cases h; exact sn_impl_goodKey
  cases h
theorem lk_impl_ValidState_5 {R : Type} : LoopOk Try.prog R 44 0 pa_impl_ValidState L_impl_ValidState co_impl_ValidState_5 :=
  loop_key (cfg := ⟨ta_impl_ValidState, 0, 44, pa_impl_ValidState⟩) (key := 5) (by kernel_rfl) (by kernel_rfl) si_impl_ValidState rfl rfl (fun d k r h => ⟨fu_impl_ValidState_5 d.1 d.2.1 d.2.2.1 d.2.2.2.1, (lp_impl_ValidState_5 _ d k).trans h⟩) (fun c hc => by rw [show loopsIn co_impl_ValidState_5 = [] from by kernel_rfl] at hc; cases hc)
theorem sn_impl_ValidState : Callable Try.prog 94 ∧ Sound Try.prog 94 sd_impl_ValidState.sg sd_impl_ValidState.den :=
  fn_loops (pat := pa_impl_ValidState) L_impl_ValidState (by kernel_rfl) si_impl_ValidState Try.func94 (by kernel_rfl) (by kernel_rfl) (fun c hc => by rw [show loopsIn (bodyOf Try.f94) = [co_impl_ValidState_5] from by kernel_rfl] at hc; simp only [List.mem_cons, List.not_mem_nil, or_false] at hc; rcases hc with rfl <;> first | exact lk_impl_ValidState_5) fun x r h => by
    obtain ⟨a0, ⟨⟩⟩ := x; rw [← h]; exact (en_impl_ValidState a0).trans (eq_impl_ValidState a0)
def m_impl_ValidBatch (b : List Chg) : Bool := validBatch b
def sg_impl_ValidBatch : Sig := ⟨[.rd (.sl (.pair .str (.pair .str (.pair .bool .unit))))], [none], [.rd .bool], [none]⟩
noncomputable def sd_impl_ValidBatch : SD := ⟨sg_impl_ValidBatch, fun x => some (((m_impl_ValidBatch x.1), ()), (()))⟩
noncomputable def ta_impl_ValidBatch : Tb := Tb.of fun f => if f = 98 then some sd_impl_in else if f = 175 then some sd_impl_goodKey else none
def pa_impl_ValidBatch : Nat → Pat × (Nat → Pat) := fun k => if k = 5 then (⟨[.sl 9 0 (.pair .str (.pair .str (.pair .bool .unit)))], [(9, .lf (.d (.sl (.pair .str (.pair .str (.pair .bool .unit)))))), (10, .lf (.d (.int .i64))), (11, .lf (.d (.int .i64)))], []⟩, fun e => if e = 1 then ⟨[], [(2, .lf (.d .bool))], []⟩ else if e = 2 then ⟨[], [], []⟩ else ⟨[], [], []⟩) else (⟨[], [], []⟩, fun _ => ⟨[], [], []⟩)
noncomputable def co_impl_ValidBatch_5 : Code := (loopsIn (bodyOf Try.f143)).getD 0 .skip
def fu_impl_ValidBatch_5 (v9 : List (ByteArray × ByteArray × Bool × Unit)) (v10 : Int) (v11 : Int) : Nat := (v10 - v11).toNat + 1
noncomputable def tr_impl_ValidBatch_5 {R : Type}  (NX : ((List (ByteArray × ByteArray × Bool × Unit)) × (Int) × (Int) × Unit) → Option R) (X2 : (Unit) → Option R) (X1 : ((Bool) × Unit) → Option R) (v9 : List (ByteArray × ByteArray × Bool × Unit)) (v10 : Int) (v11 : Int) : Option R :=
  bif decide (v11 < v10) then
    bif decide (0 ≤ v11) then
      bif decide (v11 < nI (List.length v9)) then
        bif !m_impl_goodKey (List.getD v9 (Int.toNat v11) (ByteArray.mk #[], ByteArray.mk #[], false, ())).fst then X1 (false, ())
        else
          bif decide (nI (ByteArray.size (List.getD v9 (Int.toNat v11) (ByteArray.mk #[], ByteArray.mk #[], false, ())).snd.fst) > 100) then X1 (false, ())
          else
            bif (List.getD v9 (Int.toNat v11) (ByteArray.mk #[], ByteArray.mk #[], false, ())).snd.snd.fst then
              bif !ByteArray.toList (List.getD v9 (Int.toNat v11) (ByteArray.mk #[], ByteArray.mk #[], false, ())).snd.fst == ByteArray.toList (ByteArray.mk #[]) then X1 (false, ())
              else NX (v9, v10, IntKind.wrap IntKind.i64 (v11 + 1), ())
            else NX (v9, v10, IntKind.wrap IntKind.i64 (v11 + 1), ())
      else none
    else none
  else X2 PUnit.unit
noncomputable def lo_impl_ValidBatch_5 : Nat → (List (ByteArray × ByteArray × Bool × Unit)) → (Int) → (Int) →  Option ((Unit) ⊕ ((Bool) × Unit))
  | 0, _, _, _ => none
  | m + 1, v9, v10, v11 => tr_impl_ValidBatch_5  (fun d => lo_impl_ValidBatch_5 m d.1 d.2.1 d.2.2.1) (fun d => some (.inl (d))) (fun d => some (.inr (d))) v9 v10 v11
theorem na_impl_ValidBatch_5 {R S : Type}  (NX : ((List (ByteArray × ByteArray × Bool × Unit)) × (Int) × (Int) × Unit) → Option R) (X2 : (Unit) → Option R) (X1 : ((Bool) × Unit) → Option R) (v9 : List (ByteArray × ByteArray × Bool × Unit)) (v10 : Int) (v11 : Int) (f : R → Option S) : tr_impl_ValidBatch_5  (fun d => (NX d).bind f) (fun d => (X2 d).bind f) (fun d => (X1 d).bind f) v9 v10 v11 = (tr_impl_ValidBatch_5  NX X2 X1 v9 v10 v11).bind f := by
  unfold tr_impl_ValidBatch_5
  simp only [cond_bind, ite_bind, onSum_bind, Option.bind_assoc, Option.bind_none, Option.bind_some]
noncomputable def de_impl_ValidBatch (a0 : List (ByteArray × ByteArray × Bool × Unit)) : Option ((((Bool) × Unit) × (Unit))) :=
  bif !m_impl_in (nI (List.length a0)) 1 20 then some ((false, ()), ())
  else Option.bind ((fun d => lo_impl_ValidBatch_5 (fu_impl_ValidBatch_5 d.1 d.2.1 d.2.2.1) d.1 d.2.1 d.2.2.1) (a0, nI (List.length a0), 0, ())) fun val => onSum (fun val => some ((true, ()), ())) (fun val => some ((val.fst, ()), ())) val
theorem eq_impl_ValidBatch (a0 : List (ByteArray × ByteArray × Bool × Unit)) : de_impl_ValidBatch a0 = some (((m_impl_ValidBatch a0), ()), (())) := by
  unfold de_impl_ValidBatch m_impl_ValidBatch validBatch
  have tl : ByteArray.toList (ByteArray.mk #[]) = [] := by decide +kernel
  show (bif !inB (a0.length : Int) 1 20 then _ else _) = _
  cases hin : inB (a0.length : Int) 1 20 with
  | false => rfl
  | true =>
    have hlen : a0.length ≤ 20 := by have := (inB_r hin).2; omega
    have hL := all_loop (n := a0.length) (fun i => okChg (a0.getD i zC)) (g := fun m i => lo_impl_ValidBatch_5 m a0 (nI a0.length) i) (ok := .inl ()) (bad := .inr (false, ())) (fun m i hi => by
      show lo_impl_ValidBatch_5 (m + 1) a0 (nI a0.length) i = _
      simp only [lo_impl_ValidBatch_5, tr_impl_ValidBatch_5]
      rw [tl, cLt hi, cLe0, wI (show i < 4611686018427387904 by omega), Int.toNat_natCast]
      have g1 : decide (nI (ByteArray.size (List.getD a0 i (ByteArray.mk #[], ByteArray.mk #[], false, ())).2.1) > 100) = !decide ((a0.getD i zC).2.1.size ≤ 100) := gt100 _ 100
      rw [g1]
      show (bif !keyOk (a0.getD i zC).1 then _ else (bif _ then _ else (bif (a0.getD i zC).2.2.1 then (bif !((a0.getD i zC).2.1.toList == []) then _ else _) else _))) = _
      unfold okChg
      cases keyOk (a0.getD i zC).1 <;> cases decide ((a0.getD i zC).2.1.size ≤ 100) <;> cases (a0.getD i zC).2.2.1 <;> cases ((a0.getD i zC).2.1.toList == []) <;> rfl) (fun m => by
      show lo_impl_ValidBatch_5 (m + 1) a0 (nI a0.length) (a0.length : Int) = _
      simp only [lo_impl_ValidBatch_5, tr_impl_ValidBatch_5]
      rw [cLtF]
      rfl) (fu_impl_ValidBatch_5 a0 (nI a0.length) 0) 0 (by omega) (by simp [fu_impl_ValidBatch_5, nI])
    refine bi_ hL ?_
    rw [Nat.sub_zero]
    cases (List.range' 0 a0.length).all (fun i => okChg (a0.getD i zC)) <;> rfl
noncomputable def ou_impl_ValidBatch_5 {R : Type} (k : Kt R) : ((Unit) ⊕ ((Bool) × Unit)) → Option R := (onSum (fun d => k (.exit 0) (((pa_impl_ValidBatch 5).2 2).st d) (((pa_impl_ValidBatch 5).2 2).nid)) (fun d => k .ret (((pa_impl_ValidBatch 5).2 1).st d) (((pa_impl_ValidBatch 5).2 1).nid)))
noncomputable def L_impl_ValidBatch {R : Type} : Lt R pa_impl_ValidBatch := (addL (pat := pa_impl_ValidBatch) 5 (fun d k => (lo_impl_ValidBatch_5 (fu_impl_ValidBatch_5 d.1 d.2.1 d.2.2.1) d.1 d.2.1 d.2.2.1).bind (ou_impl_ValidBatch_5 k)) noL)
theorem rd_impl_ValidBatch_5 {R : Type} (nx : (pa_impl_ValidBatch 5).1.D → Kt R → Option R) (k : Kt R) (v9 : List (ByteArray × ByteArray × Bool × Unit)) (v10 : Int) (v11 : Int) : ev Try.prog ⟨ta_impl_ValidBatch, 0, 35, pa_impl_ValidBatch⟩ L_impl_ValidBatch co_impl_ValidBatch_5 ((pa_impl_ValidBatch 5).1.st (v9, v10, v11, ())) (pa_impl_ValidBatch 5).1.nid (roundK 0 (pa_impl_ValidBatch 5) nx k) = tr_impl_ValidBatch_5  (fun d => nx d k) (fun d => k (.exit 0) (((pa_impl_ValidBatch 5).2 2).st d) (((pa_impl_ValidBatch 5).2 2).nid)) (fun d => k .ret (((pa_impl_ValidBatch 5).2 1).st d) (((pa_impl_ValidBatch 5).2 1).nid)) v9 v10 v11 := by kernel_rfl
theorem lp_impl_ValidBatch_5 {R : Type} : ∀ (m : Nat) (d : (pa_impl_ValidBatch 5).1.D) (k : Kt R), loopN 0 (pa_impl_ValidBatch 5) (fun s nid k => ev Try.prog ⟨ta_impl_ValidBatch, 0, 35, pa_impl_ValidBatch⟩ L_impl_ValidBatch co_impl_ValidBatch_5 s nid k) m d k = (lo_impl_ValidBatch_5 m d.1 d.2.1 d.2.2.1).bind (ou_impl_ValidBatch_5 k)
  | 0, _, _ => rfl
  | m + 1, ⟨v9, v10, v11, ⟨⟩⟩, k => (rd_impl_ValidBatch_5 _ k v9 v10 v11).trans ((congrArg (fun F => tr_impl_ValidBatch_5  F (fun d => k (.exit 0) (((pa_impl_ValidBatch 5).2 2).st d) (((pa_impl_ValidBatch 5).2 2).nid)) (fun d => k .ret (((pa_impl_ValidBatch 5).2 1).st d) (((pa_impl_ValidBatch 5).2 1).nid)) v9 v10 v11) (funext fun d => lp_impl_ValidBatch_5 m d k)).trans (na_impl_ValidBatch_5 (f := ou_impl_ValidBatch_5 k)  (fun d => lo_impl_ValidBatch_5 m d.1 d.2.1 d.2.2.1) (fun d => some (.inl (d))) (fun d => some (.inr (d))) v9 v10 v11))
theorem en_impl_ValidBatch (a0 : List (ByteArray × ByteArray × Bool × Unit)) : evalF Try.prog ta_impl_ValidBatch pa_impl_ValidBatch sg_impl_ValidBatch Try.f143 L_impl_ValidBatch (a0, ()) = de_impl_ValidBatch a0 := by kernel_rfl
theorem si_impl_ValidBatch : SigsOk Try.prog ta_impl_ValidBatch := SigsOk.of fun f sd h => by
  try dsimp only [Tb.of, ta_impl_ValidBatch] at h
  split at h
  · rename_i e; subst e; cases h; exact sn_impl_in
  split at h
  · rename_i e; subst e; cases h; exact sn_impl_goodKey
  cases h
theorem lk_impl_ValidBatch_5 {R : Type} : LoopOk Try.prog R 35 0 pa_impl_ValidBatch L_impl_ValidBatch co_impl_ValidBatch_5 :=
  loop_key (cfg := ⟨ta_impl_ValidBatch, 0, 35, pa_impl_ValidBatch⟩) (key := 5) (by kernel_rfl) (by kernel_rfl) si_impl_ValidBatch rfl rfl (fun d k r h => ⟨fu_impl_ValidBatch_5 d.1 d.2.1 d.2.2.1, (lp_impl_ValidBatch_5 _ d k).trans h⟩) (fun c hc => by rw [show loopsIn co_impl_ValidBatch_5 = [] from by kernel_rfl] at hc; cases hc)
theorem sn_impl_ValidBatch : Callable Try.prog 143 ∧ Sound Try.prog 143 sd_impl_ValidBatch.sg sd_impl_ValidBatch.den :=
  fn_loops (pat := pa_impl_ValidBatch) L_impl_ValidBatch (by kernel_rfl) si_impl_ValidBatch Try.func143 (by kernel_rfl) (by kernel_rfl) (fun c hc => by rw [show loopsIn (bodyOf Try.f143) = [co_impl_ValidBatch_5] from by kernel_rfl] at hc; simp only [List.mem_cons, List.not_mem_nil, or_false] at hc; rcases hc with rfl <;> first | exact lk_impl_ValidBatch_5) fun x r h => by
    obtain ⟨a0, ⟨⟩⟩ := x; rw [← h]; exact (en_impl_ValidBatch a0).trans (eq_impl_ValidBatch a0)
def m_impl_Apply (s : Stt) (b : List Chg) : Stt × Int := applyS s b
def sg_impl_Apply : Sig := ⟨[.rd (.pair (.sl (.pair .str (.pair .str .unit))) .unit), .rd (.sl (.pair .str (.pair .str (.pair .bool .unit))))], [some 1, none], [.own 133 (.pair .str (.pair .str .unit)), .rd (.int .i64)], [some 1, none]⟩
noncomputable def sd_impl_Apply : SD := ⟨sg_impl_Apply, fun x => some (((m_impl_Apply x.1 x.2.1).1.1, (m_impl_Apply x.1 x.2.1).2, ()), (()))⟩
noncomputable def ta_impl_Apply : Tb := ⟨fun f => if f = 94 then some sd_impl_ValidState else if f = 143 then some sd_impl_ValidBatch else none, fun _ => none, none, none, some (144, 145, 30, 28, 133)⟩
def pa_impl_Apply : Nat → Pat × (Nat → Pat) := fun k => if k = 6 then (⟨[.sl 1 0 (.pair .str (.pair .str (.pair .bool .unit))), .sl 25 0 (.pair .str (.pair .str .unit)), .boxRow 4 0 133 (.pair .str (.pair .str .unit))], [(1, .lf (.d (.sl (.pair .str (.pair .str (.pair .bool .unit)))))), (4, .lf (.ptr 0 0)), (6, .lf (.row 1)), (25, .lf (.d (.sl (.pair .str (.pair .str .unit))))), (26, .lf (.d (.int .i64))), (27, .lf (.d (.int .i64)))], [.box 30 [.row 2], .map .str, .row 133 (.pair .str (.pair .str .unit))]⟩, fun e => if e = 2 then ⟨[.sl 1 0 (.pair .str (.pair .str (.pair .bool .unit))), .boxRow 4 0 133 (.pair .str (.pair .str .unit))], [(1, .lf (.d (.sl (.pair .str (.pair .str (.pair .bool .unit)))))), (4, .lf (.ptr 0 0)), (6, .lf (.row 1))], [.box 30 [.row 2], .map .str, .row 133 (.pair .str (.pair .str .unit))]⟩ else ⟨[], [], []⟩) else if k = 11 then (⟨[.sl 37 0 (.pair .str (.pair .str (.pair .bool .unit))), .boxRow 4 0 133 (.pair .str (.pair .str .unit))], [(4, .lf (.ptr 0 0)), (6, .lf (.row 1)), (37, .lf (.d (.sl (.pair .str (.pair .str (.pair .bool .unit)))))), (38, .lf (.d (.int .i64))), (39, .lf (.d (.int .i64)))], [.box 30 [.row 2], .map .str, .row 133 (.pair .str (.pair .str .unit))]⟩, fun e => if e = 4 then ⟨[.boxRow 4 0 133 (.pair .str (.pair .str .unit))], [(4, .lf (.ptr 0 0)), (6, .lf (.row 1))], [.box 30 [.row 2], .map .str, .row 133 (.pair .str (.pair .str .unit))]⟩ else ⟨[], [], []⟩) else if k = 21 then (⟨[.boxRow 4 0 133 (.pair .str (.pair .str .unit)), .boxRow 11 0 133 (.pair .str (.pair .str .unit))], [(4, .lf (.ptr 0 0)), (11, .lf (.ptr 1 0)), (59, .lf (.row 2))], [.box 30 [.row 3], .box 30 [.row 4], .iter .str, .row 133 (.pair .str (.pair .str .unit)), .row 133 (.pair .str (.pair .str .unit))]⟩, fun e => if e = 6 then ⟨[.boxRow 4 0 133 (.pair .str (.pair .str .unit)), .boxRow 11 0 133 (.pair .str (.pair .str .unit))], [(4, .lf (.ptr 0 0)), (11, .lf (.ptr 1 0))], [.box 30 [.row 2], .box 30 [.row 3], .row 133 (.pair .str (.pair .str .unit)), .row 133 (.pair .str (.pair .str .unit))]⟩ else ⟨[], [], []⟩) else (⟨[], [], []⟩, fun _ => ⟨[], [], []⟩)
noncomputable def co_impl_Apply_6 : Code := (loopsIn (bodyOf Try.f65)).getD 0 .skip
noncomputable def co_impl_Apply_11 : Code := (loopsIn (bodyOf Try.f65)).getD 1 .skip
noncomputable def co_impl_Apply_21 : Code := (loopsIn (bodyOf Try.f65)).getD 2 .skip
def fu_impl_Apply_21 (i2 : List (ByteArray × ByteArray)) (l2 : List (ByteArray × ByteArray)) (c2 : Option (ByteArray × ByteArray)) (r3 : List (ByteArray × ByteArray × Unit)) (r4 : List (ByteArray × ByteArray × Unit)) : Nat := 0
noncomputable def st_impl_Apply_21 (i2 : List (ByteArray × ByteArray)) (l2 : List (ByteArray × ByteArray)) (c2 : Option (ByteArray × ByteArray)) (r3 : List (ByteArray × ByteArray × Unit)) (r4 : List (ByteArray × ByteArray × Unit)) (e0 : ByteArray) (e1 : ByteArray) (e2 : List (ByteArray × ByteArray)) : Option ((List (ByteArray × ByteArray)) × (List (ByteArray × ByteArray)) × (Option (ByteArray × ByteArray)) × (List (ByteArray × ByteArray × Unit)) × (List (ByteArray × ByteArray × Unit)) × Unit) :=
  bif decide ((List.length r4 + List.length [(e0, e1, ())]) * 32 ≤ 140737488355328) then some (i2, e2, some (e0, e1), r3, r4 ++ [(e0, e1, ())], ()) else none
noncomputable def fi_impl_Apply_21 (i2 : List (ByteArray × ByteArray)) (l2 : List (ByteArray × ByteArray)) (c2 : Option (ByteArray × ByteArray)) (r3 : List (ByteArray × ByteArray × Unit)) (r4 : List (ByteArray × ByteArray × Unit)) : Option ((List (ByteArray × ByteArray × Unit)) × (List (ByteArray × ByteArray × Unit)) × Unit) :=
  some (r3, r4, ())
noncomputable def rk_impl_Apply_21 {R : Type} (i2 : List (ByteArray × ByteArray)) (l2 : List (ByteArray × ByteArray)) (c2 : Option (ByteArray × ByteArray)) (r3 : List (ByteArray × ByteArray × Unit)) (r4 : List (ByteArray × ByteArray × Unit)) (kk : ((List (ByteArray × ByteArray × Unit)) × (List (ByteArray × ByteArray × Unit)) × Unit) → Option R) : Option R := rngO (fun d : ((List (ByteArray × ByteArray)) × (List (ByteArray × ByteArray)) × (Option (ByteArray × ByteArray)) × (List (ByteArray × ByteArray × Unit)) × (List (ByteArray × ByteArray × Unit)) × Unit) => d.2.1) (fun d e l => st_impl_Apply_21 d.1 d.2.1 d.2.2.1 d.2.2.2.1 d.2.2.2.2.1 e.1 e.2 l) (fun d => (fi_impl_Apply_21 d.1 d.2.1 d.2.2.1 d.2.2.2.1 d.2.2.2.2.1).bind kk) (i2, l2, c2, r3, r4, ())
def fu_impl_Apply_11 (v37 : List (ByteArray × ByteArray × Bool × Unit)) (v38 : Int) (v39 : Int) (m1 : List (ByteArray × ByteArray)) (r2 : List (ByteArray × ByteArray × Unit)) : Nat := (v38 - v39).toNat + 1
noncomputable def tr_impl_Apply_11 {R : Type}  (NX : ((List (ByteArray × ByteArray × Bool × Unit)) × (Int) × (Int) × (List (ByteArray × ByteArray)) × (List (ByteArray × ByteArray × Unit)) × Unit) → Option R) (X4 : ((List (ByteArray × ByteArray)) × (List (ByteArray × ByteArray × Unit)) × Unit) → Option R) (v37 : List (ByteArray × ByteArray × Bool × Unit)) (v38 : Int) (v39 : Int) (m1 : List (ByteArray × ByteArray)) (r2 : List (ByteArray × ByteArray × Unit)) : Option R :=
  bif decide (v39 < v38) then
    bif decide (0 ≤ v39) then
      bif decide (v39 < nI (List.length v37)) then
        bif (List.getD v37 (Int.toNat v39) (ByteArray.mk #[], ByteArray.mk #[], false, ())).snd.snd.fst then
          NX (v37, v38, IntKind.wrap IntKind.i64 (v39 + 1), delL (List.getD v37 (Int.toNat v39) (ByteArray.mk #[], ByteArray.mk #[], false, ())).fst m1, r2, ())
        else
          NX
            (v37, v38, IntKind.wrap IntKind.i64 (v39 + 1),
              updL (List.getD v37 (Int.toNat v39) (ByteArray.mk #[], ByteArray.mk #[], false, ())).fst (List.getD v37 (Int.toNat v39) (ByteArray.mk #[], ByteArray.mk #[], false, ())).snd.fst m1, r2, ())
      else none
    else none
  else X4 (m1, r2, ())
noncomputable def lo_impl_Apply_11 : Nat → (List (ByteArray × ByteArray × Bool × Unit)) → (Int) → (Int) → (List (ByteArray × ByteArray)) → (List (ByteArray × ByteArray × Unit)) →  Option ((List (ByteArray × ByteArray)) × (List (ByteArray × ByteArray × Unit)) × Unit)
  | 0, _, _, _, _, _ => none
  | m + 1, v37, v38, v39, m1, r2 => tr_impl_Apply_11  (fun d => lo_impl_Apply_11 m d.1 d.2.1 d.2.2.1 d.2.2.2.1 d.2.2.2.2.1) (fun d => some (d)) v37 v38 v39 m1 r2
theorem na_impl_Apply_11 {R S : Type}  (NX : ((List (ByteArray × ByteArray × Bool × Unit)) × (Int) × (Int) × (List (ByteArray × ByteArray)) × (List (ByteArray × ByteArray × Unit)) × Unit) → Option R) (X4 : ((List (ByteArray × ByteArray)) × (List (ByteArray × ByteArray × Unit)) × Unit) → Option R) (v37 : List (ByteArray × ByteArray × Bool × Unit)) (v38 : Int) (v39 : Int) (m1 : List (ByteArray × ByteArray)) (r2 : List (ByteArray × ByteArray × Unit)) (f : R → Option S) : tr_impl_Apply_11  (fun d => (NX d).bind f) (fun d => (X4 d).bind f) v37 v38 v39 m1 r2 = (tr_impl_Apply_11  NX X4 v37 v38 v39 m1 r2).bind f := by
  unfold tr_impl_Apply_11
  simp only [cond_bind, ite_bind, onSum_bind, Option.bind_assoc, Option.bind_none, Option.bind_some]
def fu_impl_Apply_6 (v1 : List (ByteArray × ByteArray × Bool × Unit)) (v25 : List (ByteArray × ByteArray × Unit)) (v26 : Int) (v27 : Int) (m1 : List (ByteArray × ByteArray)) (r2 : List (ByteArray × ByteArray × Unit)) : Nat := (v26 - v27).toNat + 1
noncomputable def tr_impl_Apply_6 {R : Type}  (NX : ((List (ByteArray × ByteArray × Bool × Unit)) × (List (ByteArray × ByteArray × Unit)) × (Int) × (Int) × (List (ByteArray × ByteArray)) × (List (ByteArray × ByteArray × Unit)) × Unit) → Option R) (X2 : ((List (ByteArray × ByteArray × Bool × Unit)) × (List (ByteArray × ByteArray)) × (List (ByteArray × ByteArray × Unit)) × Unit) → Option R) (v1 : List (ByteArray × ByteArray × Bool × Unit)) (v25 : List (ByteArray × ByteArray × Unit)) (v26 : Int) (v27 : Int) (m1 : List (ByteArray × ByteArray)) (r2 : List (ByteArray × ByteArray × Unit)) : Option R :=
  bif decide (v27 < v26) then
    bif decide (0 ≤ v27) then
      bif decide (v27 < nI (List.length v25)) then
        NX
          (v1, v25, v26, IntKind.wrap IntKind.i64 (v27 + 1),
            updL (List.getD v25 (Int.toNat v27) (ByteArray.mk #[], ByteArray.mk #[], ())).fst (List.getD v25 (Int.toNat v27) (ByteArray.mk #[], ByteArray.mk #[], ())).snd.fst m1, r2, ())
      else none
    else none
  else X2 (v1, m1, r2, ())
noncomputable def lo_impl_Apply_6 : Nat → (List (ByteArray × ByteArray × Bool × Unit)) → (List (ByteArray × ByteArray × Unit)) → (Int) → (Int) → (List (ByteArray × ByteArray)) → (List (ByteArray × ByteArray × Unit)) →  Option ((List (ByteArray × ByteArray × Bool × Unit)) × (List (ByteArray × ByteArray)) × (List (ByteArray × ByteArray × Unit)) × Unit)
  | 0, _, _, _, _, _, _ => none
  | m + 1, v1, v25, v26, v27, m1, r2 => tr_impl_Apply_6  (fun d => lo_impl_Apply_6 m d.1 d.2.1 d.2.2.1 d.2.2.2.1 d.2.2.2.2.1 d.2.2.2.2.2.1) (fun d => some (d)) v1 v25 v26 v27 m1 r2
theorem na_impl_Apply_6 {R S : Type}  (NX : ((List (ByteArray × ByteArray × Bool × Unit)) × (List (ByteArray × ByteArray × Unit)) × (Int) × (Int) × (List (ByteArray × ByteArray)) × (List (ByteArray × ByteArray × Unit)) × Unit) → Option R) (X2 : ((List (ByteArray × ByteArray × Bool × Unit)) × (List (ByteArray × ByteArray)) × (List (ByteArray × ByteArray × Unit)) × Unit) → Option R) (v1 : List (ByteArray × ByteArray × Bool × Unit)) (v25 : List (ByteArray × ByteArray × Unit)) (v26 : Int) (v27 : Int) (m1 : List (ByteArray × ByteArray)) (r2 : List (ByteArray × ByteArray × Unit)) (f : R → Option S) : tr_impl_Apply_6  (fun d => (NX d).bind f) (fun d => (X2 d).bind f) v1 v25 v26 v27 m1 r2 = (tr_impl_Apply_6  NX X2 v1 v25 v26 v27 m1 r2).bind f := by
  unfold tr_impl_Apply_6
  simp only [cond_bind, ite_bind, onSum_bind, Option.bind_assoc, Option.bind_none, Option.bind_some]
noncomputable def de_impl_Apply (a0 : (List (ByteArray × ByteArray × Unit)) × Unit) (a1 : List (ByteArray × ByteArray × Bool × Unit)) : Option ((((List (ByteArray × ByteArray × Unit)) × (Int) × Unit) × (Unit))) :=
  bif !m_impl_ValidState (a0.fst, ()) then some (([], 1, ()), ())
  else
    bif !m_impl_ValidBatch a1 then some (([], 1, ()), ())
    else
      Option.bind ((fun d => lo_impl_Apply_6 (fu_impl_Apply_6 d.1 d.2.1 d.2.2.1 d.2.2.2.1 d.2.2.2.2.1 d.2.2.2.2.2.1) d.1 d.2.1 d.2.2.1 d.2.2.2.1 d.2.2.2.2.1 d.2.2.2.2.2.1) (a1, a0.fst, nI (List.length a0.fst), 0, [], [], ())) fun val =>
        Option.bind ((fun d => lo_impl_Apply_11 (fu_impl_Apply_11 d.1 d.2.1 d.2.2.1 d.2.2.2.1 d.2.2.2.2.1) d.1 d.2.1 d.2.2.1 d.2.2.2.1 d.2.2.2.2.1) (val.fst, nI (List.length val.fst), 0, val.snd.fst, val.snd.snd.fst, ())) fun val =>
          bif decide (nI (List.length val.fst) > 100) then some (([], 2, ()), ())
          else
            (fun d kk => rk_impl_Apply_21 d.1 d.2.1 d.2.2.1 d.2.2.2.1 d.2.2.2.2.1 kk) (val.fst, val.fst, none, val.snd.fst, [], ()) fun d =>
              bif nodupK d.snd.fst then bif decide (List.length d.snd.fst ≤ 1000) then some ((List.foldr insK [] d.snd.fst, 0, ()), ()) else none else none
theorem apply_loop6 (v1 : List Chg) (xs : List Pr2) (hx : xs.length ≤ 100) : lo_impl_Apply_6 (fu_impl_Apply_6 v1 xs (nI xs.length) 0 [] []) v1 xs (nI xs.length) 0 [] [] = some (v1, mapOfL xs, [], ()) := by
  have hL := foldi_loop (xs := xs) zP (fun _ _ => True) (fun _ p m => updL p.1 p.2.1 m) (g := fun m i M => lo_impl_Apply_6 m v1 xs (nI xs.length) i M []) (ok := fun M => (v1, M, [], ())) (fun m i M hi _ => by
      show lo_impl_Apply_6 (m + 1) v1 xs (nI xs.length) i M [] = _
      simp only [lo_impl_Apply_6, tr_impl_Apply_6]
      rw [cLt hi, cLe0, wI (show i < 4611686018427387904 by omega), Int.toNat_natCast]
      rfl) (fun _ _ _ _ => trivial) (fun m M _ => by
      show lo_impl_Apply_6 (m + 1) v1 xs (nI xs.length) (xs.length : Int) M [] = _
      simp only [lo_impl_Apply_6, tr_impl_Apply_6]
      rw [cLtF]
      rfl) (fu_impl_Apply_6 v1 xs (nI xs.length) 0 [] []) 0 [] (by omega) (by simp [fu_impl_Apply_6, nI]) trivial
  rw [List.drop_zero] at hL
  exact hL
theorem apply_loop11 (b : List Chg) (m0 : Mp) (hb : b.length ≤ 20) : lo_impl_Apply_11 (fu_impl_Apply_11 b (nI b.length) 0 m0 []) b (nI b.length) 0 m0 [] = some (foldI (fun _ c m => stepM c m) 0 b m0, [], ()) := by
  have hL := foldi_loop (xs := b) zC (fun _ _ => True) (fun _ c m => stepM c m) (g := fun m i M => lo_impl_Apply_11 m b (nI b.length) i M []) (ok := fun M => (M, [], ())) (fun m i M hi _ => by
      show lo_impl_Apply_11 (m + 1) b (nI b.length) i M [] = _
      simp only [lo_impl_Apply_11, tr_impl_Apply_11]
      rw [cLt hi, cLe0, wI (show i < 4611686018427387904 by omega), Int.toNat_natCast]
      simp only [cond_true]
      unfold stepM
      show (bif (List.getD b i zC).2.2.1 then _ else _) = _
      cases (List.getD b i zC).2.2.1 <;> rfl) (fun _ _ _ _ => trivial) (fun m M _ => by
      show lo_impl_Apply_11 (m + 1) b (nI b.length) (b.length : Int) M [] = _
      simp only [lo_impl_Apply_11, tr_impl_Apply_11]
      rw [cLtF]
      rfl) (fu_impl_Apply_11 b (nI b.length) 0 m0 []) 0 m0 (by omega) (by simp [fu_impl_Apply_11, nI]) trivial
  rw [List.drop_zero] at hL
  exact hL
theorem eq_impl_Apply (a0 : (List (ByteArray × ByteArray × Unit)) × Unit) (a1 : List (ByteArray × ByteArray × Bool × Unit)) : de_impl_Apply a0 a1 = some (((m_impl_Apply a0 a1).1.1, (m_impl_Apply a0 a1).2, ()), (())) := by
  unfold de_impl_Apply m_impl_Apply applyS
  show (bif !validState a0 then _ else bif !validBatch a1 then _ else _) = _
  cases hv : validState a0 with
  | false => rfl
  | true =>
    cases hb : validBatch a1 with
    | false => rfl
    | true =>
      simp only [Bool.not_true, cond_false]
      have hl := validState_len hv
      have hb2 := inB_r (and2 hb).1
      refine bindOf (apply_loop6 a1 a0.1 hl) ?_
      dsimp only
      refine bindOf (apply_loop11 a1 (mapOfL a0.1) (by omega)) ?_
      dsimp only
      have hM : Mrel (foldI (fun _ c m => stepM c m) 0 a1 (mapOfL a0.1)) (applyGo a0.1 a1) := (Mrel.init (state_srt hv)).fold
      have hlen := hM.len
      generalize foldI (fun _ c m => stepM c m) 0 a1 (mapOfL a0.1) = M at hM hlen
      by_cases q : M.length > 100
      · rw [decide_eq_true (show nI M.length > 100 by simp only [nI]; omega), decide_eq_true (show (applyGo a0.1 a1).length > 100 by omega)]
        rfl
      · rw [decide_eq_false (show ¬ nI M.length > 100 by simp only [nI]; omega), decide_eq_false (show ¬ (applyGo a0.1 a1).length > 100 by omega)]
        simp only [cond_false]
        unfold rk_impl_Apply_21
        refine rngO_of (m := M.length + 1) ?_
        refine rng_go M (applyGo a0.1 a1) hM (by omega) (fun l c r => (M, l, c, [], r, ())) (fun _ _ _ => rfl) (fun l c r e l' hr => ?_) (fun c r h1 h2 h3 => ?_) M.length M none [] rfl (List.Perm.refl _)
        · show st_impl_Apply_21 M l c [] r e.1 e.2 l' = _
          unfold st_impl_Apply_21
          rw [List.length_singleton, decide_eq_true (show (r.length + 1) * 32 ≤ 140737488355328 by omega)]
          rfl
        · show (bif nodupK r then bif decide (r.length ≤ 1000) then some ((sortK r, 0, ()), ()) else none else none) = _
          rw [h1, decide_eq_true h2, h3]
          rfl
noncomputable def ou_impl_Apply_6 {R : Type} (k : Kt R) : ((List (ByteArray × ByteArray × Bool × Unit)) × (List (ByteArray × ByteArray)) × (List (ByteArray × ByteArray × Unit)) × Unit) → Option R := (fun d => k (.exit 0) (((pa_impl_Apply 6).2 2).st d) (((pa_impl_Apply 6).2 2).nid))
noncomputable def ou_impl_Apply_11 {R : Type} (k : Kt R) : ((List (ByteArray × ByteArray)) × (List (ByteArray × ByteArray × Unit)) × Unit) → Option R := (fun d => k (.exit 2) (((pa_impl_Apply 11).2 4).st d) (((pa_impl_Apply 11).2 4).nid))
noncomputable def ou_impl_Apply_21 {R : Type} (k : Kt R) : ((List (ByteArray × ByteArray × Unit)) × (List (ByteArray × ByteArray × Unit)) × Unit) → Option R := (fun d => k (.exit 4) (((pa_impl_Apply 21).2 6).st d) (((pa_impl_Apply 21).2 6).nid))
noncomputable def L_impl_Apply {R : Type} : Lt R pa_impl_Apply := (addL (pat := pa_impl_Apply) 6 (fun d k => (lo_impl_Apply_6 (fu_impl_Apply_6 d.1 d.2.1 d.2.2.1 d.2.2.2.1 d.2.2.2.2.1 d.2.2.2.2.2.1) d.1 d.2.1 d.2.2.1 d.2.2.2.1 d.2.2.2.2.1 d.2.2.2.2.2.1).bind (ou_impl_Apply_6 k)) (addL (pat := pa_impl_Apply) 11 (fun d k => (lo_impl_Apply_11 (fu_impl_Apply_11 d.1 d.2.1 d.2.2.1 d.2.2.2.1 d.2.2.2.2.1) d.1 d.2.1 d.2.2.1 d.2.2.2.1 d.2.2.2.2.1).bind (ou_impl_Apply_11 k)) (addL (pat := pa_impl_Apply) 21 (fun d k => rk_impl_Apply_21 d.1 d.2.1 d.2.2.1 d.2.2.2.1 d.2.2.2.2.1 (ou_impl_Apply_21 k)) noL)))
theorem rd_impl_Apply_11 {R : Type} (nx : (pa_impl_Apply 11).1.D → Kt R → Option R) (k : Kt R) (v37 : List (ByteArray × ByteArray × Bool × Unit)) (v38 : Int) (v39 : Int) (m1 : List (ByteArray × ByteArray)) (r2 : List (ByteArray × ByteArray × Unit)) : ev Try.prog ⟨ta_impl_Apply, 0, 79, pa_impl_Apply⟩ L_impl_Apply co_impl_Apply_11 ((pa_impl_Apply 11).1.st (v37, v38, v39, m1, r2, ())) (pa_impl_Apply 11).1.nid (roundK 0 (pa_impl_Apply 11) nx k) = tr_impl_Apply_11  (fun d => nx d k) (fun d => k (.exit 2) (((pa_impl_Apply 11).2 4).st d) (((pa_impl_Apply 11).2 4).nid)) v37 v38 v39 m1 r2 := by kernel_rfl
theorem lp_impl_Apply_11 {R : Type} : ∀ (m : Nat) (d : (pa_impl_Apply 11).1.D) (k : Kt R), loopN 0 (pa_impl_Apply 11) (fun s nid k => ev Try.prog ⟨ta_impl_Apply, 0, 79, pa_impl_Apply⟩ L_impl_Apply co_impl_Apply_11 s nid k) m d k = (lo_impl_Apply_11 m d.1 d.2.1 d.2.2.1 d.2.2.2.1 d.2.2.2.2.1).bind (ou_impl_Apply_11 k)
  | 0, _, _ => rfl
  | m + 1, ⟨v37, v38, v39, m1, r2, ⟨⟩⟩, k => (rd_impl_Apply_11 _ k v37 v38 v39 m1 r2).trans ((congrArg (fun F => tr_impl_Apply_11  F (fun d => k (.exit 2) (((pa_impl_Apply 11).2 4).st d) (((pa_impl_Apply 11).2 4).nid)) v37 v38 v39 m1 r2) (funext fun d => lp_impl_Apply_11 m d k)).trans (na_impl_Apply_11 (f := ou_impl_Apply_11 k)  (fun d => lo_impl_Apply_11 m d.1 d.2.1 d.2.2.1 d.2.2.2.1 d.2.2.2.2.1) (fun d => some (d)) v37 v38 v39 m1 r2))
theorem rd_impl_Apply_6 {R : Type} (nx : (pa_impl_Apply 6).1.D → Kt R → Option R) (k : Kt R) (v1 : List (ByteArray × ByteArray × Bool × Unit)) (v25 : List (ByteArray × ByteArray × Unit)) (v26 : Int) (v27 : Int) (m1 : List (ByteArray × ByteArray)) (r2 : List (ByteArray × ByteArray × Unit)) : ev Try.prog ⟨ta_impl_Apply, 0, 79, pa_impl_Apply⟩ L_impl_Apply co_impl_Apply_6 ((pa_impl_Apply 6).1.st (v1, v25, v26, v27, m1, r2, ())) (pa_impl_Apply 6).1.nid (roundK 0 (pa_impl_Apply 6) nx k) = tr_impl_Apply_6  (fun d => nx d k) (fun d => k (.exit 0) (((pa_impl_Apply 6).2 2).st d) (((pa_impl_Apply 6).2 2).nid)) v1 v25 v26 v27 m1 r2 := by kernel_rfl
theorem lp_impl_Apply_6 {R : Type} : ∀ (m : Nat) (d : (pa_impl_Apply 6).1.D) (k : Kt R), loopN 0 (pa_impl_Apply 6) (fun s nid k => ev Try.prog ⟨ta_impl_Apply, 0, 79, pa_impl_Apply⟩ L_impl_Apply co_impl_Apply_6 s nid k) m d k = (lo_impl_Apply_6 m d.1 d.2.1 d.2.2.1 d.2.2.2.1 d.2.2.2.2.1 d.2.2.2.2.2.1).bind (ou_impl_Apply_6 k)
  | 0, _, _ => rfl
  | m + 1, ⟨v1, v25, v26, v27, m1, r2, ⟨⟩⟩, k => (rd_impl_Apply_6 _ k v1 v25 v26 v27 m1 r2).trans ((congrArg (fun F => tr_impl_Apply_6  F (fun d => k (.exit 0) (((pa_impl_Apply 6).2 2).st d) (((pa_impl_Apply 6).2 2).nid)) v1 v25 v26 v27 m1 r2) (funext fun d => lp_impl_Apply_6 m d k)).trans (na_impl_Apply_6 (f := ou_impl_Apply_6 k)  (fun d => lo_impl_Apply_6 m d.1 d.2.1 d.2.2.1 d.2.2.2.1 d.2.2.2.2.1 d.2.2.2.2.2.1) (fun d => some (d)) v1 v25 v26 v27 m1 r2))
theorem en_impl_Apply (a0 : (List (ByteArray × ByteArray × Unit)) × Unit) (a1 : List (ByteArray × ByteArray × Bool × Unit)) : evalF Try.prog ta_impl_Apply pa_impl_Apply sg_impl_Apply Try.f65 L_impl_Apply (a0, a1, ()) = de_impl_Apply a0 a1 := by kernel_rfl
theorem si_impl_Apply : SigsOk Try.prog ta_impl_Apply where
  sd := fun f sd h => by
    try dsimp only [Tb.of, ta_impl_Apply] at h
    split at h
    · rename_i e; subst e; cases h; exact sn_impl_ValidState
    split at h
    · rename_i e; subst e; cases h; exact sn_impl_ValidBatch
    cases h
  inl := fun f fn h => by cases h
  cc := fun f BT h => by cases h
  st := fun f BT e h => by cases h
  srt := fun fs fc BT U e h => by cases h; exact ⟨⟨_, Try.func144, by kernel_rfl, by kernel_rfl⟩, sort_seat⟩
theorem lk_impl_Apply_21 {R : Type} : LoopOk Try.prog R 79 0 pa_impl_Apply L_impl_Apply co_impl_Apply_21 :=
  range_ok (cfg := ⟨ta_impl_Apply, 0, 79, pa_impl_Apply⟩) (key := 21) (it := .tmp 59) (sl := 60) (ii := 2) (xid := 4) (t := .str) (by kernel_rfl) (by kernel_rfl) si_impl_Apply rfl rfl rfl (by kernel_rfl) (by kernel_rfl) (xs := fun d => d.1) (left := fun d => d.2.1) (cur := fun d => d.2.2.1) (fun d => rfl) (fun d => rfl)
    (stp := fun d e l => st_impl_Apply_21 d.1 d.2.1 d.2.2.1 d.2.2.2.1 d.2.2.2.2.1 e.1 e.2 l) (fin := fun d => fi_impl_Apply_21 d.1 d.2.1 d.2.2.1 d.2.2.2.1 d.2.2.2.2.1) (fun d e l => by obtain ⟨i2, l2, c2, r3, r4, ⟨⟩⟩ := d; obtain ⟨e0, e1⟩ := e; kernel_rfl) (fun d => by obtain ⟨i2, l2, c2, r3, r4, ⟨⟩⟩ := d; kernel_rfl) (fun d k => rfl)
theorem lk_impl_Apply_11 {R : Type} : LoopOk Try.prog R 79 0 pa_impl_Apply L_impl_Apply co_impl_Apply_11 :=
  loop_key (cfg := ⟨ta_impl_Apply, 0, 79, pa_impl_Apply⟩) (key := 11) (by kernel_rfl) (by kernel_rfl) si_impl_Apply rfl rfl (fun d k r h => ⟨fu_impl_Apply_11 d.1 d.2.1 d.2.2.1 d.2.2.2.1 d.2.2.2.2.1, (lp_impl_Apply_11 _ d k).trans h⟩) (fun c hc => by rw [show loopsIn co_impl_Apply_11 = [] from by kernel_rfl] at hc; cases hc)
theorem lk_impl_Apply_6 {R : Type} : LoopOk Try.prog R 79 0 pa_impl_Apply L_impl_Apply co_impl_Apply_6 :=
  loop_key (cfg := ⟨ta_impl_Apply, 0, 79, pa_impl_Apply⟩) (key := 6) (by kernel_rfl) (by kernel_rfl) si_impl_Apply rfl rfl (fun d k r h => ⟨fu_impl_Apply_6 d.1 d.2.1 d.2.2.1 d.2.2.2.1 d.2.2.2.2.1 d.2.2.2.2.2.1, (lp_impl_Apply_6 _ d k).trans h⟩) (fun c hc => by rw [show loopsIn co_impl_Apply_6 = [] from by kernel_rfl] at hc; cases hc)
theorem sn_impl_Apply : Callable Try.prog 65 ∧ Sound Try.prog 65 sd_impl_Apply.sg sd_impl_Apply.den :=
  fn_loops (pat := pa_impl_Apply) L_impl_Apply (by kernel_rfl) si_impl_Apply Try.func65 (by kernel_rfl) (by kernel_rfl) (fun c hc => by rw [show loopsIn (bodyOf Try.f65) = [co_impl_Apply_6, co_impl_Apply_11, co_impl_Apply_21] from by kernel_rfl] at hc; simp only [List.mem_cons, List.not_mem_nil, or_false] at hc; rcases hc with rfl | rfl | rfl <;> first | exact lk_impl_Apply_6 | exact lk_impl_Apply_11 | exact lk_impl_Apply_21) fun x r h => by
    obtain ⟨a0, a1, ⟨⟩⟩ := x; rw [← h]; exact (en_impl_Apply a0 a1).trans (eq_impl_Apply a0 a1)
def m_laws_eqChange (a b : ByteArray × ByteArray × Bool × Unit) : Option Bool := eqM (.pair .str (.pair .str (.pair .bool .unit))) a b
def sg_laws_eqChange : Sig := ⟨[.rd (.pair .str (.pair .str (.pair .bool .unit))), .rd (.pair .str (.pair .str (.pair .bool .unit)))], [some 3, some 3], [.rd .bool], [none]⟩
noncomputable def sd_laws_eqChange : SD := ⟨sg_laws_eqChange, fun x => (m_laws_eqChange x.1 x.2.1).bind fun r => some ((r, ()), (()))⟩
noncomputable def ta_laws_eqChange : Tb := Tb.of fun f => none
def pa_laws_eqChange : Nat → Pat × (Nat → Pat) := fun k => (⟨[], [], []⟩, fun _ => ⟨[], [], []⟩)
noncomputable def de_laws_eqChange (a0 : ByteArray × ByteArray × Bool × Unit) (a1 : ByteArray × ByteArray × Bool × Unit) : Option ((((Bool) × Unit) × (Unit))) :=
  bif !ByteArray.toList a0.fst == ByteArray.toList a1.fst then some ((false, ()), ())
  else bif !ByteArray.toList a0.snd.fst == ByteArray.toList a1.snd.fst then some ((false, ()), ()) else bif !a0.snd.snd.fst == a1.snd.snd.fst then some ((false, ()), ()) else some ((true, ()), ())
theorem eq_laws_eqChange (a0 : ByteArray × ByteArray × Bool × Unit) (a1 : ByteArray × ByteArray × Bool × Unit) r (h : m_laws_eqChange a0 a1 = some r) : de_laws_eqChange a0 a1 = some ((r, ()), (())) := by
  obtain ⟨hc, hd, rfl⟩ := eqM_some (t := (.pair .str (.pair .str (.pair .bool .unit)))) h
  obtain ⟨hc0, hc1, hc2, _⟩ : fineB .str a0.1 = true ∧ fineB .str a0.2.1 = true ∧ fineB .bool a0.2.2.1 = true ∧ True := by
    have s := hc
    obtain ⟨h0, s⟩ := fineB_pair s
    obtain ⟨h1, s⟩ := fineB_pair s
    obtain ⟨h2, s⟩ := fineB_pair s
    exact ⟨h0, h1, h2, trivial⟩
  obtain ⟨hd0, hd1, hd2, _⟩ : fineB .str a1.1 = true ∧ fineB .str a1.2.1 = true ∧ fineB .bool a1.2.2.1 = true ∧ True := by
    have s := hd
    obtain ⟨h0, s⟩ := fineB_pair s
    obtain ⟨h1, s⟩ := fineB_pair s
    obtain ⟨h2, s⟩ := fineB_pair s
    exact ⟨h0, h1, h2, trivial⟩
  unfold de_laws_eqChange
  have e0 : (!(ByteArray.toList a0.1 == ByteArray.toList a1.1)) = !eqS a0.1 a1.1 := rfl
  have e1 : (!(ByteArray.toList a0.2.1 == ByteArray.toList a1.2.1)) = !eqS a0.2.1 a1.2.1 := rfl
  have e2 : (!(a0.2.2.1 == a1.2.2.1)) = !eqO a0.2.2.1 a1.2.2.1 := rfl
  simp only [e0, e1, e2, Option.bind_some]
  show _ = some (((eqS a0.1 a1.1 && (eqS a0.2.1 a1.2.1 && (eqO a0.2.2.1 a1.2.2.1 && true))), ()), ())
  generalize eqS a0.1 a1.1 = p0
  generalize eqS a0.2.1 a1.2.1 = p1
  generalize eqO a0.2.2.1 a1.2.2.1 = p2
  cases p0 <;> cases p1 <;> cases p2 <;> rfl
theorem en_laws_eqChange (a0 : ByteArray × ByteArray × Bool × Unit) (a1 : ByteArray × ByteArray × Bool × Unit) : evalF Try.prog ta_laws_eqChange pa_laws_eqChange sg_laws_eqChange Try.f146 noL (a0, a1, ()) = de_laws_eqChange a0 a1 := by kernel_rfl
theorem si_laws_eqChange : SigsOk Try.prog ta_laws_eqChange := SigsOk.of fun f sd h => by
  try dsimp only [Tb.of, ta_laws_eqChange] at h
  cases h
theorem sn_laws_eqChange : Callable Try.prog 146 ∧ Sound Try.prog 146 sd_laws_eqChange.sg sd_laws_eqChange.den :=
  fn_plain (pat := pa_laws_eqChange) (by kernel_rfl) si_laws_eqChange Try.func146 (by kernel_rfl) (by kernel_rfl) (by kernel_rfl) fun x r h => by
    obtain ⟨a0, a1, ⟨⟩⟩ := x; obtain ⟨y, h1, h2⟩ := Option.bind_eq_some_iff.1 (show (m_laws_eqChange a0 a1).bind (fun r => some ((r, ()), (()))) = some r from h); cases h2; exact (en_laws_eqChange a0 a1).trans (eq_laws_eqChange a0 a1 _ h1)
def m_laws_eqChangeS (a b : List (ByteArray × ByteArray × Bool × Unit)) : Option Bool := eqM (.sl (.pair .str (.pair .str (.pair .bool .unit)))) a b
def sg_laws_eqChangeS : Sig := ⟨[.rd (.sl (.pair .str (.pair .str (.pair .bool .unit)))), .rd (.sl (.pair .str (.pair .str (.pair .bool .unit))))], [none, none], [.rd .bool], [none]⟩
noncomputable def sd_laws_eqChangeS : SD := ⟨sg_laws_eqChangeS, fun x => (m_laws_eqChangeS x.1 x.2.1).bind fun r => some ((r, ()), (()))⟩
noncomputable def ta_laws_eqChangeS : Tb := Tb.of fun f => if f = 146 then some sd_laws_eqChange else none
def pa_laws_eqChangeS : Nat → Pat × (Nat → Pat) := fun k => if k = 5 then (⟨[.sl 0 0 (.pair .str (.pair .str (.pair .bool .unit))), .sl 1 0 (.pair .str (.pair .str (.pair .bool .unit)))], [(0, .lf (.d (.sl (.pair .str (.pair .str (.pair .bool .unit)))))), (1, .lf (.d (.sl (.pair .str (.pair .str (.pair .bool .unit)))))), (5, .lf (.d (.int .i64)))], []⟩, fun e => if e = 1 then ⟨[], [(4, .lf (.d .bool))], []⟩ else if e = 2 then ⟨[], [], []⟩ else ⟨[], [], []⟩) else (⟨[], [], []⟩, fun _ => ⟨[], [], []⟩)
noncomputable def co_laws_eqChangeS_5 : Code := (loopsIn (bodyOf Try.f66)).getD 0 .skip
def fu_laws_eqChangeS_5 (v0 : List (ByteArray × ByteArray × Bool × Unit)) (v1 : List (ByteArray × ByteArray × Bool × Unit)) (v5 : Int) : Nat := ((v0.length : Int) - v5).toNat + 1
noncomputable def tr_laws_eqChangeS_5 {R : Type}  (NX : ((List (ByteArray × ByteArray × Bool × Unit)) × (List (ByteArray × ByteArray × Bool × Unit)) × (Int) × Unit) → Option R) (X2 : (Unit) → Option R) (X1 : ((Bool) × Unit) → Option R) (v0 : List (ByteArray × ByteArray × Bool × Unit)) (v1 : List (ByteArray × ByteArray × Bool × Unit)) (v5 : Int) : Option R :=
  bif decide (v5 < nI (List.length v0)) then
    bif decide (0 ≤ v5) then
      bif decide (v5 < nI (List.length v0)) then
        bif decide (0 ≤ v5) then
          bif decide (v5 < nI (List.length v1)) then
            Option.bind
              (Option.bind
                (m_laws_eqChange
                  ((List.getD v0 (Int.toNat v5) (ByteArray.mk #[], ByteArray.mk #[], false, ())).fst, (List.getD v0 (Int.toNat v5) (ByteArray.mk #[], ByteArray.mk #[], false, ())).snd.fst,
                    (List.getD v0 (Int.toNat v5) (ByteArray.mk #[], ByteArray.mk #[], false, ())).snd.snd.fst, ())
                  ((List.getD v1 (Int.toNat v5) (ByteArray.mk #[], ByteArray.mk #[], false, ())).fst, (List.getD v1 (Int.toNat v5) (ByteArray.mk #[], ByteArray.mk #[], false, ())).snd.fst,
                    (List.getD v1 (Int.toNat v5) (ByteArray.mk #[], ByteArray.mk #[], false, ())).snd.snd.fst, ()))
                fun val => some ((val, ()), ()))
              fun val => bif !val.fst.fst then X1 (false, ()) else NX (v0, v1, IntKind.wrap IntKind.i64 (v5 + 1), ())
          else none
        else none
      else none
    else none
  else X2 PUnit.unit
noncomputable def lo_laws_eqChangeS_5 : Nat → (List (ByteArray × ByteArray × Bool × Unit)) → (List (ByteArray × ByteArray × Bool × Unit)) → (Int) →  Option ((Unit) ⊕ ((Bool) × Unit))
  | 0, _, _, _ => none
  | m + 1, v0, v1, v5 => tr_laws_eqChangeS_5  (fun d => lo_laws_eqChangeS_5 m d.1 d.2.1 d.2.2.1) (fun d => some (.inl (d))) (fun d => some (.inr (d))) v0 v1 v5
theorem na_laws_eqChangeS_5 {R S : Type}  (NX : ((List (ByteArray × ByteArray × Bool × Unit)) × (List (ByteArray × ByteArray × Bool × Unit)) × (Int) × Unit) → Option R) (X2 : (Unit) → Option R) (X1 : ((Bool) × Unit) → Option R) (v0 : List (ByteArray × ByteArray × Bool × Unit)) (v1 : List (ByteArray × ByteArray × Bool × Unit)) (v5 : Int) (f : R → Option S) : tr_laws_eqChangeS_5  (fun d => (NX d).bind f) (fun d => (X2 d).bind f) (fun d => (X1 d).bind f) v0 v1 v5 = (tr_laws_eqChangeS_5  NX X2 X1 v0 v1 v5).bind f := by
  unfold tr_laws_eqChangeS_5
  simp only [cond_bind, ite_bind, onSum_bind, Option.bind_assoc, Option.bind_none, Option.bind_some]
noncomputable def de_laws_eqChangeS (a0 : List (ByteArray × ByteArray × Bool × Unit)) (a1 : List (ByteArray × ByteArray × Bool × Unit)) : Option ((((Bool) × Unit) × (Unit))) :=
  bif nI (List.length a0) != nI (List.length a1) then some ((false, ()), ())
  else Option.bind ((fun d => lo_laws_eqChangeS_5 (fu_laws_eqChangeS_5 d.1 d.2.1 d.2.2.1) d.1 d.2.1 d.2.2.1) (a0, a1, 0, ())) fun val => onSum (fun val => some ((true, ()), ())) (fun val => some ((val.fst, ()), ())) val
theorem eq_laws_eqChangeS (a0 : List (ByteArray × ByteArray × Bool × Unit)) (a1 : List (ByteArray × ByteArray × Bool × Unit)) r (h : m_laws_eqChangeS a0 a1 = some r) : de_laws_eqChangeS a0 a1 = some ((r, ()), (())) := by
  obtain ⟨hc, hd, rfl⟩ := eqM_some (t := .sl (.pair .str (.pair .str (.pair .bool .unit)))) h
  obtain ⟨hlx0, hx⟩ := fineB_sl hc
  obtain ⟨hly0, hy⟩ := fineB_sl hd
  have hlx : a0.length < 1152921504606846976 := hlx0
  have hly : a1.length < 1152921504606846976 := hly0
  clear hlx0 hly0 hc hd h
  · unfold de_laws_eqChangeS
    by_cases hl : a1.length = a0.length
    · have c1 : (nI a0.length != nI a1.length) = false := by simp [nI, hl]
      have hL := eq_loop (xs := a0) (ys := a1) ((ByteArray.mk #[]), (ByteArray.mk #[]), false, ()) (fun x y : ByteArray × ByteArray × Bool × Unit => eqB (.pair .str (.pair .str (.pair .bool .unit))) x y) (g := fun m i => lo_laws_eqChangeS_5 m a0 a1 i) (ok := .inl ()) (bad := .inr (false, ())) hl (fun m i hi => by
        show lo_laws_eqChangeS_5 (m + 1) a0 a1 i = _
        simp only [lo_laws_eqChangeS_5, tr_laws_eqChangeS_5]
        rw [cLt hi, cLe0, cLt (show i < a1.length by omega), wI (by omega)]
        simp only [cond_true, Int.toNat_natCast]
        have f1 : fineB (.pair .str (.pair .str (.pair .bool .unit))) (List.getD (α := ByteArray × ByteArray × Bool × Unit) a0 i ((ByteArray.mk #[]), (ByteArray.mk #[]), false, ())) = true := hx _ (getD_mem ((ByteArray.mk #[]), (ByteArray.mk #[]), false, ()) hi)
        have f2 : fineB (.pair .str (.pair .str (.pair .bool .unit))) (List.getD (α := ByteArray × ByteArray × Bool × Unit) a1 i ((ByteArray.mk #[]), (ByteArray.mk #[]), false, ())) = true := hy _ (getD_mem ((ByteArray.mk #[]), (ByteArray.mk #[]), false, ()) (by omega))
        have hE : m_laws_eqChange ((List.getD (α := ByteArray × ByteArray × Bool × Unit) a0 i ((ByteArray.mk #[]), (ByteArray.mk #[]), false, ())).fst, (List.getD (α := ByteArray × ByteArray × Bool × Unit) a0 i ((ByteArray.mk #[]), (ByteArray.mk #[]), false, ())).snd.fst, (List.getD (α := ByteArray × ByteArray × Bool × Unit) a0 i ((ByteArray.mk #[]), (ByteArray.mk #[]), false, ())).snd.snd.fst, ()) ((List.getD (α := ByteArray × ByteArray × Bool × Unit) a1 i ((ByteArray.mk #[]), (ByteArray.mk #[]), false, ())).fst, (List.getD (α := ByteArray × ByteArray × Bool × Unit) a1 i ((ByteArray.mk #[]), (ByteArray.mk #[]), false, ())).snd.fst, (List.getD (α := ByteArray × ByteArray × Bool × Unit) a1 i ((ByteArray.mk #[]), (ByteArray.mk #[]), false, ())).snd.snd.fst, ()) = some (eqB (.pair .str (.pair .str (.pair .bool .unit))) (List.getD (α := ByteArray × ByteArray × Bool × Unit) a0 i ((ByteArray.mk #[]), (ByteArray.mk #[]), false, ())) (List.getD (α := ByteArray × ByteArray × Bool × Unit) a1 i ((ByteArray.mk #[]), (ByteArray.mk #[]), false, ()))) := by
          exact eqM_is (t := (.pair .str (.pair .str (.pair .bool .unit)))) (x := (List.getD (α := ByteArray × ByteArray × Bool × Unit) a0 i ((ByteArray.mk #[]), (ByteArray.mk #[]), false, ()))) (y := (List.getD (α := ByteArray × ByteArray × Bool × Unit) a1 i ((ByteArray.mk #[]), (ByteArray.mk #[]), false, ()))) f1 f2
        rw [hE]
        cases q : eqB (.pair .str (.pair .str (.pair .bool .unit))) (List.getD (α := ByteArray × ByteArray × Bool × Unit) a0 i ((ByteArray.mk #[]), (ByteArray.mk #[]), false, ())) (List.getD (α := ByteArray × ByteArray × Bool × Unit) a1 i ((ByteArray.mk #[]), (ByteArray.mk #[]), false, ())) <;> simp only [Option.bind_some, q] <;> rfl) (fun m => by
        show lo_laws_eqChangeS_5 (m + 1) a0 a1 a0.length = _
        simp only [lo_laws_eqChangeS_5, tr_laws_eqChangeS_5]
        rw [cLtF]
        rfl) (fu_laws_eqChangeS_5 a0 a1 0) 0 (by omega) (by simp [fu_laws_eqChangeS_5])
      rw [c1]
      have hL' : lo_laws_eqChangeS_5 (fu_laws_eqChangeS_5 a0 a1 0) a0 a1 0 = _ := hL
      show (lo_laws_eqChangeS_5 (fu_laws_eqChangeS_5 a0 a1 0) a0 a1 0).bind _ = some ((eqL (α := ByteArray × ByteArray × Bool × Unit) (fun x y : ByteArray × ByteArray × Bool × Unit => eqB (.pair .str (.pair .str (.pair .bool .unit))) x y) a0 a1, ()), ())
      rw [hL', List.drop_zero, List.drop_zero]
      cases eqL (α := ByteArray × ByteArray × Bool × Unit) (fun x y : ByteArray × ByteArray × Bool × Unit => eqB (.pair .str (.pair .str (.pair .bool .unit))) x y) a0 a1 <;> rfl
    · have c1 : (nI a0.length != nI a1.length) = true := by simp [nI]; omega
      rw [c1]
      show _ = some ((eqL (α := ByteArray × ByteArray × Bool × Unit) (fun x y : ByteArray × ByteArray × Bool × Unit => eqB (.pair .str (.pair .str (.pair .bool .unit))) x y) a0 a1, ()), ())
      rw [eqL_len (fun q => hl q.symm)]
      rfl
noncomputable def ou_laws_eqChangeS_5 {R : Type} (k : Kt R) : ((Unit) ⊕ ((Bool) × Unit)) → Option R := (onSum (fun d => k (.exit 0) (((pa_laws_eqChangeS 5).2 2).st d) (((pa_laws_eqChangeS 5).2 2).nid)) (fun d => k .ret (((pa_laws_eqChangeS 5).2 1).st d) (((pa_laws_eqChangeS 5).2 1).nid)))
noncomputable def L_laws_eqChangeS {R : Type} : Lt R pa_laws_eqChangeS := (addL (pat := pa_laws_eqChangeS) 5 (fun d k => (lo_laws_eqChangeS_5 (fu_laws_eqChangeS_5 d.1 d.2.1 d.2.2.1) d.1 d.2.1 d.2.2.1).bind (ou_laws_eqChangeS_5 k)) noL)
theorem rd_laws_eqChangeS_5 {R : Type} (nx : (pa_laws_eqChangeS 5).1.D → Kt R → Option R) (k : Kt R) (v0 : List (ByteArray × ByteArray × Bool × Unit)) (v1 : List (ByteArray × ByteArray × Bool × Unit)) (v5 : Int) : ev Try.prog ⟨ta_laws_eqChangeS, 0, 27, pa_laws_eqChangeS⟩ L_laws_eqChangeS co_laws_eqChangeS_5 ((pa_laws_eqChangeS 5).1.st (v0, v1, v5, ())) (pa_laws_eqChangeS 5).1.nid (roundK 0 (pa_laws_eqChangeS 5) nx k) = tr_laws_eqChangeS_5  (fun d => nx d k) (fun d => k (.exit 0) (((pa_laws_eqChangeS 5).2 2).st d) (((pa_laws_eqChangeS 5).2 2).nid)) (fun d => k .ret (((pa_laws_eqChangeS 5).2 1).st d) (((pa_laws_eqChangeS 5).2 1).nid)) v0 v1 v5 := by kernel_rfl
theorem lp_laws_eqChangeS_5 {R : Type} : ∀ (m : Nat) (d : (pa_laws_eqChangeS 5).1.D) (k : Kt R), loopN 0 (pa_laws_eqChangeS 5) (fun s nid k => ev Try.prog ⟨ta_laws_eqChangeS, 0, 27, pa_laws_eqChangeS⟩ L_laws_eqChangeS co_laws_eqChangeS_5 s nid k) m d k = (lo_laws_eqChangeS_5 m d.1 d.2.1 d.2.2.1).bind (ou_laws_eqChangeS_5 k)
  | 0, _, _ => rfl
  | m + 1, ⟨v0, v1, v5, ⟨⟩⟩, k => (rd_laws_eqChangeS_5 _ k v0 v1 v5).trans ((congrArg (fun F => tr_laws_eqChangeS_5  F (fun d => k (.exit 0) (((pa_laws_eqChangeS 5).2 2).st d) (((pa_laws_eqChangeS 5).2 2).nid)) (fun d => k .ret (((pa_laws_eqChangeS 5).2 1).st d) (((pa_laws_eqChangeS 5).2 1).nid)) v0 v1 v5) (funext fun d => lp_laws_eqChangeS_5 m d k)).trans (na_laws_eqChangeS_5 (f := ou_laws_eqChangeS_5 k)  (fun d => lo_laws_eqChangeS_5 m d.1 d.2.1 d.2.2.1) (fun d => some (.inl (d))) (fun d => some (.inr (d))) v0 v1 v5))
theorem en_laws_eqChangeS (a0 : List (ByteArray × ByteArray × Bool × Unit)) (a1 : List (ByteArray × ByteArray × Bool × Unit)) : evalF Try.prog ta_laws_eqChangeS pa_laws_eqChangeS sg_laws_eqChangeS Try.f66 L_laws_eqChangeS (a0, a1, ()) = de_laws_eqChangeS a0 a1 := by kernel_rfl
theorem si_laws_eqChangeS : SigsOk Try.prog ta_laws_eqChangeS := SigsOk.of fun f sd h => by
  try dsimp only [Tb.of, ta_laws_eqChangeS] at h
  split at h
  · rename_i e; subst e; cases h; exact sn_laws_eqChange
  cases h
theorem lk_laws_eqChangeS_5 {R : Type} : LoopOk Try.prog R 27 0 pa_laws_eqChangeS L_laws_eqChangeS co_laws_eqChangeS_5 :=
  loop_key (cfg := ⟨ta_laws_eqChangeS, 0, 27, pa_laws_eqChangeS⟩) (key := 5) (by kernel_rfl) (by kernel_rfl) si_laws_eqChangeS rfl rfl (fun d k r h => ⟨fu_laws_eqChangeS_5 d.1 d.2.1 d.2.2.1, (lp_laws_eqChangeS_5 _ d k).trans h⟩) (fun c hc => by rw [show loopsIn co_laws_eqChangeS_5 = [] from by kernel_rfl] at hc; cases hc)
theorem sn_laws_eqChangeS : Callable Try.prog 66 ∧ Sound Try.prog 66 sd_laws_eqChangeS.sg sd_laws_eqChangeS.den :=
  fn_loops (pat := pa_laws_eqChangeS) L_laws_eqChangeS (by kernel_rfl) si_laws_eqChangeS Try.func66 (by kernel_rfl) (by kernel_rfl) (fun c hc => by rw [show loopsIn (bodyOf Try.f66) = [co_laws_eqChangeS_5] from by kernel_rfl] at hc; simp only [List.mem_cons, List.not_mem_nil, or_false] at hc; rcases hc with rfl <;> first | exact lk_laws_eqChangeS_5) fun x r h => by
    obtain ⟨a0, a1, ⟨⟩⟩ := x; obtain ⟨y, h1, h2⟩ := Option.bind_eq_some_iff.1 (show (m_laws_eqChangeS a0 a1).bind (fun r => some ((r, ()), (()))) = some r from h); cases h2; exact (en_laws_eqChangeS a0 a1).trans (eq_laws_eqChangeS a0 a1 _ h1)
def m_laws_markChangeS (a : List (ByteArray × ByteArray × Bool × Unit)) (k : Int) : Option (Int × (List (ByteArray × ByteArray × Bool × Unit))) := markM (.pair .str (.pair .str (.pair .bool .unit))) a k
def sg_laws_markChangeS : Sig := ⟨[.mu 135 (.pair .str (.pair .str (.pair .bool .unit))), .rd (.int .i64)], [none, none], [.rd (.int .i64)], [none]⟩
noncomputable def sd_laws_markChangeS : SD := ⟨sg_laws_markChangeS, fun x => (m_laws_markChangeS x.1 x.2.1).bind fun r => some ((r.1, ()), (r.2, ()))⟩
noncomputable def ta_laws_markChangeS : Tb := Tb.of fun f => if f = 116 then some sd_laws_markText else none
def pa_laws_markChangeS : Nat → Pat × (Nat → Pat) := fun k => if k = 3 then (⟨[], [(0, .lf (.row 0)), (1, .lf (.d (.int .i64))), (5, .lf (.d (.int .i64)))], [.row 135 (.pair .str (.pair .str (.pair .bool .unit)))]⟩, fun e => if e = 2 then ⟨[], [(1, .lf (.d (.int .i64)))], [.row 135 (.pair .str (.pair .str (.pair .bool .unit)))]⟩ else ⟨[], [], []⟩) else (⟨[], [], []⟩, fun _ => ⟨[], [], []⟩)
noncomputable def co_laws_markChangeS_3 : Code := (loopsIn (bodyOf Try.f67)).getD 0 .skip
def fu_laws_markChangeS_3 (v1 : Int) (v5 : Int) (r0 : List (ByteArray × ByteArray × Bool × Unit)) : Nat := ((r0.length : Int) - v5).toNat + 1
noncomputable def tr_laws_markChangeS_3 {R : Type}  (NX : ((Int) × (Int) × (List (ByteArray × ByteArray × Bool × Unit)) × Unit) → Option R) (X2 : ((Int) × (List (ByteArray × ByteArray × Bool × Unit)) × Unit) → Option R) (v1 : Int) (v5 : Int) (r0 : List (ByteArray × ByteArray × Bool × Unit)) : Option R :=
  bif decide (v5 < nI (List.length r0)) then
    Option.bind (Option.bind (m_laws_markText v1) fun val => some ((val, ()), ())) fun val =>
      bif decide (0 ≤ v5) then
        bif decide (v5 < nI (List.length r0)) then
          bif decide (Int.toNat v5 < List.length r0) then
            Option.bind (Option.bind (m_laws_markText (IntKind.wrap IntKind.i64 (v1 + 1))) fun val => some ((val, ()), ())) fun val_1 =>
              bif decide (0 ≤ v5) then
                bif
                    decide
                      (v5 <
                        nI
                          (List.length
                            (List.set r0 (Int.toNat v5)
                              (val.fst.fst, (List.getD r0 (Int.toNat v5) (ByteArray.mk #[], ByteArray.mk #[], false, ())).snd.fst,
                                (List.getD r0 (Int.toNat v5) (ByteArray.mk #[], ByteArray.mk #[], false, ())).snd.snd.fst, ())))) then
                  bif
                      decide
                        (Int.toNat v5 <
                          List.length
                            (List.set r0 (Int.toNat v5)
                              (val.fst.fst, (List.getD r0 (Int.toNat v5) (ByteArray.mk #[], ByteArray.mk #[], false, ())).snd.fst,
                                (List.getD r0 (Int.toNat v5) (ByteArray.mk #[], ByteArray.mk #[], false, ())).snd.snd.fst, ()))) then
                    bif decide (0 ≤ v5) then
                      bif
                          decide
                            (v5 <
                              nI
                                (List.length
                                  (List.set
                                    (List.set r0 (Int.toNat v5)
                                      (val.fst.fst, (List.getD r0 (Int.toNat v5) (ByteArray.mk #[], ByteArray.mk #[], false, ())).snd.fst,
                                        (List.getD r0 (Int.toNat v5) (ByteArray.mk #[], ByteArray.mk #[], false, ())).snd.snd.fst, ()))
                                    (Int.toNat v5)
                                    ((List.getD
                                          (List.set r0 (Int.toNat v5)
                                            (val.fst.fst, (List.getD r0 (Int.toNat v5) (ByteArray.mk #[], ByteArray.mk #[], false, ())).snd.fst,
                                              (List.getD r0 (Int.toNat v5) (ByteArray.mk #[], ByteArray.mk #[], false, ())).snd.snd.fst, ()))
                                          (Int.toNat v5) (ByteArray.mk #[], ByteArray.mk #[], false, ())).fst,
                                      val_1.fst.fst,
                                      (List.getD
                                              (List.set r0 (Int.toNat v5)
                                                (val.fst.fst, (List.getD r0 (Int.toNat v5) (ByteArray.mk #[], ByteArray.mk #[], false, ())).snd.fst,
                                                  (List.getD r0 (Int.toNat v5) (ByteArray.mk #[], ByteArray.mk #[], false, ())).snd.snd.fst, ()))
                                              (Int.toNat v5) (ByteArray.mk #[], ByteArray.mk #[], false, ())).snd.snd.fst,
                                      ())))) then
                        bif
                            decide
                              (Int.toNat v5 <
                                List.length
                                  (List.set
                                    (List.set r0 (Int.toNat v5)
                                      (val.fst.fst, (List.getD r0 (Int.toNat v5) (ByteArray.mk #[], ByteArray.mk #[], false, ())).snd.fst,
                                        (List.getD r0 (Int.toNat v5) (ByteArray.mk #[], ByteArray.mk #[], false, ())).snd.snd.fst, ()))
                                    (Int.toNat v5)
                                    ((List.getD
                                          (List.set r0 (Int.toNat v5)
                                            (val.fst.fst, (List.getD r0 (Int.toNat v5) (ByteArray.mk #[], ByteArray.mk #[], false, ())).snd.fst,
                                              (List.getD r0 (Int.toNat v5) (ByteArray.mk #[], ByteArray.mk #[], false, ())).snd.snd.fst, ()))
                                          (Int.toNat v5) (ByteArray.mk #[], ByteArray.mk #[], false, ())).fst,
                                      val_1.fst.fst,
                                      (List.getD
                                              (List.set r0 (Int.toNat v5)
                                                (val.fst.fst, (List.getD r0 (Int.toNat v5) (ByteArray.mk #[], ByteArray.mk #[], false, ())).snd.fst,
                                                  (List.getD r0 (Int.toNat v5) (ByteArray.mk #[], ByteArray.mk #[], false, ())).snd.snd.fst, ()))
                                              (Int.toNat v5) (ByteArray.mk #[], ByteArray.mk #[], false, ())).snd.snd.fst,
                                      ()))) then
                          NX
                            (IntKind.wrap IntKind.i64 (IntKind.wrap IntKind.i64 (IntKind.wrap IntKind.i64 (v1 + 1) + 1) + 1), IntKind.wrap IntKind.i64 (v5 + 1),
                              List.set
                                (List.set
                                  (List.set r0 (Int.toNat v5)
                                    (val.fst.fst, (List.getD r0 (Int.toNat v5) (ByteArray.mk #[], ByteArray.mk #[], false, ())).snd.fst,
                                      (List.getD r0 (Int.toNat v5) (ByteArray.mk #[], ByteArray.mk #[], false, ())).snd.snd.fst, ()))
                                  (Int.toNat v5)
                                  ((List.getD
                                        (List.set r0 (Int.toNat v5)
                                          (val.fst.fst, (List.getD r0 (Int.toNat v5) (ByteArray.mk #[], ByteArray.mk #[], false, ())).snd.fst,
                                            (List.getD r0 (Int.toNat v5) (ByteArray.mk #[], ByteArray.mk #[], false, ())).snd.snd.fst, ()))
                                        (Int.toNat v5) (ByteArray.mk #[], ByteArray.mk #[], false, ())).fst,
                                    val_1.fst.fst,
                                    (List.getD
                                            (List.set r0 (Int.toNat v5)
                                              (val.fst.fst, (List.getD r0 (Int.toNat v5) (ByteArray.mk #[], ByteArray.mk #[], false, ())).snd.fst,
                                                (List.getD r0 (Int.toNat v5) (ByteArray.mk #[], ByteArray.mk #[], false, ())).snd.snd.fst, ()))
                                            (Int.toNat v5) (ByteArray.mk #[], ByteArray.mk #[], false, ())).snd.snd.fst,
                                    ()))
                                (Int.toNat v5)
                                ((List.getD
                                      (List.set
                                        (List.set r0 (Int.toNat v5)
                                          (val.fst.fst, (List.getD r0 (Int.toNat v5) (ByteArray.mk #[], ByteArray.mk #[], false, ())).snd.fst,
                                            (List.getD r0 (Int.toNat v5) (ByteArray.mk #[], ByteArray.mk #[], false, ())).snd.snd.fst, ()))
                                        (Int.toNat v5)
                                        ((List.getD
                                              (List.set r0 (Int.toNat v5)
                                                (val.fst.fst, (List.getD r0 (Int.toNat v5) (ByteArray.mk #[], ByteArray.mk #[], false, ())).snd.fst,
                                                  (List.getD r0 (Int.toNat v5) (ByteArray.mk #[], ByteArray.mk #[], false, ())).snd.snd.fst, ()))
                                              (Int.toNat v5) (ByteArray.mk #[], ByteArray.mk #[], false, ())).fst,
                                          val_1.fst.fst,
                                          (List.getD
                                                  (List.set r0 (Int.toNat v5)
                                                    (val.fst.fst, (List.getD r0 (Int.toNat v5) (ByteArray.mk #[], ByteArray.mk #[], false, ())).snd.fst,
                                                      (List.getD r0 (Int.toNat v5) (ByteArray.mk #[], ByteArray.mk #[], false, ())).snd.snd.fst, ()))
                                                  (Int.toNat v5) (ByteArray.mk #[], ByteArray.mk #[], false, ())).snd.snd.fst,
                                          ()))
                                      (Int.toNat v5) (ByteArray.mk #[], ByteArray.mk #[], false, ())).fst,
                                  (List.getD
                                        (List.set
                                          (List.set r0 (Int.toNat v5)
                                            (val.fst.fst, (List.getD r0 (Int.toNat v5) (ByteArray.mk #[], ByteArray.mk #[], false, ())).snd.fst,
                                              (List.getD r0 (Int.toNat v5) (ByteArray.mk #[], ByteArray.mk #[], false, ())).snd.snd.fst, ()))
                                          (Int.toNat v5)
                                          ((List.getD
                                                (List.set r0 (Int.toNat v5)
                                                  (val.fst.fst, (List.getD r0 (Int.toNat v5) (ByteArray.mk #[], ByteArray.mk #[], false, ())).snd.fst,
                                                    (List.getD r0 (Int.toNat v5) (ByteArray.mk #[], ByteArray.mk #[], false, ())).snd.snd.fst, ()))
                                                (Int.toNat v5) (ByteArray.mk #[], ByteArray.mk #[], false, ())).fst,
                                            val_1.fst.fst,
                                            (List.getD
                                                    (List.set r0 (Int.toNat v5)
                                                      (val.fst.fst, (List.getD r0 (Int.toNat v5) (ByteArray.mk #[], ByteArray.mk #[], false, ())).snd.fst,
                                                        (List.getD r0 (Int.toNat v5) (ByteArray.mk #[], ByteArray.mk #[], false, ())).snd.snd.fst, ()))
                                                    (Int.toNat v5) (ByteArray.mk #[], ByteArray.mk #[], false, ())).snd.snd.fst,
                                            ()))
                                        (Int.toNat v5) (ByteArray.mk #[], ByteArray.mk #[], false, ())).snd.fst,
                                  Int.tmod (IntKind.wrap IntKind.i64 (IntKind.wrap IntKind.i64 (v1 + 1) + 1)) 3 == 0, ()),
                              ())
                        else none
                      else none
                    else none
                  else none
                else none
              else none
          else none
        else none
      else none
  else X2 (v1, r0, ())
noncomputable def lo_laws_markChangeS_3 : Nat → (Int) → (Int) → (List (ByteArray × ByteArray × Bool × Unit)) →  Option ((Int) × (List (ByteArray × ByteArray × Bool × Unit)) × Unit)
  | 0, _, _, _ => none
  | m + 1, v1, v5, r0 => tr_laws_markChangeS_3  (fun d => lo_laws_markChangeS_3 m d.1 d.2.1 d.2.2.1) (fun d => some (d)) v1 v5 r0
theorem na_laws_markChangeS_3 {R S : Type}  (NX : ((Int) × (Int) × (List (ByteArray × ByteArray × Bool × Unit)) × Unit) → Option R) (X2 : ((Int) × (List (ByteArray × ByteArray × Bool × Unit)) × Unit) → Option R) (v1 : Int) (v5 : Int) (r0 : List (ByteArray × ByteArray × Bool × Unit)) (f : R → Option S) : tr_laws_markChangeS_3  (fun d => (NX d).bind f) (fun d => (X2 d).bind f) v1 v5 r0 = (tr_laws_markChangeS_3  NX X2 v1 v5 r0).bind f := by
  unfold tr_laws_markChangeS_3
  simp only [cond_bind, ite_bind, onSum_bind, Option.bind_assoc, Option.bind_none, Option.bind_some]
noncomputable def de_laws_markChangeS (a0 : List (ByteArray × ByteArray × Bool × Unit)) (a1 : Int) : Option ((((Int) × Unit) × ((List (ByteArray × ByteArray × Bool × Unit)) × Unit))) :=
  Option.bind ((fun d => lo_laws_markChangeS_3 (fu_laws_markChangeS_3 d.1 d.2.1 d.2.2.1) d.1 d.2.1 d.2.2.1) (a1, 0, a0, ())) fun val => some ((val.fst, ()), val.snd.fst, ())
theorem eq_laws_markChangeS (a0 : List (ByteArray × ByteArray × Bool × Unit)) (a1 : Int) r (h : m_laws_markChangeS a0 a1 = some r) : de_laws_markChangeS a0 a1 = some ((r.1, ()), (r.2, ())) := by
  obtain ⟨g0, g1, hl0, rfl⟩ := markM_some (t := (.pair .str (.pair .str (.pair .bool .unit)))) h
  have hl : a0.length ≤ 1125899906842624 := hl0
  have hEE : (fun k : Int => (show ByteArray × ByteArray × Bool × Unit from (mkE (.pair .str (.pair .str (.pair .bool .unit))) k).1)) = (fun k : Int => (mkT (k), mkT (k + 1), decide ((k + 2) % 3 = 0), ())) := funext fun k => by
    show (mkT (k), mkT (k + 1), decide ((k + 1 + 1) % 3 = 0), ()) = (mkT (k), mkT (k + 1), decide ((k + 2) % 3 = 0), ())
    try simp only [Int.add_assoc, Int.add_zero]
    try rfl
  show _ = some ((a1 + (a0.length : Int) * 3, ()), (gL (fun k : Int => (show ByteArray × ByteArray × Bool × Unit from (mkE (.pair .str (.pair .str (.pair .bool .unit))) k).1)) 3 a0.length a1, ()))
  rw [hEE]
  unfold de_laws_markChangeS
  have hL := mark_loop (fun k : Int => (mkT (k), mkT (k + 1), decide ((k + 2) % 3 = 0), ())) 3 (n := a0.length) (K := 36028797018963000) (g := fun m k i r => lo_laws_markChangeS_3 m k i r) (ok := fun k r => (k, r, ())) (fun m i k r hi hr h1 hK => by
    show lo_laws_markChangeS_3 (m + 1) k i r = _
    have hK1 : k + 3 ≤ 36028797018963000 := by
      have : (1 : Int) ≤ (a0.length - i : Nat) := by omega
      omega
    rw [show lo_laws_markChangeS_3 (m + 1) k i r = lo_laws_markChangeS_3 (m + 1) (k + 0) i r from by rw [Int.add_zero]]
    have k0 : k = k + 0 := (Int.add_zero k).symm
    have t0 : m_laws_markText (k + 0) = some (mkT (k + 0)) := if_pos (by omega)
    have t1 : m_laws_markText (k + 1) = some (mkT (k + 1)) := if_pos (by omega)
    have w0 : IntKind.wrap IntKind.i64 (k + 0 + 1) = k + 1 := by rw [wrap_ok (by omega) (by omega)]; omega
    have w1 : IntKind.wrap IntKind.i64 (k + 1 + 1) = k + 2 := by rw [wrap_ok (by omega) (by omega)]; omega
    have w2 : IntKind.wrap IntKind.i64 (k + 2 + 1) = k + 3 := by rw [wrap_ok (by omega) (by omega)]; omega
    have u2 : (Int.tmod (k + 2) 3 == 0) = decide ((k + 2) % 3 = 0) := tmod3 (by omega)
    have hir : i < r.length := by omega
    simp only [lo_laws_markChangeS_3, tr_laws_markChangeS_3]
    simp only [t0, t1,  Option.bind_some, w0, w1, w2, u2,  List.length_set, List.set_set, cLt hir, cLe0, cLtN hir, wI (show i < 4611686018427387904 by omega), cond_true, Int.toNat_natCast, getD_set hir]
    first | rfl | (rw [Int.add_zero]; rfl) | (simp only [Int.add_zero]; rfl)) (fun m k r hr => by
    show lo_laws_markChangeS_3 (m + 1) k a0.length r = _
    simp only [lo_laws_markChangeS_3, tr_laws_markChangeS_3, hr]
    rw [cLtF]
    rfl) (fu_laws_markChangeS_3 a1 0 a0) 0 a1 a0 (by omega) (by simp [fu_laws_markChangeS_3]) rfl g0 (by omega)
  have hL' : lo_laws_markChangeS_3 (fu_laws_markChangeS_3 a1 0 a0) a1 0 a0 = _ := hL
  show (lo_laws_markChangeS_3 (fu_laws_markChangeS_3 a1 0 a0) a1 0 a0).bind _ = _
  rw [hL']
  rfl
noncomputable def ou_laws_markChangeS_3 {R : Type} (k : Kt R) : ((Int) × (List (ByteArray × ByteArray × Bool × Unit)) × Unit) → Option R := (fun d => k (.exit 0) (((pa_laws_markChangeS 3).2 2).st d) (((pa_laws_markChangeS 3).2 2).nid))
noncomputable def L_laws_markChangeS {R : Type} : Lt R pa_laws_markChangeS := (addL (pat := pa_laws_markChangeS) 3 (fun d k => (lo_laws_markChangeS_3 (fu_laws_markChangeS_3 d.1 d.2.1 d.2.2.1) d.1 d.2.1 d.2.2.1).bind (ou_laws_markChangeS_3 k)) noL)
theorem rd_laws_markChangeS_3 {R : Type} (nx : (pa_laws_markChangeS 3).1.D → Kt R → Option R) (k : Kt R) (v1 : Int) (v5 : Int) (r0 : List (ByteArray × ByteArray × Bool × Unit)) : ev Try.prog ⟨ta_laws_markChangeS, 1, 38, pa_laws_markChangeS⟩ L_laws_markChangeS co_laws_markChangeS_3 ((pa_laws_markChangeS 3).1.st (v1, v5, r0, ())) (pa_laws_markChangeS 3).1.nid (roundK 1 (pa_laws_markChangeS 3) nx k) = tr_laws_markChangeS_3  (fun d => nx d k) (fun d => k (.exit 0) (((pa_laws_markChangeS 3).2 2).st d) (((pa_laws_markChangeS 3).2 2).nid)) v1 v5 r0 := by kernel_rfl
theorem lp_laws_markChangeS_3 {R : Type} : ∀ (m : Nat) (d : (pa_laws_markChangeS 3).1.D) (k : Kt R), loopN 1 (pa_laws_markChangeS 3) (fun s nid k => ev Try.prog ⟨ta_laws_markChangeS, 1, 38, pa_laws_markChangeS⟩ L_laws_markChangeS co_laws_markChangeS_3 s nid k) m d k = (lo_laws_markChangeS_3 m d.1 d.2.1 d.2.2.1).bind (ou_laws_markChangeS_3 k)
  | 0, _, _ => rfl
  | m + 1, ⟨v1, v5, r0, ⟨⟩⟩, k => (rd_laws_markChangeS_3 _ k v1 v5 r0).trans ((congrArg (fun F => tr_laws_markChangeS_3  F (fun d => k (.exit 0) (((pa_laws_markChangeS 3).2 2).st d) (((pa_laws_markChangeS 3).2 2).nid)) v1 v5 r0) (funext fun d => lp_laws_markChangeS_3 m d k)).trans (na_laws_markChangeS_3 (f := ou_laws_markChangeS_3 k)  (fun d => lo_laws_markChangeS_3 m d.1 d.2.1 d.2.2.1) (fun d => some (d)) v1 v5 r0))
theorem en_laws_markChangeS (a0 : List (ByteArray × ByteArray × Bool × Unit)) (a1 : Int) : evalF Try.prog ta_laws_markChangeS pa_laws_markChangeS sg_laws_markChangeS Try.f67 L_laws_markChangeS (a0, a1, ()) = de_laws_markChangeS a0 a1 := by kernel_rfl
theorem si_laws_markChangeS : SigsOk Try.prog ta_laws_markChangeS := SigsOk.of fun f sd h => by
  try dsimp only [Tb.of, ta_laws_markChangeS] at h
  split at h
  · rename_i e; subst e; cases h; exact sn_laws_markText
  cases h
theorem lk_laws_markChangeS_3 {R : Type} : LoopOk Try.prog R 38 1 pa_laws_markChangeS L_laws_markChangeS co_laws_markChangeS_3 :=
  loop_key (cfg := ⟨ta_laws_markChangeS, 1, 38, pa_laws_markChangeS⟩) (key := 3) (by kernel_rfl) (by kernel_rfl) si_laws_markChangeS rfl rfl (fun d k r h => ⟨fu_laws_markChangeS_3 d.1 d.2.1 d.2.2.1, (lp_laws_markChangeS_3 _ d k).trans h⟩) (fun c hc => by rw [show loopsIn co_laws_markChangeS_3 = [] from by kernel_rfl] at hc; cases hc)
theorem sn_laws_markChangeS : Callable Try.prog 67 ∧ Sound Try.prog 67 sd_laws_markChangeS.sg sd_laws_markChangeS.den :=
  fn_loops (pat := pa_laws_markChangeS) L_laws_markChangeS (by kernel_rfl) si_laws_markChangeS Try.func67 (by kernel_rfl) (by kernel_rfl) (fun c hc => by rw [show loopsIn (bodyOf Try.f67) = [co_laws_markChangeS_3] from by kernel_rfl] at hc; simp only [List.mem_cons, List.not_mem_nil, or_false] at hc; rcases hc with rfl <;> first | exact lk_laws_markChangeS_3) fun x r h => by
    obtain ⟨a0, a1, ⟨⟩⟩ := x; obtain ⟨y, h1, h2⟩ := Option.bind_eq_some_iff.1 (show (m_laws_markChangeS a0 a1).bind (fun r => some ((r.1, ()), (r.2, ()))) = some r from h); cases h2; exact (en_laws_markChangeS a0 a1).trans (eq_laws_markChangeS a0 a1 _ h1)
def m_laws_heldPairS (a : List (ByteArray × ByteArray × Unit)) (k : Int) : Option Int := heldM (.pair .str (.pair .str .unit)) a k
def sg_laws_heldPairS : Sig := ⟨[.rd (.sl (.pair .str (.pair .str .unit))), .rd (.int .i64)], [none, none], [.rd (.int .i64)], [none]⟩
noncomputable def sd_laws_heldPairS : SD := ⟨sg_laws_heldPairS, fun x => (m_laws_heldPairS x.1 x.2.1).bind fun r => some ((r, ()), (()))⟩
noncomputable def ta_laws_heldPairS : Tb := Tb.of fun f => if f = 116 then some sd_laws_markText else none
def pa_laws_heldPairS : Nat → Pat × (Nat → Pat) := fun k => if k = 3 then (⟨[.sl 0 0 (.pair .str (.pair .str .unit))], [(0, .lf (.d (.sl (.pair .str (.pair .str .unit))))), (1, .lf (.d (.int .i64))), (5, .lf (.d (.int .i64)))], []⟩, fun e => if e = 1 then ⟨[], [(4, .lf (.d (.int .i64)))], []⟩ else if e = 2 then ⟨[], [(1, .lf (.d (.int .i64)))], []⟩ else ⟨[], [], []⟩) else (⟨[], [], []⟩, fun _ => ⟨[], [], []⟩)
noncomputable def co_laws_heldPairS_3 : Code := (loopsIn (bodyOf Try.f147)).getD 0 .skip
def fu_laws_heldPairS_3 (v0 : List (ByteArray × ByteArray × Unit)) (v1 : Int) (v5 : Int) : Nat := ((v0.length : Int) - v5).toNat + 1
noncomputable def tr_laws_heldPairS_3 {R : Type}  (NX : ((List (ByteArray × ByteArray × Unit)) × (Int) × (Int) × Unit) → Option R) (X2 : ((Int) × Unit) → Option R) (X1 : ((Int) × Unit) → Option R) (v0 : List (ByteArray × ByteArray × Unit)) (v1 : Int) (v5 : Int) : Option R :=
  bif decide (v5 < nI (List.length v0)) then
    bif decide (0 ≤ v5) then
      bif decide (v5 < nI (List.length v0)) then
        Option.bind (Option.bind (m_laws_markText v1) fun val => some ((val, ()), ())) fun val =>
          bif !ByteArray.toList (List.getD v0 (Int.toNat v5) (ByteArray.mk #[], ByteArray.mk #[], ())).fst == ByteArray.toList val.fst.fst then X1 (-1, ())
          else
            bif decide (0 ≤ v5) then
              bif decide (v5 < nI (List.length v0)) then
                Option.bind (Option.bind (m_laws_markText (IntKind.wrap IntKind.i64 (v1 + 1))) fun val => some ((val, ()), ())) fun val =>
                  bif !ByteArray.toList (List.getD v0 (Int.toNat v5) (ByteArray.mk #[], ByteArray.mk #[], ())).snd.fst == ByteArray.toList val.fst.fst then X1 (-1, ())
                  else NX (v0, IntKind.wrap IntKind.i64 (IntKind.wrap IntKind.i64 (v1 + 1) + 1), IntKind.wrap IntKind.i64 (v5 + 1), ())
              else none
            else none
      else none
    else none
  else X2 (v1, ())
noncomputable def lo_laws_heldPairS_3 : Nat → (List (ByteArray × ByteArray × Unit)) → (Int) → (Int) →  Option (((Int) × Unit) ⊕ ((Int) × Unit))
  | 0, _, _, _ => none
  | m + 1, v0, v1, v5 => tr_laws_heldPairS_3  (fun d => lo_laws_heldPairS_3 m d.1 d.2.1 d.2.2.1) (fun d => some (.inl (d))) (fun d => some (.inr (d))) v0 v1 v5
theorem na_laws_heldPairS_3 {R S : Type}  (NX : ((List (ByteArray × ByteArray × Unit)) × (Int) × (Int) × Unit) → Option R) (X2 : ((Int) × Unit) → Option R) (X1 : ((Int) × Unit) → Option R) (v0 : List (ByteArray × ByteArray × Unit)) (v1 : Int) (v5 : Int) (f : R → Option S) : tr_laws_heldPairS_3  (fun d => (NX d).bind f) (fun d => (X2 d).bind f) (fun d => (X1 d).bind f) v0 v1 v5 = (tr_laws_heldPairS_3  NX X2 X1 v0 v1 v5).bind f := by
  unfold tr_laws_heldPairS_3
  simp only [cond_bind, ite_bind, onSum_bind, Option.bind_assoc, Option.bind_none, Option.bind_some]
noncomputable def de_laws_heldPairS (a0 : List (ByteArray × ByteArray × Unit)) (a1 : Int) : Option ((((Int) × Unit) × (Unit))) :=
  Option.bind ((fun d => lo_laws_heldPairS_3 (fu_laws_heldPairS_3 d.1 d.2.1 d.2.2.1) d.1 d.2.1 d.2.2.1) (a0, a1, 0, ())) fun val => onSum (fun val => some ((val.fst, ()), ())) (fun val => some ((val.fst, ()), ())) val
theorem eq_laws_heldPairS (a0 : List (ByteArray × ByteArray × Unit)) (a1 : Int) r (h : m_laws_heldPairS a0 a1 = some r) : de_laws_heldPairS a0 a1 = some ((r, ()), (())) := by
  obtain ⟨g0, g1, hl0, rfl⟩ := heldM_some (t := (.pair .str (.pair .str .unit))) h
  have hl : a0.length ≤ 1125899906842624 := hl0
  have hEE : (fun k : Int => (show ByteArray × ByteArray × Unit from (mkE (.pair .str (.pair .str .unit)) k).1)) = (fun k : Int => (mkT (k), mkT (k + 1), ())) := funext fun k => by
    show (mkT (k), mkT (k + 1), ()) = (mkT (k), mkT (k + 1), ())
    try simp only [Int.add_assoc, Int.add_zero]
    try rfl
  show _ = some ((if eqL (α := ByteArray × ByteArray × Unit) (fun x y : ByteArray × ByteArray × Unit => eqB (.pair .str (.pair .str .unit)) x y) a0 (gL (fun k : Int => (show ByteArray × ByteArray × Unit from (mkE (.pair .str (.pair .str .unit)) k).1)) 2 a0.length a1) = true then a1 + (a0.length : Int) * 2 else -1, ()), ())
  rw [hEE]
  unfold de_laws_heldPairS
  have hL := held_loop (xs := a0) ((ByteArray.mk #[]), (ByteArray.mk #[]), ()) (fun x y : ByteArray × ByteArray × Unit => eqB (.pair .str (.pair .str .unit)) x y) (fun k : Int => (mkT (k), mkT (k + 1), ())) 2 (K := 36028797018963000) (g := fun m k i => lo_laws_heldPairS_3 m a0 k i) (ok := fun k => .inl (k, ())) (bad := .inr (-1, ())) (fun m i k hi h1 hK => by
    show lo_laws_heldPairS_3 (m + 1) a0 k i = bif (fun x y : ByteArray × ByteArray × Unit => eqB (.pair .str (.pair .str .unit)) x y) (List.getD (α := ByteArray × ByteArray × Unit) a0 i ((ByteArray.mk #[]), (ByteArray.mk #[]), ())) ((fun k : Int => (mkT (k), mkT (k + 1), ())) k) then lo_laws_heldPairS_3 m a0 (k + 2) ((i + 1 : Nat) : Int) else _
    have hK1 : k + 2 ≤ 36028797018963000 := by
      have : (1 : Int) ≤ (a0.length - i : Nat) := by omega
      omega
    have hE : (fun x y : ByteArray × ByteArray × Unit => eqB (.pair .str (.pair .str .unit)) x y) (List.getD (α := ByteArray × ByteArray × Unit) a0 i ((ByteArray.mk #[]), (ByteArray.mk #[]), ())) ((fun k : Int => (mkT (k), mkT (k + 1), ())) k) = (eqS (List.getD (α := ByteArray × ByteArray × Unit) a0 i ((ByteArray.mk #[]), (ByteArray.mk #[]), ())).1 (mkT (k + 0)) && (eqS (List.getD (α := ByteArray × ByteArray × Unit) a0 i ((ByteArray.mk #[]), (ByteArray.mk #[]), ())).2.1 (mkT (k + 1)) && true)) := by
      try simp only [Int.add_zero]
      try rfl
    rw [hE, show lo_laws_heldPairS_3 (m + 1) a0 k i = lo_laws_heldPairS_3 (m + 1) a0 (k + 0) i from by rw [Int.add_zero]]
    have k0 : k = k + 0 := (Int.add_zero k).symm
    have t0 : m_laws_markText (k + 0) = some (mkT (k + 0)) := if_pos (by omega)
    have t1 : m_laws_markText (k + 1) = some (mkT (k + 1)) := if_pos (by omega)
    have w0 : IntKind.wrap IntKind.i64 (k + 0 + 1) = k + 1 := by rw [wrap_ok (by omega) (by omega)]; omega
    have w1 : IntKind.wrap IntKind.i64 (k + 1 + 1) = k + 2 := by rw [wrap_ok (by omega) (by omega)]; omega
    have v0 : (!(ByteArray.toList (List.getD (α := ByteArray × ByteArray × Unit) a0 i ((ByteArray.mk #[]), (ByteArray.mk #[]), ())).1 == ByteArray.toList (mkT (k + 0)))) = !eqS (List.getD (α := ByteArray × ByteArray × Unit) a0 i ((ByteArray.mk #[]), (ByteArray.mk #[]), ())).1 (mkT (k + 0)) := rfl
    have v1 : (!(ByteArray.toList (List.getD (α := ByteArray × ByteArray × Unit) a0 i ((ByteArray.mk #[]), (ByteArray.mk #[]), ())).2.1 == ByteArray.toList (mkT (k + 1)))) = !eqS (List.getD (α := ByteArray × ByteArray × Unit) a0 i ((ByteArray.mk #[]), (ByteArray.mk #[]), ())).2.1 (mkT (k + 1)) := rfl
    simp only [lo_laws_heldPairS_3, tr_laws_heldPairS_3]
    simp only [t0, t1,  Option.bind_some, w0, w1,  cLt hi, cLe0, wI (show i < 4611686018427387904 by omega), cond_true, Int.toNat_natCast, v0, v1]
    generalize eqS (List.getD (α := ByteArray × ByteArray × Unit) a0 i ((ByteArray.mk #[]), (ByteArray.mk #[]), ())).1 (mkT (k + 0)) = p0
    generalize eqS (List.getD (α := ByteArray × ByteArray × Unit) a0 i ((ByteArray.mk #[]), (ByteArray.mk #[]), ())).2.1 (mkT (k + 1)) = p1
    cases p0 <;> cases p1 <;> rfl) (fun m k => by
    show lo_laws_heldPairS_3 (m + 1) a0 k a0.length = _
    simp only [lo_laws_heldPairS_3, tr_laws_heldPairS_3]
    rw [cLtF]
    rfl) (fu_laws_heldPairS_3 a0 a1 0) 0 a1 (by omega) (by simp [fu_laws_heldPairS_3]) g0 (by omega)
  have hL' : lo_laws_heldPairS_3 (fu_laws_heldPairS_3 a0 a1 0) a0 a1 0 = _ := hL
  show (lo_laws_heldPairS_3 (fu_laws_heldPairS_3 a0 a1 0) a0 a1 0).bind _ = some ((if eqL (α := ByteArray × ByteArray × Unit) (fun x y : ByteArray × ByteArray × Unit => eqB (.pair .str (.pair .str .unit)) x y) a0 (gL (fun k : Int => (mkT (k), mkT (k + 1), ())) 2 a0.length a1) = true then a1 + (a0.length : Int) * 2 else -1, ()), ())
  rw [hL', List.drop_zero]
  cases eqL (α := ByteArray × ByteArray × Unit) (fun x y : ByteArray × ByteArray × Unit => eqB (.pair .str (.pair .str .unit)) x y) a0 (gL (fun k : Int => (mkT (k), mkT (k + 1), ())) 2 a0.length a1) <;> rfl
noncomputable def ou_laws_heldPairS_3 {R : Type} (k : Kt R) : (((Int) × Unit) ⊕ ((Int) × Unit)) → Option R := (onSum (fun d => k (.exit 0) (((pa_laws_heldPairS 3).2 2).st d) (((pa_laws_heldPairS 3).2 2).nid)) (fun d => k .ret (((pa_laws_heldPairS 3).2 1).st d) (((pa_laws_heldPairS 3).2 1).nid)))
noncomputable def L_laws_heldPairS {R : Type} : Lt R pa_laws_heldPairS := (addL (pat := pa_laws_heldPairS) 3 (fun d k => (lo_laws_heldPairS_3 (fu_laws_heldPairS_3 d.1 d.2.1 d.2.2.1) d.1 d.2.1 d.2.2.1).bind (ou_laws_heldPairS_3 k)) noL)
theorem rd_laws_heldPairS_3 {R : Type} (nx : (pa_laws_heldPairS 3).1.D → Kt R → Option R) (k : Kt R) (v0 : List (ByteArray × ByteArray × Unit)) (v1 : Int) (v5 : Int) : ev Try.prog ⟨ta_laws_heldPairS, 0, 33, pa_laws_heldPairS⟩ L_laws_heldPairS co_laws_heldPairS_3 ((pa_laws_heldPairS 3).1.st (v0, v1, v5, ())) (pa_laws_heldPairS 3).1.nid (roundK 0 (pa_laws_heldPairS 3) nx k) = tr_laws_heldPairS_3  (fun d => nx d k) (fun d => k (.exit 0) (((pa_laws_heldPairS 3).2 2).st d) (((pa_laws_heldPairS 3).2 2).nid)) (fun d => k .ret (((pa_laws_heldPairS 3).2 1).st d) (((pa_laws_heldPairS 3).2 1).nid)) v0 v1 v5 := by kernel_rfl
theorem lp_laws_heldPairS_3 {R : Type} : ∀ (m : Nat) (d : (pa_laws_heldPairS 3).1.D) (k : Kt R), loopN 0 (pa_laws_heldPairS 3) (fun s nid k => ev Try.prog ⟨ta_laws_heldPairS, 0, 33, pa_laws_heldPairS⟩ L_laws_heldPairS co_laws_heldPairS_3 s nid k) m d k = (lo_laws_heldPairS_3 m d.1 d.2.1 d.2.2.1).bind (ou_laws_heldPairS_3 k)
  | 0, _, _ => rfl
  | m + 1, ⟨v0, v1, v5, ⟨⟩⟩, k => (rd_laws_heldPairS_3 _ k v0 v1 v5).trans ((congrArg (fun F => tr_laws_heldPairS_3  F (fun d => k (.exit 0) (((pa_laws_heldPairS 3).2 2).st d) (((pa_laws_heldPairS 3).2 2).nid)) (fun d => k .ret (((pa_laws_heldPairS 3).2 1).st d) (((pa_laws_heldPairS 3).2 1).nid)) v0 v1 v5) (funext fun d => lp_laws_heldPairS_3 m d k)).trans (na_laws_heldPairS_3 (f := ou_laws_heldPairS_3 k)  (fun d => lo_laws_heldPairS_3 m d.1 d.2.1 d.2.2.1) (fun d => some (.inl (d))) (fun d => some (.inr (d))) v0 v1 v5))
theorem en_laws_heldPairS (a0 : List (ByteArray × ByteArray × Unit)) (a1 : Int) : evalF Try.prog ta_laws_heldPairS pa_laws_heldPairS sg_laws_heldPairS Try.f147 L_laws_heldPairS (a0, a1, ()) = de_laws_heldPairS a0 a1 := by kernel_rfl
theorem si_laws_heldPairS : SigsOk Try.prog ta_laws_heldPairS := SigsOk.of fun f sd h => by
  try dsimp only [Tb.of, ta_laws_heldPairS] at h
  split at h
  · rename_i e; subst e; cases h; exact sn_laws_markText
  cases h
theorem lk_laws_heldPairS_3 {R : Type} : LoopOk Try.prog R 33 0 pa_laws_heldPairS L_laws_heldPairS co_laws_heldPairS_3 :=
  loop_key (cfg := ⟨ta_laws_heldPairS, 0, 33, pa_laws_heldPairS⟩) (key := 3) (by kernel_rfl) (by kernel_rfl) si_laws_heldPairS rfl rfl (fun d k r h => ⟨fu_laws_heldPairS_3 d.1 d.2.1 d.2.2.1, (lp_laws_heldPairS_3 _ d k).trans h⟩) (fun c hc => by rw [show loopsIn co_laws_heldPairS_3 = [] from by kernel_rfl] at hc; cases hc)
theorem sn_laws_heldPairS : Callable Try.prog 147 ∧ Sound Try.prog 147 sd_laws_heldPairS.sg sd_laws_heldPairS.den :=
  fn_loops (pat := pa_laws_heldPairS) L_laws_heldPairS (by kernel_rfl) si_laws_heldPairS Try.func147 (by kernel_rfl) (by kernel_rfl) (fun c hc => by rw [show loopsIn (bodyOf Try.f147) = [co_laws_heldPairS_3] from by kernel_rfl] at hc; simp only [List.mem_cons, List.not_mem_nil, or_false] at hc; rcases hc with rfl <;> first | exact lk_laws_heldPairS_3) fun x r h => by
    obtain ⟨a0, a1, ⟨⟩⟩ := x; obtain ⟨y, h1, h2⟩ := Option.bind_eq_some_iff.1 (show (m_laws_heldPairS a0 a1).bind (fun r => some ((r, ()), (()))) = some r from h); cases h2; exact (en_laws_heldPairS a0 a1).trans (eq_laws_heldPairS a0 a1 _ h1)
def m_laws_heldState (a : (List (ByteArray × ByteArray × Unit)) × Unit) (k : Int) : Option Int := (heldM (.pair .str (.pair .str .unit)) a.1 k).bind fun r0 =>  some (if r0 < 0 then -1 else r0)
def sg_laws_heldState : Sig := ⟨[.rd (.pair (.sl (.pair .str (.pair .str .unit))) .unit), .rd (.int .i64)], [some 1, none], [.rd (.int .i64)], [none]⟩
noncomputable def sd_laws_heldState : SD := ⟨sg_laws_heldState, fun x => (m_laws_heldState x.1 x.2.1).bind fun r => some ((r, ()), (()))⟩
noncomputable def ta_laws_heldState : Tb := Tb.of fun f => if f = 147 then some sd_laws_heldPairS else none
def pa_laws_heldState : Nat → Pat × (Nat → Pat) := fun k => (⟨[], [], []⟩, fun _ => ⟨[], [], []⟩)
noncomputable def de_laws_heldState (a0 : (List (ByteArray × ByteArray × Unit)) × Unit) (a1 : Int) : Option ((((Int) × Unit) × (Unit))) :=
  Option.bind (Option.bind (m_laws_heldPairS a0.fst a1) fun val => some ((val, ()), ())) fun val => bif decide (val.fst.fst < 0) then some ((-1, ()), ()) else some ((val.fst.fst, ()), ())
theorem eq_laws_heldState (a0 : (List (ByteArray × ByteArray × Unit)) × Unit) (a1 : Int) r (h : m_laws_heldState a0 a1 = some r) : de_laws_heldState a0 a1 = some ((r, ()), (())) := by
  unfold m_laws_heldState at h
  unfold de_laws_heldState
  obtain ⟨r0, e0, h⟩ := Option.bind_eq_some_iff.1 h
  have e0 : heldM (.pair .str (.pair .str .unit)) a0.1 a1 = some r0 := e0
  simp only [m_laws_heldPairS]
  simp only [e0, Option.bind_some]
  by_cases q0 : r0 < 0
  · simp only [if_pos q0] at h; cases h; simp only [if_pos q0, decide_eq_true q0, cond_true, show decide ((-1 : Int) < 0) = true from rfl]
  · simp only [if_neg q0] at h; cases h; simp only [if_neg q0, decide_eq_false q0, cond_false]
theorem en_laws_heldState (a0 : (List (ByteArray × ByteArray × Unit)) × Unit) (a1 : Int) : evalF Try.prog ta_laws_heldState pa_laws_heldState sg_laws_heldState Try.f68 noL (a0, a1, ()) = de_laws_heldState a0 a1 := by kernel_rfl
theorem si_laws_heldState : SigsOk Try.prog ta_laws_heldState := SigsOk.of fun f sd h => by
  try dsimp only [Tb.of, ta_laws_heldState] at h
  split at h
  · rename_i e; subst e; cases h; exact sn_laws_heldPairS
  cases h
theorem sn_laws_heldState : Callable Try.prog 68 ∧ Sound Try.prog 68 sd_laws_heldState.sg sd_laws_heldState.den :=
  fn_plain (pat := pa_laws_heldState) (by kernel_rfl) si_laws_heldState Try.func68 (by kernel_rfl) (by kernel_rfl) (by kernel_rfl) fun x r h => by
    obtain ⟨a0, a1, ⟨⟩⟩ := x; obtain ⟨y, h1, h2⟩ := Option.bind_eq_some_iff.1 (show (m_laws_heldState a0 a1).bind (fun r => some ((r, ()), (()))) = some r from h); cases h2; exact (en_laws_heldState a0 a1).trans (eq_laws_heldState a0 a1 _ h1)
def sg_laws_FnExactApply : Sig := ⟨[.rd (.pair (.sl (.pair .str (.pair .str .unit))) .unit), .rd (.sl (.pair .str (.pair .str (.pair .bool .unit))))], [some 1, none], [.rd .bool], [none]⟩
noncomputable def ta_laws_FnExactApply : Tb := Tb.of fun f => if f = 15 then some sd_laws_szState else if f = 17 then some sd_laws_toState else if f = 20 then some sd_laws_eqState else if f = 21 then some sd_laws_markState else if f = 62 then some sd_laws_szChangeS else if f = 63 then some sd_spec_Apply else if f = 64 then some sd_laws_toChangeS else if f = 65 then some sd_impl_Apply else if f = 66 then some sd_laws_eqChangeS else if f = 67 then some sd_laws_markChangeS else if f = 68 then some sd_laws_heldState else none
def pa_laws_FnExactApply : Nat → Pat × (Nat → Pat) := fun k => (⟨[], [], []⟩, fun _ => ⟨[], [], []⟩)
noncomputable def de_laws_FnExactApply (a0 : (List (ByteArray × ByteArray × Unit)) × Unit) (a1 : List (ByteArray × ByteArray × Bool × Unit)) : Option ((((Bool) × Unit) × (Unit))) :=
  Option.bind (Option.bind (m_laws_szState (a0.fst, ()) 1048576) fun val => some ((val, ()), ())) fun val =>
    bif decide (val.fst.fst < 0) then some ((true, ()), ())
    else
      Option.bind (Option.bind (m_laws_szChangeS a1 val.fst.fst) fun val => some ((val, ()), ())) fun val =>
        bif decide (val.fst.fst < 0) then some ((true, ()), ())
        else
          Option.bind (Option.bind (m_laws_toState (a0.fst, ())) fun val => some ((val.fst, ()), ())) fun val =>
            Option.bind (Option.bind (m_laws_toChangeS a1) fun val => some ((val, ()), ())) fun val_1 =>
              Option.bind (Option.bind (m_laws_toState (a0.fst, ())) fun val => some ((val.fst, ()), ())) fun val_2 =>
                Option.bind (Option.bind (m_laws_toChangeS a1) fun val => some ((val, ()), ())) fun val_3 =>
                  Option.bind
                    (Option.bind (m_laws_eqState ((m_impl_Apply (val_2.fst.fst, ()) val_3.fst.fst).fst.fst, ()) ((m_spec_Apply (val.fst.fst, ()) val_1.fst.fst).fst.fst, ())) fun val =>
                      some ((val, ()), ()))
                    fun val_4 =>
                    bif !val_4.fst.fst then some ((false, ()), ())
                    else
                      bif (m_impl_Apply (val_2.fst.fst, ()) val_3.fst.fst).snd != (m_spec_Apply (val.fst.fst, ()) val_1.fst.fst).snd then some ((false, ()), ())
                      else
                        Option.bind (Option.bind (m_laws_toState (a0.fst, ())) fun val => some ((val.fst, ()), ())) fun val_5 =>
                          Option.bind (Option.bind (m_laws_eqState (val_2.fst.fst, ()) (val_5.fst.fst, ())) fun val => some ((val, ()), ())) fun val_6 =>
                            bif !val_6.fst.fst then some ((false, ()), ())
                            else
                              Option.bind (Option.bind (m_laws_toChangeS a1) fun val => some ((val, ()), ())) fun val_7 =>
                                Option.bind (Option.bind (m_laws_eqChangeS val_3.fst.fst val_7.fst.fst) fun val => some ((val, ()), ())) fun val_8 =>
                                  bif !val_8.fst.fst then some ((false, ()), ())
                                  else
                                    Option.bind (Option.bind (m_laws_markState (val_2.fst.fst, ()) 1) fun val => some ((val.fst, ()), val.snd, ())) fun val_9 =>
                                      Option.bind (Option.bind (m_laws_markChangeS val_3.fst.fst val_9.fst.fst) fun val => some ((val.fst, ()), val.snd, ())) fun val_10 =>
                                        bif decide (val_10.fst.fst < 0) then some ((false, ()), ())
                                        else
                                          Option.bind
                                            (Option.bind (m_laws_eqState ((m_impl_Apply (val_2.fst.fst, ()) val_3.fst.fst).fst.fst, ()) ((m_spec_Apply (val.fst.fst, ()) val_1.fst.fst).fst.fst, ()))
                                              fun val => some ((val, ()), ()))
                                            fun val_11 =>
                                            bif !val_11.fst.fst then some ((false, ()), ())
                                            else
                                              bif (m_impl_Apply (val_2.fst.fst, ()) val_3.fst.fst).snd != (m_spec_Apply (val.fst.fst, ()) val_1.fst.fst).snd then some ((false, ()), ())
                                              else
                                                Option.bind (Option.bind (m_laws_markState ((m_impl_Apply (val_2.fst.fst, ()) val_3.fst.fst).fst.fst, ()) 1) fun val => some ((val.fst, ()), val.snd, ()))
                                                  fun val_12 =>
                                                  Option.bind (Option.bind (m_laws_heldState (val_12.snd.fst, ()) 1) fun val => some ((val, ()), ())) fun val_13 =>
                                                    bif decide (val_13.fst.fst < 0) then some ((false, ()), ())
                                                    else
                                                      bif val_13.fst.fst != val_12.fst.fst then some ((false, ()), ())
                                                      else
                                                        Option.bind (Option.bind (m_laws_toState (a0.fst, ())) fun val => some ((val.fst, ()), ())) fun val_14 =>
                                                          Option.bind (Option.bind (m_laws_toChangeS a1) fun val => some ((val, ()), ())) fun val_15 =>
                                                            Option.bind
                                                              (Option.bind
                                                                (m_laws_eqState ((m_impl_Apply (val_14.fst.fst, ()) val_15.fst.fst).fst.fst, ())
                                                                  ((m_spec_Apply (val.fst.fst, ()) val_1.fst.fst).fst.fst, ()))
                                                                fun val => some ((val, ()), ()))
                                                              fun val_16 =>
                                                              bif !val_16.fst.fst then some ((false, ()), ())
                                                              else
                                                                bif (m_impl_Apply (val_14.fst.fst, ()) val_15.fst.fst).snd != (m_spec_Apply (val.fst.fst, ()) val_1.fst.fst).snd then
                                                                  some ((false, ()), ())
                                                                else
                                                                  Option.bind (Option.bind (m_laws_heldState (val_12.snd.fst, ()) 1) fun val => some ((val, ()), ())) fun val =>
                                                                    bif decide (val.fst.fst < 0) then some ((false, ()), ())
                                                                    else bif val.fst.fst != val_12.fst.fst then some ((false, ()), ()) else some ((true, ()), ())
noncomputable def sd_laws_FnExactApply : SD := ⟨sg_laws_FnExactApply, fun x => de_laws_FnExactApply x.1 x.2.1⟩
theorem law_FnExactApply (a0 : (List (ByteArray × ByteArray × Unit)) × Unit)  (a1 : List (ByteArray × ByteArray × Bool × Unit)) (h0 : FineD (.pair (.sl (.pair .str (.pair .str .unit))) .unit) a0) (h1 : FineD (.sl (.pair .str (.pair .str (.pair .bool .unit)))) a1) : de_laws_FnExactApply a0 a1 = some ((true, ()), ()) := by
  have hf0 := fine_of h0
  have hf1 := fine_of h1
  unfold de_laws_FnExactApply
  rcases sz_cases (l0 := 1048576) hf0 (by first | decide | assumption) (by first | decide | assumption) (m := m_laws_szState (a0.fst, ()) 1048576) rfl with e0 | ⟨l0, e0, g0, k0, s0, q0⟩
  · simp only [e0, Option.bind_some, lt_m1, cond_true, cond_false]
  · skip
    rcases sz_cases (l0 := l0) hf1 (by first | decide | assumption) (by first | decide | assumption) (m := m_laws_szChangeS a1 l0) rfl with e1 | ⟨l1, e1, g1, k1, s1, q1⟩
    · simp only [e0, q0, e1, Option.bind_some, lt_m1, cond_true, cond_false]
    · skip
      have t0 : m_laws_toState (a0.fst, ()) = some (a0.fst, ()) := toM_is (t := (.pair (.sl (.pair .str (.pair .str .unit))) .unit)) (x := a0) s0
      have u0 : m_laws_eqState (a0.fst, ()) (a0.fst, ()) = some true := eqM_self (t := (.pair (.sl (.pair .str (.pair .str .unit))) .unit)) (x := a0) hf0
      have t1 : m_laws_toChangeS a1 = some a1 := toM_is (t := (.sl (.pair .str (.pair .str (.pair .bool .unit))))) (x := a1) s1
      have u1 : m_laws_eqChangeS a1 a1 = some true := eqM_self (t := (.sl (.pair .str (.pair .str (.pair .bool .unit))))) (x := a1) hf1
      have gw : m_spec_Apply (a0.fst, ()) a1 = m_impl_Apply (a0.fst, ()) a1 := rfl
      have gg0 : goodB (.pair (.sl (.pair .str (.pair .str .unit))) .unit) ((m_impl_Apply (a0.fst, ()) a1).fst) = true := apply_good _ _
      simp only [e0, q0, e1, q1, t0, u0, t1, u1, Option.bind_some, cond_false, gw]
      generalize m_impl_Apply (a0.fst, ()) a1 = g at *
      have v0 : m_laws_eqState (g.fst.fst, ()) (g.fst.fst, ()) = some true := eqM_self (t := (.pair (.sl (.pair .str (.pair .str .unit))) .unit)) (x := g.fst) (good_fine gg0)
      have Lx0 := s0
      simp only [smallB, goodB, Bool.and_eq_true, decide_eq_true_eq, and_true, true_and] at Lx0
      obtain ⟨kx0_0, yx0_0, mx0_0, bx0_0, cx0_0, dx0_0⟩ : ∃ (k2 : Int) (ys : List (ByteArray × ByteArray × Unit)), markM (.pair .str (.pair .str .unit)) a0.fst 1 = (some (k2, ys) : Option (Int × List (ByteArray × ByteArray × Unit))) ∧ 1 ≤ k2 ∧ k2 ≤ 1 + 1073741824 * ((2 : Nat) : Int) ∧ heldM (.pair .str (.pair .str .unit)) ys 1 = some k2 := mk_ex (t := (.pair .str (.pair .str .unit))) (xs := a0.fst) (k := 1) 2 rfl (by omega) (by omega) (by omega)
      have mkx0 : m_laws_markState (a0.fst, ()) 1 = some (kx0_0, yx0_0) := bi_ mx0_0 (rfl)
      have Lx1 := s1
      simp only [smallB, goodB, Bool.and_eq_true, decide_eq_true_eq, and_true, true_and] at Lx1
      obtain ⟨kx1_0, yx1_0, mx1_0, bx1_0, cx1_0, dx1_0⟩ : ∃ (k2 : Int) (ys : List (ByteArray × ByteArray × Bool × Unit)), markM (.pair .str (.pair .str (.pair .bool .unit))) a1 kx0_0 = (some (k2, ys) : Option (Int × List (ByteArray × ByteArray × Bool × Unit))) ∧ kx0_0 ≤ k2 ∧ k2 ≤ kx0_0 + 1073741824 * ((3 : Nat) : Int) ∧ heldM (.pair .str (.pair .str (.pair .bool .unit))) ys kx0_0 = some k2 := mk_ex (t := (.pair .str (.pair .str (.pair .bool .unit)))) (xs := a1) (k := kx0_0) 3 rfl (by omega) (by omega) (by omega)
      have mkx1 : m_laws_markChangeS a1 kx0_0 = some (kx1_0, yx1_0) := mx1_0
      have nkx : decide (kx1_0 < 0) = false := decide_eq_false (by omega)
      have Lz0 := gg0
      simp only [smallB, goodB, Bool.and_eq_true, decide_eq_true_eq, and_true, true_and] at Lz0
      obtain ⟨kz0_0, yz0_0, mz0_0, bz0_0, cz0_0, dz0_0⟩ : ∃ (k2 : Int) (ys : List (ByteArray × ByteArray × Unit)), markM (.pair .str (.pair .str .unit)) g.fst.fst 1 = (some (k2, ys) : Option (Int × List (ByteArray × ByteArray × Unit))) ∧ 1 ≤ k2 ∧ k2 ≤ 1 + 1073741824 * ((2 : Nat) : Int) ∧ heldM (.pair .str (.pair .str .unit)) ys 1 = some k2 := mk_ex (t := (.pair .str (.pair .str .unit))) (xs := g.fst.fst) (k := 1) 2 rfl (by omega) (by omega) (by omega)
      have mkz0 : m_laws_markState (g.fst.fst, ()) 1 = some (kz0_0, yz0_0) := bi_ mz0_0 (rfl)
      have nnz0_0 : ¬ kz0_0 < 0 := by omega
      have hdz0 : m_laws_heldState (yz0_0, ()) 1 = some kz0_0 := bi_ dz0_0 (congrArg some (if_neg nnz0_0))
      have nkz : decide (kz0_0 < 0) = false := decide_eq_false (by omega)
      simp only [e0, q0, e1, q1, t0, u0, t1, u1, v0, mkx0, mkx1, nkx, mkz0, hdz0, nkz, Option.bind_some, cond_false, cond_true, beq_self_eq_true, bne_self_eq_false, Bool.not_true, Bool.or_self, Bool.false_or]
theorem en_laws_FnExactApply (a0 : (List (ByteArray × ByteArray × Unit)) × Unit) (a1 : List (ByteArray × ByteArray × Bool × Unit)) : evalF Try.prog ta_laws_FnExactApply pa_laws_FnExactApply sg_laws_FnExactApply Try.f11 noL (a0, a1, ()) = de_laws_FnExactApply a0 a1 := by kernel_rfl
theorem si_laws_FnExactApply : SigsOk Try.prog ta_laws_FnExactApply := SigsOk.of fun f sd h => by
  try dsimp only [Tb.of, ta_laws_FnExactApply] at h
  split at h
  · rename_i e; subst e; cases h; exact sn_laws_szState
  split at h
  · rename_i e; subst e; cases h; exact sn_laws_toState
  split at h
  · rename_i e; subst e; cases h; exact sn_laws_eqState
  split at h
  · rename_i e; subst e; cases h; exact sn_laws_markState
  split at h
  · rename_i e; subst e; cases h; exact sn_laws_szChangeS
  split at h
  · rename_i e; subst e; cases h; exact sn_spec_Apply
  split at h
  · rename_i e; subst e; cases h; exact sn_laws_toChangeS
  split at h
  · rename_i e; subst e; cases h; exact sn_impl_Apply
  split at h
  · rename_i e; subst e; cases h; exact sn_laws_eqChangeS
  split at h
  · rename_i e; subst e; cases h; exact sn_laws_markChangeS
  split at h
  · rename_i e; subst e; cases h; exact sn_laws_heldState
  cases h
theorem sn_laws_FnExactApply : Callable Try.prog 11 ∧ Sound Try.prog 11 sd_laws_FnExactApply.sg sd_laws_FnExactApply.den :=
  fn_plain (pat := pa_laws_FnExactApply) (by kernel_rfl) si_laws_FnExactApply Try.func11 (by kernel_rfl) (by kernel_rfl) (by kernel_rfl) fun x r h => by
    obtain ⟨a0, a1, ⟨⟩⟩ := x; exact (en_laws_FnExactApply a0 a1).trans h
end Go.Proofs.Ytjoiklaecelalaa.V
