/- What the functions that FnExactGet reaches come to: part 1. No condition. -/
import Derived.Test.YtmhjcfgkheihdaaQBase
import Derived.Test.YtmhjcfgkheihdaaTLay
import Derived.Test.YtmhjcfgkheihdaaProg
import Derived.KernelRfl
namespace Go.Proofs.Ytmhjcfgkheihdaa.V
open Go Go.Proofs.Ytmhjcfgkheihdaa.R Go.Proofs
set_option maxRecDepth 100000
set_option linter.unusedVariables false
set_option linter.unusedSimpArgs false
def m_laws_szPair (a : ByteArray × ByteArray × Unit) (left : Int) : Option Int := szM (.pair .str (.pair .str .unit)) a left
def sg_laws_szPair : Sig := ⟨[.rd (.pair .str (.pair .str .unit)), .rd (.int .i64)], [some 2, none], [.rd (.int .i64)], [none]⟩
def sd_laws_szPair : SD := ⟨sg_laws_szPair, fun x => (m_laws_szPair x.1 x.2.1).bind fun r => some ((r, ()), (()))⟩
def ta_laws_szPair : Tb := Tb.of fun f => none
def pa_laws_szPair : Nat → Pat × (Nat → Pat) := fun k => (⟨[], [], []⟩, fun _ => ⟨[], [], []⟩)
def de_laws_szPair (a0 : ByteArray × ByteArray × Unit) (a1 : Int) : Option ((((Int) × Unit) × (Unit))) :=
  bif decide (IntKind.wrap IntKind.i64 (a1 - nI (ByteArray.size a0.fst)) < 0) then some ((-1, ()), ())
  else
    bif decide (IntKind.wrap IntKind.i64 (IntKind.wrap IntKind.i64 (a1 - nI (ByteArray.size a0.fst)) - nI (ByteArray.size a0.snd.fst)) < 0) then some ((-1, ()), ())
    else some ((IntKind.wrap IntKind.i64 (IntKind.wrap IntKind.i64 (a1 - nI (ByteArray.size a0.fst)) - nI (ByteArray.size a0.snd.fst)), ()), ())
theorem eq_laws_szPair (a0 : ByteArray × ByteArray × Unit) (a1 : Int) r (h : m_laws_szPair a0 a1 = some r) : de_laws_szPair a0 a1 = some ((r, ()), (())) := by
  obtain ⟨hc, g0, g1, rfl⟩ := szM_some (t := (.pair .str (.pair .str .unit))) h
  obtain ⟨hc0, hc1, _⟩ : fineB .str a0.1 = true ∧ fineB .str a0.2.1 = true ∧ True := by
    have s := hc
    obtain ⟨h0, s⟩ := fineB_pair s
    obtain ⟨h1, s⟩ := fineB_pair s
    exact ⟨h0, h1, trivial⟩
  unfold de_laws_szPair
  have hwt : (wt (.pair .str (.pair .str .unit)) a0 : Int) = (ByteArray.size a0.1 : Int) + (ByteArray.size a0.2.1 : Int) := by simp only [wt]; omega
  rw [hwt]
  have hs0 : ByteArray.size a0.1 < 1152921504606846976 := fineB_str hc0
  have e0 : IntKind.i64.wrap (a1 - nI (ByteArray.size a0.1)) = a1 - (ByteArray.size a0.1 : Int) := wrap_ok (by simp only [nI]; omega) (by simp only [nI]; omega)
  simp only [e0]
  by_cases q0 : a1 - (ByteArray.size a0.1 : Int) < 0
  · simp only [decide_eq_true q0, cond_true]; try rw [if_pos (by omega)]
  · simp only [decide_eq_false q0, cond_false]
    have hs1 : ByteArray.size a0.2.1 < 1152921504606846976 := fineB_str hc1
    have e1 : IntKind.i64.wrap (a1 - (ByteArray.size a0.1 : Int) - nI (ByteArray.size a0.2.1)) = a1 - (ByteArray.size a0.1 : Int) - (ByteArray.size a0.2.1 : Int) := wrap_ok (by simp only [nI]; omega) (by simp only [nI]; omega)
    simp only [e1]
    by_cases q1 : a1 - (ByteArray.size a0.1 : Int) - (ByteArray.size a0.2.1 : Int) < 0
    · simp only [decide_eq_true q1, cond_true]; try rw [if_pos (by omega)]
    · simp only [decide_eq_false q1, cond_false]
      rw [if_neg (by omega)]
      simp only [Int.sub_sub, Int.add_assoc]
theorem en_laws_szPair (a0 : ByteArray × ByteArray × Unit) (a1 : Int) : evalF Try.prog ta_laws_szPair pa_laws_szPair sg_laws_szPair Try.f113 noL (a0, a1, ()) = de_laws_szPair a0 a1 := by kernel_rfl
theorem si_laws_szPair : SigsOk Try.prog ta_laws_szPair := SigsOk.of fun f sd h => by
  try dsimp only [Tb.of, ta_laws_szPair] at h
  cases h
theorem sn_laws_szPair : Callable Try.prog 113 ∧ Sound Try.prog 113 sd_laws_szPair.sg sd_laws_szPair.den :=
  fn_plain (pat := pa_laws_szPair) (by kernel_rfl) si_laws_szPair Try.func113 (by kernel_rfl) (by kernel_rfl) (by kernel_rfl) fun x r h => by
    obtain ⟨a0, a1, ⟨⟩⟩ := x; obtain ⟨y, h1, h2⟩ := Option.bind_eq_some_iff.1 (show (m_laws_szPair a0 a1).bind (fun r => some ((r, ()), (()))) = some r from h); cases h2; exact (en_laws_szPair a0 a1).trans (eq_laws_szPair a0 a1 _ h1)
def m_laws_szPairS (a : List (ByteArray × ByteArray × Unit)) (left : Int) : Option Int := szM (.sl (.pair .str (.pair .str .unit))) a left
def sg_laws_szPairS : Sig := ⟨[.rd (.sl (.pair .str (.pair .str .unit))), .rd (.int .i64)], [none, none], [.rd (.int .i64)], [none]⟩
def sd_laws_szPairS : SD := ⟨sg_laws_szPairS, fun x => (m_laws_szPairS x.1 x.2.1).bind fun r => some ((r, ()), (()))⟩
def ta_laws_szPairS : Tb := Tb.of fun f => if f = 113 then some sd_laws_szPair else none
def pa_laws_szPairS : Nat → Pat × (Nat → Pat) := fun k => if k = 6 then (⟨[.sl 0 0 (.pair .str (.pair .str .unit))], [(0, .lf (.d (.sl (.pair .str (.pair .str .unit))))), (1, .lf (.d (.int .i64))), (5, .lf (.d (.int .i64)))], []⟩, fun e => if e = 1 then ⟨[], [(4, .lf (.d (.int .i64)))], []⟩ else if e = 2 then ⟨[], [(1, .lf (.d (.int .i64)))], []⟩ else ⟨[], [], []⟩) else (⟨[], [], []⟩, fun _ => ⟨[], [], []⟩)
noncomputable def co_laws_szPairS_6 : Code := (loopsIn (bodyOf Try.f66)).getD 0 .skip
def fu_laws_szPairS_6 (v0 : List (ByteArray × ByteArray × Unit)) (v1 : Int) (v5 : Int) : Nat := ((v0.length : Int) - v5).toNat + 1
def tr_laws_szPairS_6 {R : Type}  (NX : ((List (ByteArray × ByteArray × Unit)) × (Int) × (Int) × Unit) → Option R) (X2 : ((Int) × Unit) → Option R) (X1 : ((Int) × Unit) → Option R) (v0 : List (ByteArray × ByteArray × Unit)) (v1 : Int) (v5 : Int) : Option R :=
  bif decide (v5 < nI (List.length v0)) then
    bif decide (0 ≤ v5) then
      bif decide (v5 < nI (List.length v0)) then
        Option.bind
          (Option.bind (m_laws_szPair ((List.getD v0 (Int.toNat v5) (ByteArray.mk #[], ByteArray.mk #[], ())).fst, (List.getD v0 (Int.toNat v5) (ByteArray.mk #[], ByteArray.mk #[], ())).snd.fst, ()) v1)
            fun val => some ((val, ()), ()))
          fun val => bif decide (val.fst.fst < 0) then X1 (-1, ()) else NX (v0, val.fst.fst, IntKind.wrap IntKind.i64 (v5 + 1), ())
      else none
    else none
  else X2 (v1, ())
def lo_laws_szPairS_6 : Nat → (List (ByteArray × ByteArray × Unit)) → (Int) → (Int) →  Option (((Int) × Unit) ⊕ ((Int) × Unit))
  | 0, _, _, _ => none
  | m + 1, v0, v1, v5 => tr_laws_szPairS_6  (fun d => lo_laws_szPairS_6 m d.1 d.2.1 d.2.2.1) (fun d => some (.inl (d))) (fun d => some (.inr (d))) v0 v1 v5
theorem na_laws_szPairS_6 {R S : Type}  (NX : ((List (ByteArray × ByteArray × Unit)) × (Int) × (Int) × Unit) → Option R) (X2 : ((Int) × Unit) → Option R) (X1 : ((Int) × Unit) → Option R) (v0 : List (ByteArray × ByteArray × Unit)) (v1 : Int) (v5 : Int) (f : R → Option S) : tr_laws_szPairS_6  (fun d => (NX d).bind f) (fun d => (X2 d).bind f) (fun d => (X1 d).bind f) v0 v1 v5 = (tr_laws_szPairS_6  NX X2 X1 v0 v1 v5).bind f := by
  unfold tr_laws_szPairS_6
  simp only [cond_bind, ite_bind, onSum_bind, Option.bind_assoc, Option.bind_none, Option.bind_some]
def de_laws_szPairS (a0 : List (ByteArray × ByteArray × Unit)) (a1 : Int) : Option ((((Int) × Unit) × (Unit))) :=
  bif decide (IntKind.wrap IntKind.i64 (a1 - nI (List.length a0)) < 0) then some ((-1, ()), ())
  else Option.bind ((fun d => lo_laws_szPairS_6 (fu_laws_szPairS_6 d.1 d.2.1 d.2.2.1) d.1 d.2.1 d.2.2.1) (a0, IntKind.wrap IntKind.i64 (a1 - nI (List.length a0)), 0, ())) fun val => onSum (fun val => some ((val.fst, ()), ())) (fun val => some ((val.fst, ()), ())) val
theorem eq_laws_szPairS (a0 : List (ByteArray × ByteArray × Unit)) (a1 : Int) r (h : m_laws_szPairS a0 a1 = some r) : de_laws_szPairS a0 a1 = some ((r, ()), (())) := by
  obtain ⟨hc, g0, g1, rfl⟩ := szM_some (t := .sl (.pair .str (.pair .str .unit))) h
  obtain ⟨hl0, hall⟩ := fineB_sl hc
  have hl : a0.length < 1152921504606846976 := hl0
  clear hl0 hc
  · unfold de_laws_szPairS
    have hw1 : IntKind.i64.wrap (a1 - nI a0.length) = a1 - (a0.length : Int) := wrap_ok (by simp only [nI]; omega) (by simp only [nI]; omega)
    rw [hw1]
    have hL := sz_loop (xs := a0) ((ByteArray.mk #[]), (ByteArray.mk #[]), ()) (fun x : ByteArray × ByteArray × Unit => wt (.pair .str (.pair .str .unit)) x) (g := fun m l i => lo_laws_szPairS_6 m a0 l i) (ok := fun l => .inl (l, ())) (bad := .inr (-1, ())) (fun m i l hi h0 h1 => by
      show lo_laws_szPairS_6 (m + 1) a0 l i = _
      simp only [lo_laws_szPairS_6, tr_laws_szPairS_6]
      rw [cLt hi, cLe0, wI (by omega)]
      simp only [cond_true, Int.toNat_natCast]
      have hE : m_laws_szPair ((List.getD (α := ByteArray × ByteArray × Unit) a0 i ((ByteArray.mk #[]), (ByteArray.mk #[]), ())).fst, (List.getD (α := ByteArray × ByteArray × Unit) a0 i ((ByteArray.mk #[]), (ByteArray.mk #[]), ())).snd.fst, ()) l = some (if l - (wt (.pair .str (.pair .str .unit)) (List.getD (α := ByteArray × ByteArray × Unit) a0 i ((ByteArray.mk #[]), (ByteArray.mk #[]), ())) : Int) < 0 then -1 else l - wt (.pair .str (.pair .str .unit)) (List.getD (α := ByteArray × ByteArray × Unit) a0 i ((ByteArray.mk #[]), (ByteArray.mk #[]), ()))) := by
        exact szM_is (t := (.pair .str (.pair .str .unit))) (x := (List.getD (α := ByteArray × ByteArray × Unit) a0 i ((ByteArray.mk #[]), (ByteArray.mk #[]), ()))) (hall _ (getD_mem ((ByteArray.mk #[]), (ByteArray.mk #[]), ()) hi)) h0 h1
      rw [hE]
      by_cases q : l - (wt (.pair .str (.pair .str .unit)) (List.getD (α := ByteArray × ByteArray × Unit) a0 i ((ByteArray.mk #[]), (ByteArray.mk #[]), ())) : Int) < 0
      · simp only [if_pos q, decide_eq_true q, Option.bind_some, cond_true]; rfl
      · simp only [if_neg q, decide_eq_false q, Option.bind_some, cond_false]
    ) (fun m l => by
      show lo_laws_szPairS_6 (m + 1) a0 l a0.length = _
      simp only [lo_laws_szPairS_6, tr_laws_szPairS_6]
      rw [cLtF]
      rfl) (fu_laws_szPairS_6 a0 (a1 - (a0.length : Int)) 0) 0 (a1 - (a0.length : Int)) (by omega) (by simp [fu_laws_szPairS_6])
    have hW : wt (.sl (.pair .str (.pair .str .unit))) a0 = a0.length + (a0.map (fun x : ByteArray × ByteArray × Unit => wt (.pair .str (.pair .str .unit)) x)).sum := rfl
    rw [hW]
    by_cases q : a1 - (a0.length : Int) < 0
    · simp only [decide_eq_true q, cond_true]; rw [if_pos (by omega)]
    · simp only [decide_eq_false q, cond_false]
      have hL := hL (by omega) (by omega)
      rw [List.drop_zero] at hL
      show (lo_laws_szPairS_6 (fu_laws_szPairS_6 a0 (a1 - (a0.length : Int)) 0) a0 (a1 - (a0.length : Int)) 0).bind _ = _
      have hL' : lo_laws_szPairS_6 (fu_laws_szPairS_6 a0 (a1 - (a0.length : Int)) 0) a0 (a1 - (a0.length : Int)) 0 = _ := hL
      rw [hL']
      have hsum : a1 - ((a0.length + (a0.map (fun x : ByteArray × ByteArray × Unit => wt (.pair .str (.pair .str .unit)) x)).sum : Nat) : Int) = a1 - (a0.length : Int) - ((a0.map (fun x : ByteArray × ByteArray × Unit => wt (.pair .str (.pair .str .unit)) x)).sum : Int) := by omega
      rw [hsum]
      by_cases q2 : a1 - (a0.length : Int) - ((a0.map (fun x : ByteArray × ByteArray × Unit => wt (.pair .str (.pair .str .unit)) x)).sum : Int) < 0
      · simp only [if_pos q2]; rfl
      · simp only [if_neg q2]; rfl
def ou_laws_szPairS_6 {R : Type} (k : Kt R) : (((Int) × Unit) ⊕ ((Int) × Unit)) → Option R := (onSum (fun d => k (.exit 0) (((pa_laws_szPairS 6).2 2).st d) (((pa_laws_szPairS 6).2 2).nid)) (fun d => k .ret (((pa_laws_szPairS 6).2 1).st d) (((pa_laws_szPairS 6).2 1).nid)))
def L_laws_szPairS {R : Type} : Lt R pa_laws_szPairS := (addL (pat := pa_laws_szPairS) 6 (fun d k => (lo_laws_szPairS_6 (fu_laws_szPairS_6 d.1 d.2.1 d.2.2.1) d.1 d.2.1 d.2.2.1).bind (ou_laws_szPairS_6 k)) noL)
theorem rd_laws_szPairS_6 {R : Type} (nx : (pa_laws_szPairS 6).1.D → Kt R → Option R) (k : Kt R) (v0 : List (ByteArray × ByteArray × Unit)) (v1 : Int) (v5 : Int) : ev Try.prog ⟨ta_laws_szPairS, 0, 27, pa_laws_szPairS⟩ L_laws_szPairS co_laws_szPairS_6 ((pa_laws_szPairS 6).1.st (v0, v1, v5, ())) (pa_laws_szPairS 6).1.nid (roundK 0 (pa_laws_szPairS 6) nx k) = tr_laws_szPairS_6  (fun d => nx d k) (fun d => k (.exit 0) (((pa_laws_szPairS 6).2 2).st d) (((pa_laws_szPairS 6).2 2).nid)) (fun d => k .ret (((pa_laws_szPairS 6).2 1).st d) (((pa_laws_szPairS 6).2 1).nid)) v0 v1 v5 := by kernel_rfl
theorem lp_laws_szPairS_6 {R : Type} : ∀ (m : Nat) (d : (pa_laws_szPairS 6).1.D) (k : Kt R), loopN 0 (pa_laws_szPairS 6) (fun s nid k => ev Try.prog ⟨ta_laws_szPairS, 0, 27, pa_laws_szPairS⟩ L_laws_szPairS co_laws_szPairS_6 s nid k) m d k = (lo_laws_szPairS_6 m d.1 d.2.1 d.2.2.1).bind (ou_laws_szPairS_6 k)
  | 0, _, _ => rfl
  | m + 1, ⟨v0, v1, v5, ⟨⟩⟩, k => (rd_laws_szPairS_6 _ k v0 v1 v5).trans ((congrArg (fun F => tr_laws_szPairS_6  F (fun d => k (.exit 0) (((pa_laws_szPairS 6).2 2).st d) (((pa_laws_szPairS 6).2 2).nid)) (fun d => k .ret (((pa_laws_szPairS 6).2 1).st d) (((pa_laws_szPairS 6).2 1).nid)) v0 v1 v5) (funext fun d => lp_laws_szPairS_6 m d k)).trans (na_laws_szPairS_6 (f := ou_laws_szPairS_6 k)  (fun d => lo_laws_szPairS_6 m d.1 d.2.1 d.2.2.1) (fun d => some (.inl (d))) (fun d => some (.inr (d))) v0 v1 v5))
theorem en_laws_szPairS (a0 : List (ByteArray × ByteArray × Unit)) (a1 : Int) : evalF Try.prog ta_laws_szPairS pa_laws_szPairS sg_laws_szPairS Try.f66 L_laws_szPairS (a0, a1, ()) = de_laws_szPairS a0 a1 := by kernel_rfl
theorem si_laws_szPairS : SigsOk Try.prog ta_laws_szPairS := SigsOk.of fun f sd h => by
  try dsimp only [Tb.of, ta_laws_szPairS] at h
  split at h
  · rename_i e; subst e; cases h; exact sn_laws_szPair
  cases h
theorem lk_laws_szPairS_6 {R : Type} : LoopOk Try.prog R 27 0 pa_laws_szPairS L_laws_szPairS co_laws_szPairS_6 :=
  loop_key (cfg := ⟨ta_laws_szPairS, 0, 27, pa_laws_szPairS⟩) (key := 6) (by kernel_rfl) (by kernel_rfl) si_laws_szPairS rfl rfl (fun d k r h => ⟨fu_laws_szPairS_6 d.1 d.2.1 d.2.2.1, (lp_laws_szPairS_6 _ d k).trans h⟩) (fun c hc => by rw [show loopsIn co_laws_szPairS_6 = [] from by kernel_rfl] at hc; cases hc)
theorem sn_laws_szPairS : Callable Try.prog 66 ∧ Sound Try.prog 66 sd_laws_szPairS.sg sd_laws_szPairS.den :=
  fn_loops (pat := pa_laws_szPairS) L_laws_szPairS (by kernel_rfl) si_laws_szPairS Try.func66 (by kernel_rfl) (by kernel_rfl) (fun c hc => by rw [show loopsIn (bodyOf Try.f66) = [co_laws_szPairS_6] from by kernel_rfl] at hc; simp only [List.mem_cons, List.not_mem_nil, or_false] at hc; rcases hc with rfl <;> first | exact lk_laws_szPairS_6) fun x r h => by
    obtain ⟨a0, a1, ⟨⟩⟩ := x; obtain ⟨y, h1, h2⟩ := Option.bind_eq_some_iff.1 (show (m_laws_szPairS a0 a1).bind (fun r => some ((r, ()), (()))) = some r from h); cases h2; exact (en_laws_szPairS a0 a1).trans (eq_laws_szPairS a0 a1 _ h1)
def m_laws_szState (a : (List (ByteArray × ByteArray × Unit)) × Unit) (left : Int) : Option Int := szM (.pair (.sl (.pair .str (.pair .str .unit))) .unit) a left
def sg_laws_szState : Sig := ⟨[.rd (.pair (.sl (.pair .str (.pair .str .unit))) .unit), .rd (.int .i64)], [some 1, none], [.rd (.int .i64)], [none]⟩
def sd_laws_szState : SD := ⟨sg_laws_szState, fun x => (m_laws_szState x.1 x.2.1).bind fun r => some ((r, ()), (()))⟩
def ta_laws_szState : Tb := Tb.of fun f => if f = 66 then some sd_laws_szPairS else none
def pa_laws_szState : Nat → Pat × (Nat → Pat) := fun k => (⟨[], [], []⟩, fun _ => ⟨[], [], []⟩)
def de_laws_szState (a0 : (List (ByteArray × ByteArray × Unit)) × Unit) (a1 : Int) : Option ((((Int) × Unit) × (Unit))) :=
  Option.bind (Option.bind (m_laws_szPairS a0.fst a1) fun val => some ((val, ()), ())) fun val => bif decide (val.fst.fst < 0) then some ((-1, ()), ()) else some ((val.fst.fst, ()), ())
theorem eq_laws_szState (a0 : (List (ByteArray × ByteArray × Unit)) × Unit) (a1 : Int) r (h : m_laws_szState a0 a1 = some r) : de_laws_szState a0 a1 = some ((r, ()), (())) := by
  obtain ⟨hc, g0, g1, rfl⟩ := szM_some (t := (.pair (.sl (.pair .str (.pair .str .unit))) .unit)) h
  obtain ⟨hc0, _⟩ : fineB (.sl (.pair .str (.pair .str .unit))) a0.1 = true ∧ True := by
    have s := hc
    obtain ⟨h0, s⟩ := fineB_pair s
    exact ⟨h0, trivial⟩
  unfold de_laws_szState
  have hwt : (wt (.pair (.sl (.pair .str (.pair .str .unit))) .unit) a0 : Int) = (wt (.sl (.pair .str (.pair .str .unit))) a0.1 : Int) := by simp only [wt]; omega
  rw [hwt]
  have e0 : m_laws_szPairS a0.1 (a1) = some (if a1 - (wt (.sl (.pair .str (.pair .str .unit))) a0.1 : Int) < 0 then -1 else a1 - (wt (.sl (.pair .str (.pair .str .unit))) a0.1 : Int)) := szM_is (t := (.sl (.pair .str (.pair .str .unit)))) (x := a0.1) hc0 (by omega) (by omega)
  simp only [show m_laws_szPairS a0.1 (a1) = _ from e0, Option.bind_some]
  by_cases q0 : a1 - (wt (.sl (.pair .str (.pair .str .unit))) a0.1 : Int) < 0
  · simp only [if_pos q0, show decide ((-1 : Int) < 0) = true from rfl, cond_true]; try rw [if_pos (by omega)]
  · simp only [if_neg q0, decide_eq_false q0, cond_false]
    try rw [if_neg q0]
theorem en_laws_szState (a0 : (List (ByteArray × ByteArray × Unit)) × Unit) (a1 : Int) : evalF Try.prog ta_laws_szState pa_laws_szState sg_laws_szState Try.f16 noL (a0, a1, ()) = de_laws_szState a0 a1 := by kernel_rfl
theorem si_laws_szState : SigsOk Try.prog ta_laws_szState := SigsOk.of fun f sd h => by
  try dsimp only [Tb.of, ta_laws_szState] at h
  split at h
  · rename_i e; subst e; cases h; exact sn_laws_szPairS
  cases h
theorem sn_laws_szState : Callable Try.prog 16 ∧ Sound Try.prog 16 sd_laws_szState.sg sd_laws_szState.den :=
  fn_plain (pat := pa_laws_szState) (by kernel_rfl) si_laws_szState Try.func16 (by kernel_rfl) (by kernel_rfl) (by kernel_rfl) fun x r h => by
    obtain ⟨a0, a1, ⟨⟩⟩ := x; obtain ⟨y, h1, h2⟩ := Option.bind_eq_some_iff.1 (show (m_laws_szState a0 a1).bind (fun r => some ((r, ()), (()))) = some r from h); cases h2; exact (en_laws_szState a0 a1).trans (eq_laws_szState a0 a1 _ h1)
def m_laws_toPair (a : ByteArray × ByteArray × Unit) : Option (ByteArray × ByteArray × Unit) := toM (.pair .str (.pair .str .unit)) a
def sg_laws_toPair : Sig := ⟨[.rd (.pair .str (.pair .str .unit))], [some 2], [.rd (.pair .str (.pair .str .unit))], [some 2]⟩
def sd_laws_toPair : SD := ⟨sg_laws_toPair, fun x => (m_laws_toPair x.1).bind fun r => some ((r, ()), (()))⟩
def ta_laws_toPair : Tb := Tb.of fun f => none
def pa_laws_toPair : Nat → Pat × (Nat → Pat) := fun k => (⟨[], [], []⟩, fun _ => ⟨[], [], []⟩)
def de_laws_toPair (a0 : ByteArray × ByteArray × Unit) : Option ((((ByteArray × ByteArray × Unit) × Unit) × (Unit))) :=
  some (((a0.fst, a0.snd.fst, ()), ()), ())
theorem eq_laws_toPair (a0 : ByteArray × ByteArray × Unit) r (h : m_laws_toPair a0 = some r) : de_laws_toPair a0 = some ((r, ()), (())) := by
  obtain ⟨hc, rfl⟩ := toM_some (t := (.pair .str (.pair .str .unit))) h
  · rfl
theorem en_laws_toPair (a0 : ByteArray × ByteArray × Unit) : evalF Try.prog ta_laws_toPair pa_laws_toPair sg_laws_toPair Try.f114 noL (a0, ()) = de_laws_toPair a0 := by kernel_rfl
theorem si_laws_toPair : SigsOk Try.prog ta_laws_toPair := SigsOk.of fun f sd h => by
  try dsimp only [Tb.of, ta_laws_toPair] at h
  cases h
theorem sn_laws_toPair : Callable Try.prog 114 ∧ Sound Try.prog 114 sd_laws_toPair.sg sd_laws_toPair.den :=
  fn_plain (pat := pa_laws_toPair) (by kernel_rfl) si_laws_toPair Try.func114 (by kernel_rfl) (by kernel_rfl) (by kernel_rfl) fun x r h => by
    obtain ⟨a0, ⟨⟩⟩ := x; obtain ⟨y, h1, h2⟩ := Option.bind_eq_some_iff.1 (show (m_laws_toPair a0).bind (fun r => some ((r, ()), (()))) = some r from h); cases h2; exact (en_laws_toPair a0).trans (eq_laws_toPair a0 _ h1)
def m_laws_toPairS (a : List (ByteArray × ByteArray × Unit)) : Option (List (ByteArray × ByteArray × Unit)) := toM (.sl (.pair .str (.pair .str .unit))) a
def sg_laws_toPairS : Sig := ⟨[.rd (.sl (.pair .str (.pair .str .unit)))], [none], [.own 95 (.pair .str (.pair .str .unit))], [none]⟩
def sd_laws_toPairS : SD := ⟨sg_laws_toPairS, fun x => (m_laws_toPairS x.1).bind fun r => some ((r, ()), (()))⟩
def ta_laws_toPairS : Tb := Tb.of fun f => if f = 114 then some sd_laws_toPair else none
def pa_laws_toPairS : Nat → Pat × (Nat → Pat) := fun k => if k = 4 then (⟨[.sl 0 0 (.pair .str (.pair .str .unit)), .row 3 0 95 (.pair .str (.pair .str .unit))], [(0, .lf (.d (.sl (.pair .str (.pair .str .unit))))), (3, .lf (.row 0)), (4, .lf (.d (.int .i64)))], [.row 95 (.pair .str (.pair .str .unit))]⟩, fun e => if e = 2 then ⟨[.row 3 0 95 (.pair .str (.pair .str .unit))], [(3, .lf (.row 0))], [.row 95 (.pair .str (.pair .str .unit))]⟩ else ⟨[], [], []⟩) else (⟨[], [], []⟩, fun _ => ⟨[], [], []⟩)
noncomputable def co_laws_toPairS_4 : Code := (loopsIn (bodyOf Try.f68)).getD 0 .skip
def fu_laws_toPairS_4 (v0 : List (ByteArray × ByteArray × Unit)) (v4 : Int) (r0 : List (ByteArray × ByteArray × Unit)) : Nat := ((v0.length : Int) - v4).toNat + 1
def tr_laws_toPairS_4 {R : Type}  (NX : ((List (ByteArray × ByteArray × Unit)) × (Int) × (List (ByteArray × ByteArray × Unit)) × Unit) → Option R) (X2 : ((List (ByteArray × ByteArray × Unit)) × Unit) → Option R) (v0 : List (ByteArray × ByteArray × Unit)) (v4 : Int) (r0 : List (ByteArray × ByteArray × Unit)) : Option R :=
  bif decide (v4 < nI (List.length v0)) then
    bif decide (0 ≤ v4) then
      bif decide (v4 < nI (List.length v0)) then
        bif decide (0 ≤ v4) then
          bif decide (v4 < nI (List.length r0)) then
            bif decide (Int.toNat v4 < List.length r0) then
              NX
                (v0, IntKind.wrap IntKind.i64 (v4 + 1),
                  List.set r0 (Int.toNat v4)
                    ((List.getD v0 (Int.toNat v4) (ByteArray.mk #[], ByteArray.mk #[], ())).fst, (List.getD v0 (Int.toNat v4) (ByteArray.mk #[], ByteArray.mk #[], ())).snd.fst, ()),
                  ())
            else none
          else none
        else none
      else none
    else none
  else X2 (r0, ())
def lo_laws_toPairS_4 : Nat → (List (ByteArray × ByteArray × Unit)) → (Int) → (List (ByteArray × ByteArray × Unit)) →  Option ((List (ByteArray × ByteArray × Unit)) × Unit)
  | 0, _, _, _ => none
  | m + 1, v0, v4, r0 => tr_laws_toPairS_4  (fun d => lo_laws_toPairS_4 m d.1 d.2.1 d.2.2.1) (fun d => some (d)) v0 v4 r0
theorem na_laws_toPairS_4 {R S : Type}  (NX : ((List (ByteArray × ByteArray × Unit)) × (Int) × (List (ByteArray × ByteArray × Unit)) × Unit) → Option R) (X2 : ((List (ByteArray × ByteArray × Unit)) × Unit) → Option R) (v0 : List (ByteArray × ByteArray × Unit)) (v4 : Int) (r0 : List (ByteArray × ByteArray × Unit)) (f : R → Option S) : tr_laws_toPairS_4  (fun d => (NX d).bind f) (fun d => (X2 d).bind f) v0 v4 r0 = (tr_laws_toPairS_4  NX X2 v0 v4 r0).bind f := by
  unfold tr_laws_toPairS_4
  simp only [cond_bind, ite_bind, onSum_bind, Option.bind_assoc, Option.bind_none, Option.bind_some]
def de_laws_toPairS (a0 : List (ByteArray × ByteArray × Unit)) : Option ((((List (ByteArray × ByteArray × Unit)) × Unit) × (Unit))) :=
  bif decide (nI (List.length a0) = nI (List.length a0)) then
    bif decide (Int.toNat (nI (List.length a0)) * 32 ≤ 140737488355328) then
      Option.bind ((fun d => lo_laws_toPairS_4 (fu_laws_toPairS_4 d.1 d.2.1 d.2.2.1) d.1 d.2.1 d.2.2.1) (a0, 0, List.replicate (Int.toNat (nI (List.length a0))) (ByteArray.mk #[], ByteArray.mk #[], ()), ())) fun val => some ((val.fst, ()), ())
    else none
  else none
theorem eq_laws_toPairS (a0 : List (ByteArray × ByteArray × Unit)) r (h : m_laws_toPairS a0 = some r) : de_laws_toPairS a0 = some ((r, ()), (())) := by
  obtain ⟨hc, rfl⟩ := toM_some (t := .sl (.pair .str (.pair .str .unit))) h
  obtain ⟨hl0, hall⟩ := smallB_sl hc
  have hl : a0.length ≤ 1048576 := hl0
  clear hl0 hc h
  · unfold de_laws_toPairS
    have e : Int.toNat (nI a0.length) = a0.length := by simp [nI]
    have hL := to_loop (xs := a0) ((ByteArray.mk #[]), (ByteArray.mk #[]), ()) (g := fun m i r => lo_laws_toPairS_4 m a0 i r) (ok := fun r => (r, ())) (fun m i r hi hr => by
      show lo_laws_toPairS_4 (m + 1) a0 i r = _
      simp only [lo_laws_toPairS_4, tr_laws_toPairS_4]
      have hir : i < r.length := by omega
      rw [cLt hi, cLe0, cLt hir, wI (by omega)]
      simp only [cond_true, Int.toNat_natCast]
      rw [cLtN hir]
      rfl) (fun m r => by
      show lo_laws_toPairS_4 (m + 1) a0 a0.length r = _
      simp only [lo_laws_toPairS_4, tr_laws_toPairS_4]
      rw [cLtF]
      rfl) (fu_laws_toPairS_4 a0 0 (List.replicate a0.length ((ByteArray.mk #[]), (ByteArray.mk #[]), ()))) 0 (List.replicate a0.length ((ByteArray.mk #[]), (ByteArray.mk #[]), ())) (by omega) (by simp [fu_laws_toPairS_4]) (by simp)
    have c1 : decide (Int.toNat (nI a0.length) * 32 ≤ 140737488355328) = true := by rw [e]; simp; omega
    rw [c1, decide_eq_true rfl, e]
    have hL' : lo_laws_toPairS_4 (fu_laws_toPairS_4 a0 0 (List.replicate a0.length ((ByteArray.mk #[]), (ByteArray.mk #[]), ()))) a0 0 (List.replicate a0.length ((ByteArray.mk #[]), (ByteArray.mk #[]), ())) = _ := hL
    show (lo_laws_toPairS_4 (fu_laws_toPairS_4 a0 0 (List.replicate a0.length ((ByteArray.mk #[]), (ByteArray.mk #[]), ()))) a0 0 (List.replicate a0.length ((ByteArray.mk #[]), (ByteArray.mk #[]), ()))).bind _ = _
    rw [hL']
    rfl
def ou_laws_toPairS_4 {R : Type} (k : Kt R) : ((List (ByteArray × ByteArray × Unit)) × Unit) → Option R := (fun d => k (.exit 0) (((pa_laws_toPairS 4).2 2).st d) (((pa_laws_toPairS 4).2 2).nid))
def L_laws_toPairS {R : Type} : Lt R pa_laws_toPairS := (addL (pat := pa_laws_toPairS) 4 (fun d k => (lo_laws_toPairS_4 (fu_laws_toPairS_4 d.1 d.2.1 d.2.2.1) d.1 d.2.1 d.2.2.1).bind (ou_laws_toPairS_4 k)) noL)
theorem rd_laws_toPairS_4 {R : Type} (nx : (pa_laws_toPairS 4).1.D → Kt R → Option R) (k : Kt R) (v0 : List (ByteArray × ByteArray × Unit)) (v4 : Int) (r0 : List (ByteArray × ByteArray × Unit)) : ev Try.prog ⟨ta_laws_toPairS, 0, 23, pa_laws_toPairS⟩ L_laws_toPairS co_laws_toPairS_4 ((pa_laws_toPairS 4).1.st (v0, v4, r0, ())) (pa_laws_toPairS 4).1.nid (roundK 0 (pa_laws_toPairS 4) nx k) = tr_laws_toPairS_4  (fun d => nx d k) (fun d => k (.exit 0) (((pa_laws_toPairS 4).2 2).st d) (((pa_laws_toPairS 4).2 2).nid)) v0 v4 r0 := by kernel_rfl
theorem lp_laws_toPairS_4 {R : Type} : ∀ (m : Nat) (d : (pa_laws_toPairS 4).1.D) (k : Kt R), loopN 0 (pa_laws_toPairS 4) (fun s nid k => ev Try.prog ⟨ta_laws_toPairS, 0, 23, pa_laws_toPairS⟩ L_laws_toPairS co_laws_toPairS_4 s nid k) m d k = (lo_laws_toPairS_4 m d.1 d.2.1 d.2.2.1).bind (ou_laws_toPairS_4 k)
  | 0, _, _ => rfl
  | m + 1, ⟨v0, v4, r0, ⟨⟩⟩, k => (rd_laws_toPairS_4 _ k v0 v4 r0).trans ((congrArg (fun F => tr_laws_toPairS_4  F (fun d => k (.exit 0) (((pa_laws_toPairS 4).2 2).st d) (((pa_laws_toPairS 4).2 2).nid)) v0 v4 r0) (funext fun d => lp_laws_toPairS_4 m d k)).trans (na_laws_toPairS_4 (f := ou_laws_toPairS_4 k)  (fun d => lo_laws_toPairS_4 m d.1 d.2.1 d.2.2.1) (fun d => some (d)) v0 v4 r0))
theorem en_laws_toPairS (a0 : List (ByteArray × ByteArray × Unit)) : evalF Try.prog ta_laws_toPairS pa_laws_toPairS sg_laws_toPairS Try.f68 L_laws_toPairS (a0, ()) = de_laws_toPairS a0 := by kernel_rfl
theorem si_laws_toPairS : SigsOk Try.prog ta_laws_toPairS := SigsOk.of fun f sd h => by
  try dsimp only [Tb.of, ta_laws_toPairS] at h
  split at h
  · rename_i e; subst e; cases h; exact sn_laws_toPair
  cases h
theorem lk_laws_toPairS_4 {R : Type} : LoopOk Try.prog R 23 0 pa_laws_toPairS L_laws_toPairS co_laws_toPairS_4 :=
  loop_key (cfg := ⟨ta_laws_toPairS, 0, 23, pa_laws_toPairS⟩) (key := 4) (by kernel_rfl) (by kernel_rfl) si_laws_toPairS rfl rfl (fun d k r h => ⟨fu_laws_toPairS_4 d.1 d.2.1 d.2.2.1, (lp_laws_toPairS_4 _ d k).trans h⟩) (fun c hc => by rw [show loopsIn co_laws_toPairS_4 = [] from by kernel_rfl] at hc; cases hc)
theorem sn_laws_toPairS : Callable Try.prog 68 ∧ Sound Try.prog 68 sd_laws_toPairS.sg sd_laws_toPairS.den :=
  fn_loops (pat := pa_laws_toPairS) L_laws_toPairS (by kernel_rfl) si_laws_toPairS Try.func68 (by kernel_rfl) (by kernel_rfl) (fun c hc => by rw [show loopsIn (bodyOf Try.f68) = [co_laws_toPairS_4] from by kernel_rfl] at hc; simp only [List.mem_cons, List.not_mem_nil, or_false] at hc; rcases hc with rfl <;> first | exact lk_laws_toPairS_4) fun x r h => by
    obtain ⟨a0, ⟨⟩⟩ := x; obtain ⟨y, h1, h2⟩ := Option.bind_eq_some_iff.1 (show (m_laws_toPairS a0).bind (fun r => some ((r, ()), (()))) = some r from h); cases h2; exact (en_laws_toPairS a0).trans (eq_laws_toPairS a0 _ h1)
def m_laws_toState (a : (List (ByteArray × ByteArray × Unit)) × Unit) : Option ((List (ByteArray × ByteArray × Unit)) × Unit) := toM (.pair (.sl (.pair .str (.pair .str .unit))) .unit) a
def sg_laws_toState : Sig := ⟨[.rd (.pair (.sl (.pair .str (.pair .str .unit))) .unit)], [some 1], [.own 95 (.pair .str (.pair .str .unit))], [some 1]⟩
def sd_laws_toState : SD := ⟨sg_laws_toState, fun x => (m_laws_toState x.1).bind fun r => some ((r.1, ()), (()))⟩
def ta_laws_toState : Tb := Tb.of fun f => if f = 68 then some sd_laws_toPairS else none
def pa_laws_toState : Nat → Pat × (Nat → Pat) := fun k => (⟨[], [], []⟩, fun _ => ⟨[], [], []⟩)
def de_laws_toState (a0 : (List (ByteArray × ByteArray × Unit)) × Unit) : Option ((((List (ByteArray × ByteArray × Unit)) × Unit) × (Unit))) :=
  Option.bind (Option.bind (m_laws_toPairS a0.fst) fun val => some ((val, ()), ())) fun val => some ((val.fst.fst, ()), ())
theorem eq_laws_toState (a0 : (List (ByteArray × ByteArray × Unit)) × Unit) r (h : m_laws_toState a0 = some r) : de_laws_toState a0 = some ((r.1, ()), (())) := by
  obtain ⟨hc, rfl⟩ := toM_some (t := (.pair (.sl (.pair .str (.pair .str .unit))) .unit)) h
  · obtain ⟨s0, _⟩ : smallB (.sl (.pair .str (.pair .str .unit))) a0.1 = true ∧ True := by
      have s := hc
      obtain ⟨h0, s⟩ := smallB_pair s
      exact ⟨h0, trivial⟩
    unfold de_laws_toState
    have e0 : m_laws_toPairS a0.1 = some a0.1 := toM_is (t := (.sl (.pair .str (.pair .str .unit)))) s0
    simp only [e0]
    rfl
theorem en_laws_toState (a0 : (List (ByteArray × ByteArray × Unit)) × Unit) : evalF Try.prog ta_laws_toState pa_laws_toState sg_laws_toState Try.f18 noL (a0, ()) = de_laws_toState a0 := by kernel_rfl
theorem si_laws_toState : SigsOk Try.prog ta_laws_toState := SigsOk.of fun f sd h => by
  try dsimp only [Tb.of, ta_laws_toState] at h
  split at h
  · rename_i e; subst e; cases h; exact sn_laws_toPairS
  cases h
theorem sn_laws_toState : Callable Try.prog 18 ∧ Sound Try.prog 18 sd_laws_toState.sg sd_laws_toState.den :=
  fn_plain (pat := pa_laws_toState) (by kernel_rfl) si_laws_toState Try.func18 (by kernel_rfl) (by kernel_rfl) (by kernel_rfl) fun x r h => by
    obtain ⟨a0, ⟨⟩⟩ := x; obtain ⟨y, h1, h2⟩ := Option.bind_eq_some_iff.1 (show (m_laws_toState a0).bind (fun r => some ((r.1, ()), (()))) = some r from h); cases h2; exact (en_laws_toState a0).trans (eq_laws_toState a0 _ h1)
def m_laws_eqPair (a b : ByteArray × ByteArray × Unit) : Option Bool := eqM (.pair .str (.pair .str .unit)) a b
def sg_laws_eqPair : Sig := ⟨[.rd (.pair .str (.pair .str .unit)), .rd (.pair .str (.pair .str .unit))], [some 2, some 2], [.rd .bool], [none]⟩
def sd_laws_eqPair : SD := ⟨sg_laws_eqPair, fun x => (m_laws_eqPair x.1 x.2.1).bind fun r => some ((r, ()), (()))⟩
def ta_laws_eqPair : Tb := Tb.of fun f => none
def pa_laws_eqPair : Nat → Pat × (Nat → Pat) := fun k => (⟨[], [], []⟩, fun _ => ⟨[], [], []⟩)
def de_laws_eqPair (a0 : ByteArray × ByteArray × Unit) (a1 : ByteArray × ByteArray × Unit) : Option ((((Bool) × Unit) × (Unit))) :=
  bif !ByteArray.toList a0.fst == ByteArray.toList a1.fst then some ((false, ()), ())
  else bif !ByteArray.toList a0.snd.fst == ByteArray.toList a1.snd.fst then some ((false, ()), ()) else some ((true, ()), ())
theorem eq_laws_eqPair (a0 : ByteArray × ByteArray × Unit) (a1 : ByteArray × ByteArray × Unit) r (h : m_laws_eqPair a0 a1 = some r) : de_laws_eqPair a0 a1 = some ((r, ()), (())) := by
  obtain ⟨hc, hd, rfl⟩ := eqM_some (t := (.pair .str (.pair .str .unit))) h
  obtain ⟨hc0, hc1, _⟩ : fineB .str a0.1 = true ∧ fineB .str a0.2.1 = true ∧ True := by
    have s := hc
    obtain ⟨h0, s⟩ := fineB_pair s
    obtain ⟨h1, s⟩ := fineB_pair s
    exact ⟨h0, h1, trivial⟩
  obtain ⟨hd0, hd1, _⟩ : fineB .str a1.1 = true ∧ fineB .str a1.2.1 = true ∧ True := by
    have s := hd
    obtain ⟨h0, s⟩ := fineB_pair s
    obtain ⟨h1, s⟩ := fineB_pair s
    exact ⟨h0, h1, trivial⟩
  unfold de_laws_eqPair
  have e0 : (!(ByteArray.toList a0.1 == ByteArray.toList a1.1)) = !eqS a0.1 a1.1 := rfl
  have e1 : (!(ByteArray.toList a0.2.1 == ByteArray.toList a1.2.1)) = !eqS a0.2.1 a1.2.1 := rfl
  simp only [e0, e1, Option.bind_some]
  show _ = some (((eqS a0.1 a1.1 && (eqS a0.2.1 a1.2.1 && true)), ()), ())
  generalize eqS a0.1 a1.1 = p0
  generalize eqS a0.2.1 a1.2.1 = p1
  cases p0 <;> cases p1 <;> rfl
theorem en_laws_eqPair (a0 : ByteArray × ByteArray × Unit) (a1 : ByteArray × ByteArray × Unit) : evalF Try.prog ta_laws_eqPair pa_laws_eqPair sg_laws_eqPair Try.f115 noL (a0, a1, ()) = de_laws_eqPair a0 a1 := by kernel_rfl
theorem si_laws_eqPair : SigsOk Try.prog ta_laws_eqPair := SigsOk.of fun f sd h => by
  try dsimp only [Tb.of, ta_laws_eqPair] at h
  cases h
theorem sn_laws_eqPair : Callable Try.prog 115 ∧ Sound Try.prog 115 sd_laws_eqPair.sg sd_laws_eqPair.den :=
  fn_plain (pat := pa_laws_eqPair) (by kernel_rfl) si_laws_eqPair Try.func115 (by kernel_rfl) (by kernel_rfl) (by kernel_rfl) fun x r h => by
    obtain ⟨a0, a1, ⟨⟩⟩ := x; obtain ⟨y, h1, h2⟩ := Option.bind_eq_some_iff.1 (show (m_laws_eqPair a0 a1).bind (fun r => some ((r, ()), (()))) = some r from h); cases h2; exact (en_laws_eqPair a0 a1).trans (eq_laws_eqPair a0 a1 _ h1)
def m_laws_eqPairS (a b : List (ByteArray × ByteArray × Unit)) : Option Bool := eqM (.sl (.pair .str (.pair .str .unit))) a b
def sg_laws_eqPairS : Sig := ⟨[.rd (.sl (.pair .str (.pair .str .unit))), .rd (.sl (.pair .str (.pair .str .unit)))], [none, none], [.rd .bool], [none]⟩
def sd_laws_eqPairS : SD := ⟨sg_laws_eqPairS, fun x => (m_laws_eqPairS x.1 x.2.1).bind fun r => some ((r, ()), (()))⟩
def ta_laws_eqPairS : Tb := Tb.of fun f => if f = 115 then some sd_laws_eqPair else none
def pa_laws_eqPairS : Nat → Pat × (Nat → Pat) := fun k => if k = 5 then (⟨[.sl 0 0 (.pair .str (.pair .str .unit)), .sl 1 0 (.pair .str (.pair .str .unit))], [(0, .lf (.d (.sl (.pair .str (.pair .str .unit))))), (1, .lf (.d (.sl (.pair .str (.pair .str .unit))))), (5, .lf (.d (.int .i64)))], []⟩, fun e => if e = 1 then ⟨[], [(4, .lf (.d .bool))], []⟩ else if e = 2 then ⟨[], [], []⟩ else ⟨[], [], []⟩) else (⟨[], [], []⟩, fun _ => ⟨[], [], []⟩)
noncomputable def co_laws_eqPairS_5 : Code := (loopsIn (bodyOf Try.f70)).getD 0 .skip
def fu_laws_eqPairS_5 (v0 : List (ByteArray × ByteArray × Unit)) (v1 : List (ByteArray × ByteArray × Unit)) (v5 : Int) : Nat := ((v0.length : Int) - v5).toNat + 1
def tr_laws_eqPairS_5 {R : Type}  (NX : ((List (ByteArray × ByteArray × Unit)) × (List (ByteArray × ByteArray × Unit)) × (Int) × Unit) → Option R) (X2 : (Unit) → Option R) (X1 : ((Bool) × Unit) → Option R) (v0 : List (ByteArray × ByteArray × Unit)) (v1 : List (ByteArray × ByteArray × Unit)) (v5 : Int) : Option R :=
  bif decide (v5 < nI (List.length v0)) then
    bif decide (0 ≤ v5) then
      bif decide (v5 < nI (List.length v0)) then
        bif decide (0 ≤ v5) then
          bif decide (v5 < nI (List.length v1)) then
            Option.bind
              (Option.bind
                (m_laws_eqPair ((List.getD v0 (Int.toNat v5) (ByteArray.mk #[], ByteArray.mk #[], ())).fst, (List.getD v0 (Int.toNat v5) (ByteArray.mk #[], ByteArray.mk #[], ())).snd.fst, ())
                  ((List.getD v1 (Int.toNat v5) (ByteArray.mk #[], ByteArray.mk #[], ())).fst, (List.getD v1 (Int.toNat v5) (ByteArray.mk #[], ByteArray.mk #[], ())).snd.fst, ()))
                fun val => some ((val, ()), ()))
              fun val => bif !val.fst.fst then X1 (false, ()) else NX (v0, v1, IntKind.wrap IntKind.i64 (v5 + 1), ())
          else none
        else none
      else none
    else none
  else X2 PUnit.unit
def lo_laws_eqPairS_5 : Nat → (List (ByteArray × ByteArray × Unit)) → (List (ByteArray × ByteArray × Unit)) → (Int) →  Option ((Unit) ⊕ ((Bool) × Unit))
  | 0, _, _, _ => none
  | m + 1, v0, v1, v5 => tr_laws_eqPairS_5  (fun d => lo_laws_eqPairS_5 m d.1 d.2.1 d.2.2.1) (fun d => some (.inl (d))) (fun d => some (.inr (d))) v0 v1 v5
theorem na_laws_eqPairS_5 {R S : Type}  (NX : ((List (ByteArray × ByteArray × Unit)) × (List (ByteArray × ByteArray × Unit)) × (Int) × Unit) → Option R) (X2 : (Unit) → Option R) (X1 : ((Bool) × Unit) → Option R) (v0 : List (ByteArray × ByteArray × Unit)) (v1 : List (ByteArray × ByteArray × Unit)) (v5 : Int) (f : R → Option S) : tr_laws_eqPairS_5  (fun d => (NX d).bind f) (fun d => (X2 d).bind f) (fun d => (X1 d).bind f) v0 v1 v5 = (tr_laws_eqPairS_5  NX X2 X1 v0 v1 v5).bind f := by
  unfold tr_laws_eqPairS_5
  simp only [cond_bind, ite_bind, onSum_bind, Option.bind_assoc, Option.bind_none, Option.bind_some]
def de_laws_eqPairS (a0 : List (ByteArray × ByteArray × Unit)) (a1 : List (ByteArray × ByteArray × Unit)) : Option ((((Bool) × Unit) × (Unit))) :=
  bif nI (List.length a0) != nI (List.length a1) then some ((false, ()), ())
  else Option.bind ((fun d => lo_laws_eqPairS_5 (fu_laws_eqPairS_5 d.1 d.2.1 d.2.2.1) d.1 d.2.1 d.2.2.1) (a0, a1, 0, ())) fun val => onSum (fun val => some ((true, ()), ())) (fun val => some ((val.fst, ()), ())) val
theorem eq_laws_eqPairS (a0 : List (ByteArray × ByteArray × Unit)) (a1 : List (ByteArray × ByteArray × Unit)) r (h : m_laws_eqPairS a0 a1 = some r) : de_laws_eqPairS a0 a1 = some ((r, ()), (())) := by
  obtain ⟨hc, hd, rfl⟩ := eqM_some (t := .sl (.pair .str (.pair .str .unit))) h
  obtain ⟨hlx0, hx⟩ := fineB_sl hc
  obtain ⟨hly0, hy⟩ := fineB_sl hd
  have hlx : a0.length < 1152921504606846976 := hlx0
  have hly : a1.length < 1152921504606846976 := hly0
  clear hlx0 hly0 hc hd h
  · unfold de_laws_eqPairS
    by_cases hl : a1.length = a0.length
    · have c1 : (nI a0.length != nI a1.length) = false := by simp [nI, hl]
      have hL := eq_loop (xs := a0) (ys := a1) ((ByteArray.mk #[]), (ByteArray.mk #[]), ()) (fun x y : ByteArray × ByteArray × Unit => eqB (.pair .str (.pair .str .unit)) x y) (g := fun m i => lo_laws_eqPairS_5 m a0 a1 i) (ok := .inl ()) (bad := .inr (false, ())) hl (fun m i hi => by
        show lo_laws_eqPairS_5 (m + 1) a0 a1 i = _
        simp only [lo_laws_eqPairS_5, tr_laws_eqPairS_5]
        rw [cLt hi, cLe0, cLt (show i < a1.length by omega), wI (by omega)]
        simp only [cond_true, Int.toNat_natCast]
        have f1 : fineB (.pair .str (.pair .str .unit)) (List.getD (α := ByteArray × ByteArray × Unit) a0 i ((ByteArray.mk #[]), (ByteArray.mk #[]), ())) = true := hx _ (getD_mem ((ByteArray.mk #[]), (ByteArray.mk #[]), ()) hi)
        have f2 : fineB (.pair .str (.pair .str .unit)) (List.getD (α := ByteArray × ByteArray × Unit) a1 i ((ByteArray.mk #[]), (ByteArray.mk #[]), ())) = true := hy _ (getD_mem ((ByteArray.mk #[]), (ByteArray.mk #[]), ()) (by omega))
        have hE : m_laws_eqPair ((List.getD (α := ByteArray × ByteArray × Unit) a0 i ((ByteArray.mk #[]), (ByteArray.mk #[]), ())).fst, (List.getD (α := ByteArray × ByteArray × Unit) a0 i ((ByteArray.mk #[]), (ByteArray.mk #[]), ())).snd.fst, ()) ((List.getD (α := ByteArray × ByteArray × Unit) a1 i ((ByteArray.mk #[]), (ByteArray.mk #[]), ())).fst, (List.getD (α := ByteArray × ByteArray × Unit) a1 i ((ByteArray.mk #[]), (ByteArray.mk #[]), ())).snd.fst, ()) = some (eqB (.pair .str (.pair .str .unit)) (List.getD (α := ByteArray × ByteArray × Unit) a0 i ((ByteArray.mk #[]), (ByteArray.mk #[]), ())) (List.getD (α := ByteArray × ByteArray × Unit) a1 i ((ByteArray.mk #[]), (ByteArray.mk #[]), ()))) := by
          exact eqM_is (t := (.pair .str (.pair .str .unit))) (x := (List.getD (α := ByteArray × ByteArray × Unit) a0 i ((ByteArray.mk #[]), (ByteArray.mk #[]), ()))) (y := (List.getD (α := ByteArray × ByteArray × Unit) a1 i ((ByteArray.mk #[]), (ByteArray.mk #[]), ()))) f1 f2
        rw [hE]
        cases q : eqB (.pair .str (.pair .str .unit)) (List.getD (α := ByteArray × ByteArray × Unit) a0 i ((ByteArray.mk #[]), (ByteArray.mk #[]), ())) (List.getD (α := ByteArray × ByteArray × Unit) a1 i ((ByteArray.mk #[]), (ByteArray.mk #[]), ())) <;> simp only [Option.bind_some, q] <;> rfl) (fun m => by
        show lo_laws_eqPairS_5 (m + 1) a0 a1 a0.length = _
        simp only [lo_laws_eqPairS_5, tr_laws_eqPairS_5]
        rw [cLtF]
        rfl) (fu_laws_eqPairS_5 a0 a1 0) 0 (by omega) (by simp [fu_laws_eqPairS_5])
      rw [c1]
      have hL' : lo_laws_eqPairS_5 (fu_laws_eqPairS_5 a0 a1 0) a0 a1 0 = _ := hL
      show (lo_laws_eqPairS_5 (fu_laws_eqPairS_5 a0 a1 0) a0 a1 0).bind _ = some ((eqL (α := ByteArray × ByteArray × Unit) (fun x y : ByteArray × ByteArray × Unit => eqB (.pair .str (.pair .str .unit)) x y) a0 a1, ()), ())
      rw [hL', List.drop_zero, List.drop_zero]
      cases eqL (α := ByteArray × ByteArray × Unit) (fun x y : ByteArray × ByteArray × Unit => eqB (.pair .str (.pair .str .unit)) x y) a0 a1 <;> rfl
    · have c1 : (nI a0.length != nI a1.length) = true := by simp [nI]; omega
      rw [c1]
      show _ = some ((eqL (α := ByteArray × ByteArray × Unit) (fun x y : ByteArray × ByteArray × Unit => eqB (.pair .str (.pair .str .unit)) x y) a0 a1, ()), ())
      rw [eqL_len (fun q => hl q.symm)]
      rfl
def ou_laws_eqPairS_5 {R : Type} (k : Kt R) : ((Unit) ⊕ ((Bool) × Unit)) → Option R := (onSum (fun d => k (.exit 0) (((pa_laws_eqPairS 5).2 2).st d) (((pa_laws_eqPairS 5).2 2).nid)) (fun d => k .ret (((pa_laws_eqPairS 5).2 1).st d) (((pa_laws_eqPairS 5).2 1).nid)))
def L_laws_eqPairS {R : Type} : Lt R pa_laws_eqPairS := (addL (pat := pa_laws_eqPairS) 5 (fun d k => (lo_laws_eqPairS_5 (fu_laws_eqPairS_5 d.1 d.2.1 d.2.2.1) d.1 d.2.1 d.2.2.1).bind (ou_laws_eqPairS_5 k)) noL)
theorem rd_laws_eqPairS_5 {R : Type} (nx : (pa_laws_eqPairS 5).1.D → Kt R → Option R) (k : Kt R) (v0 : List (ByteArray × ByteArray × Unit)) (v1 : List (ByteArray × ByteArray × Unit)) (v5 : Int) : ev Try.prog ⟨ta_laws_eqPairS, 0, 27, pa_laws_eqPairS⟩ L_laws_eqPairS co_laws_eqPairS_5 ((pa_laws_eqPairS 5).1.st (v0, v1, v5, ())) (pa_laws_eqPairS 5).1.nid (roundK 0 (pa_laws_eqPairS 5) nx k) = tr_laws_eqPairS_5  (fun d => nx d k) (fun d => k (.exit 0) (((pa_laws_eqPairS 5).2 2).st d) (((pa_laws_eqPairS 5).2 2).nid)) (fun d => k .ret (((pa_laws_eqPairS 5).2 1).st d) (((pa_laws_eqPairS 5).2 1).nid)) v0 v1 v5 := by kernel_rfl
theorem lp_laws_eqPairS_5 {R : Type} : ∀ (m : Nat) (d : (pa_laws_eqPairS 5).1.D) (k : Kt R), loopN 0 (pa_laws_eqPairS 5) (fun s nid k => ev Try.prog ⟨ta_laws_eqPairS, 0, 27, pa_laws_eqPairS⟩ L_laws_eqPairS co_laws_eqPairS_5 s nid k) m d k = (lo_laws_eqPairS_5 m d.1 d.2.1 d.2.2.1).bind (ou_laws_eqPairS_5 k)
  | 0, _, _ => rfl
  | m + 1, ⟨v0, v1, v5, ⟨⟩⟩, k => (rd_laws_eqPairS_5 _ k v0 v1 v5).trans ((congrArg (fun F => tr_laws_eqPairS_5  F (fun d => k (.exit 0) (((pa_laws_eqPairS 5).2 2).st d) (((pa_laws_eqPairS 5).2 2).nid)) (fun d => k .ret (((pa_laws_eqPairS 5).2 1).st d) (((pa_laws_eqPairS 5).2 1).nid)) v0 v1 v5) (funext fun d => lp_laws_eqPairS_5 m d k)).trans (na_laws_eqPairS_5 (f := ou_laws_eqPairS_5 k)  (fun d => lo_laws_eqPairS_5 m d.1 d.2.1 d.2.2.1) (fun d => some (.inl (d))) (fun d => some (.inr (d))) v0 v1 v5))
theorem en_laws_eqPairS (a0 : List (ByteArray × ByteArray × Unit)) (a1 : List (ByteArray × ByteArray × Unit)) : evalF Try.prog ta_laws_eqPairS pa_laws_eqPairS sg_laws_eqPairS Try.f70 L_laws_eqPairS (a0, a1, ()) = de_laws_eqPairS a0 a1 := by kernel_rfl
theorem si_laws_eqPairS : SigsOk Try.prog ta_laws_eqPairS := SigsOk.of fun f sd h => by
  try dsimp only [Tb.of, ta_laws_eqPairS] at h
  split at h
  · rename_i e; subst e; cases h; exact sn_laws_eqPair
  cases h
theorem lk_laws_eqPairS_5 {R : Type} : LoopOk Try.prog R 27 0 pa_laws_eqPairS L_laws_eqPairS co_laws_eqPairS_5 :=
  loop_key (cfg := ⟨ta_laws_eqPairS, 0, 27, pa_laws_eqPairS⟩) (key := 5) (by kernel_rfl) (by kernel_rfl) si_laws_eqPairS rfl rfl (fun d k r h => ⟨fu_laws_eqPairS_5 d.1 d.2.1 d.2.2.1, (lp_laws_eqPairS_5 _ d k).trans h⟩) (fun c hc => by rw [show loopsIn co_laws_eqPairS_5 = [] from by kernel_rfl] at hc; cases hc)
theorem sn_laws_eqPairS : Callable Try.prog 70 ∧ Sound Try.prog 70 sd_laws_eqPairS.sg sd_laws_eqPairS.den :=
  fn_loops (pat := pa_laws_eqPairS) L_laws_eqPairS (by kernel_rfl) si_laws_eqPairS Try.func70 (by kernel_rfl) (by kernel_rfl) (fun c hc => by rw [show loopsIn (bodyOf Try.f70) = [co_laws_eqPairS_5] from by kernel_rfl] at hc; simp only [List.mem_cons, List.not_mem_nil, or_false] at hc; rcases hc with rfl <;> first | exact lk_laws_eqPairS_5) fun x r h => by
    obtain ⟨a0, a1, ⟨⟩⟩ := x; obtain ⟨y, h1, h2⟩ := Option.bind_eq_some_iff.1 (show (m_laws_eqPairS a0 a1).bind (fun r => some ((r, ()), (()))) = some r from h); cases h2; exact (en_laws_eqPairS a0 a1).trans (eq_laws_eqPairS a0 a1 _ h1)
def m_laws_eqState (a b : (List (ByteArray × ByteArray × Unit)) × Unit) : Option Bool := eqM (.pair (.sl (.pair .str (.pair .str .unit))) .unit) a b
def sg_laws_eqState : Sig := ⟨[.rd (.pair (.sl (.pair .str (.pair .str .unit))) .unit), .rd (.pair (.sl (.pair .str (.pair .str .unit))) .unit)], [some 1, some 1], [.rd .bool], [none]⟩
def sd_laws_eqState : SD := ⟨sg_laws_eqState, fun x => (m_laws_eqState x.1 x.2.1).bind fun r => some ((r, ()), (()))⟩
def ta_laws_eqState : Tb := Tb.of fun f => if f = 70 then some sd_laws_eqPairS else none
def pa_laws_eqState : Nat → Pat × (Nat → Pat) := fun k => (⟨[], [], []⟩, fun _ => ⟨[], [], []⟩)
def de_laws_eqState (a0 : (List (ByteArray × ByteArray × Unit)) × Unit) (a1 : (List (ByteArray × ByteArray × Unit)) × Unit) : Option ((((Bool) × Unit) × (Unit))) :=
  Option.bind (Option.bind (m_laws_eqPairS a0.fst a1.fst) fun val => some ((val, ()), ())) fun val => bif !val.fst.fst then some ((false, ()), ()) else some ((true, ()), ())
theorem eq_laws_eqState (a0 : (List (ByteArray × ByteArray × Unit)) × Unit) (a1 : (List (ByteArray × ByteArray × Unit)) × Unit) r (h : m_laws_eqState a0 a1 = some r) : de_laws_eqState a0 a1 = some ((r, ()), (())) := by
  obtain ⟨hc, hd, rfl⟩ := eqM_some (t := (.pair (.sl (.pair .str (.pair .str .unit))) .unit)) h
  obtain ⟨hc0, _⟩ : fineB (.sl (.pair .str (.pair .str .unit))) a0.1 = true ∧ True := by
    have s := hc
    obtain ⟨h0, s⟩ := fineB_pair s
    exact ⟨h0, trivial⟩
  obtain ⟨hd0, _⟩ : fineB (.sl (.pair .str (.pair .str .unit))) a1.1 = true ∧ True := by
    have s := hd
    obtain ⟨h0, s⟩ := fineB_pair s
    exact ⟨h0, trivial⟩
  unfold de_laws_eqState
  have e0 : m_laws_eqPairS a0.1 a1.1 = some (eqB (.sl (.pair .str (.pair .str .unit))) a0.1 a1.1) := eqM_is (t := (.sl (.pair .str (.pair .str .unit)))) hc0 hd0
  simp only [e0, Option.bind_some]
  show _ = some (((eqB (.sl (.pair .str (.pair .str .unit))) a0.1 a1.1 && true), ()), ())
  generalize eqB (.sl (.pair .str (.pair .str .unit))) a0.1 a1.1 = p0
  cases p0 <;> rfl
theorem en_laws_eqState (a0 : (List (ByteArray × ByteArray × Unit)) × Unit) (a1 : (List (ByteArray × ByteArray × Unit)) × Unit) : evalF Try.prog ta_laws_eqState pa_laws_eqState sg_laws_eqState Try.f20 noL (a0, a1, ()) = de_laws_eqState a0 a1 := by kernel_rfl
theorem si_laws_eqState : SigsOk Try.prog ta_laws_eqState := SigsOk.of fun f sd h => by
  try dsimp only [Tb.of, ta_laws_eqState] at h
  split at h
  · rename_i e; subst e; cases h; exact sn_laws_eqPairS
  cases h
theorem sn_laws_eqState : Callable Try.prog 20 ∧ Sound Try.prog 20 sd_laws_eqState.sg sd_laws_eqState.den :=
  fn_plain (pat := pa_laws_eqState) (by kernel_rfl) si_laws_eqState Try.func20 (by kernel_rfl) (by kernel_rfl) (by kernel_rfl) fun x r h => by
    obtain ⟨a0, a1, ⟨⟩⟩ := x; obtain ⟨y, h1, h2⟩ := Option.bind_eq_some_iff.1 (show (m_laws_eqState a0 a1).bind (fun r => some ((r, ()), (()))) = some r from h); cases h2; exact (en_laws_eqState a0 a1).trans (eq_laws_eqState a0 a1 _ h1)
def m_spec_l4KeyOk (k : ByteArray) : Bool := keyOk k
def sg_spec_l4KeyOk : Sig := ⟨[.rd .str], [none], [.rd .bool], [none]⟩
def sd_spec_l4KeyOk : SD := ⟨sg_spec_l4KeyOk, fun x => some (((m_spec_l4KeyOk x.1), ()), (()))⟩
def ta_spec_l4KeyOk : Tb := Tb.of fun f => none
def pa_spec_l4KeyOk : Nat → Pat × (Nat → Pat) := fun k => (⟨[], [], []⟩, fun _ => ⟨[], [], []⟩)
def de_spec_l4KeyOk (a0 : ByteArray) : Option ((((Bool) × Unit) × (Unit))) :=
  bif decide (nI (ByteArray.size a0) ≥ 1) then some ((decide (nI (ByteArray.size a0) ≤ 20), ()), ()) else some ((false, ()), ())
theorem eq_spec_l4KeyOk (a0 : ByteArray) : de_spec_l4KeyOk a0 = some ((m_spec_l4KeyOk a0, ()), ()) := by
  unfold de_spec_l4KeyOk m_spec_l4KeyOk keyOk inB
  by_cases h : (a0.size : Int) ≥ 1
  · have : decide ((1 : Int) ≤ (a0.size : Int)) = true := by simpa using h
    simp [nI, this]
  · have h' : ¬ (1 : Int) ≤ (a0.size : Int) := h
    simp [nI, h']
theorem en_spec_l4KeyOk (a0 : ByteArray) : evalF Try.prog ta_spec_l4KeyOk pa_spec_l4KeyOk sg_spec_l4KeyOk Try.f67 noL (a0, ()) = de_spec_l4KeyOk a0 := by kernel_rfl
theorem si_spec_l4KeyOk : SigsOk Try.prog ta_spec_l4KeyOk := SigsOk.of fun f sd h => by
  try dsimp only [Tb.of, ta_spec_l4KeyOk] at h
  cases h
theorem sn_spec_l4KeyOk : Callable Try.prog 67 ∧ Sound Try.prog 67 sd_spec_l4KeyOk.sg sd_spec_l4KeyOk.den :=
  fn_plain (pat := pa_spec_l4KeyOk) (by kernel_rfl) si_spec_l4KeyOk Try.func67 (by kernel_rfl) (by kernel_rfl) (by kernel_rfl) fun x r h => by
    obtain ⟨a0, ⟨⟩⟩ := x; rw [← h]; exact (en_spec_l4KeyOk a0).trans (eq_spec_l4KeyOk a0)
def m_spec_ValidState (s : Stt) : Bool := validState s
def sg_spec_ValidState : Sig := ⟨[.rd (.pair (.sl (.pair .str (.pair .str .unit))) .unit)], [some 1], [.rd .bool], [none]⟩
def sd_spec_ValidState : SD := ⟨sg_spec_ValidState, fun x => some (((m_spec_ValidState x.1), ()), (()))⟩
def ta_spec_ValidState : Tb := Tb.of fun f => if f = 67 then some sd_spec_l4KeyOk else none
def pa_spec_ValidState : Nat → Pat × (Nat → Pat) := fun k => if k = 5 then (⟨[.boxSl 1 0 (.pair .str (.pair .str .unit))], [(1, .lf (.ptr 0 0)), (3, .lf (.d (.int .i64)))], [.box 29 [.d (.sl (.pair .str (.pair .str .unit)))]]⟩, fun e => if e = 1 then ⟨[], [(2, .lf (.d .bool))], []⟩ else if e = 2 then ⟨[], [], []⟩ else ⟨[], [], []⟩) else (⟨[], [], []⟩, fun _ => ⟨[], [], []⟩)
noncomputable def co_spec_ValidState_5 : Code := (loopsIn (bodyOf Try.f17)).getD 0 .skip
def fu_spec_ValidState_5 (v3 : Int) (b0_0 : List (ByteArray × ByteArray × Unit)) : Nat := ((b0_0.length : Int) - v3).toNat + 1
def tr_spec_ValidState_5 {R : Type}  (NX : ((Int) × (List (ByteArray × ByteArray × Unit)) × Unit) → Option R) (X2 : (Unit) → Option R) (X1 : ((Bool) × Unit) → Option R) (v3 : Int) (b0_0 : List (ByteArray × ByteArray × Unit)) : Option R :=
  bif decide (v3 < nI (List.length b0_0)) then
    bif decide (0 ≤ v3) then
      bif decide (v3 < nI (List.length b0_0)) then
        bif !m_spec_l4KeyOk (List.getD b0_0 (Int.toNat v3) (ByteArray.mk #[], ByteArray.mk #[], ())).fst then X1 (false, ())
        else
          bif decide (0 ≤ v3) then
            bif decide (v3 < nI (List.length b0_0)) then
              bif decide (nI (ByteArray.size (List.getD b0_0 (Int.toNat v3) (ByteArray.mk #[], ByteArray.mk #[], ())).snd.fst) > 100) then X1 (false, ())
              else
                bif decide (v3 > 0) then
                  bif decide (0 ≤ IntKind.wrap IntKind.i64 (v3 - 1)) then
                    bif decide (IntKind.wrap IntKind.i64 (v3 - 1) < nI (List.length b0_0)) then
                      bif decide (0 ≤ v3) then
                        bif decide (v3 < nI (List.length b0_0)) then
                          bif
                              !Op.bytesLess (ByteArray.toList (List.getD b0_0 (Int.toNat (IntKind.wrap IntKind.i64 (v3 - 1))) (ByteArray.mk #[], ByteArray.mk #[], ())).fst)
                                  (ByteArray.toList (List.getD b0_0 (Int.toNat v3) (ByteArray.mk #[], ByteArray.mk #[], ())).fst) then
                            X1 (false, ())
                          else NX (IntKind.wrap IntKind.i64 (v3 + 1), b0_0, ())
                        else none
                      else none
                    else none
                  else none
                else NX (IntKind.wrap IntKind.i64 (v3 + 1), b0_0, ())
            else none
          else none
      else none
    else none
  else X2 PUnit.unit
def lo_spec_ValidState_5 : Nat → (Int) → (List (ByteArray × ByteArray × Unit)) →  Option ((Unit) ⊕ ((Bool) × Unit))
  | 0, _, _ => none
  | m + 1, v3, b0_0 => tr_spec_ValidState_5  (fun d => lo_spec_ValidState_5 m d.1 d.2.1) (fun d => some (.inl (d))) (fun d => some (.inr (d))) v3 b0_0
theorem na_spec_ValidState_5 {R S : Type}  (NX : ((Int) × (List (ByteArray × ByteArray × Unit)) × Unit) → Option R) (X2 : (Unit) → Option R) (X1 : ((Bool) × Unit) → Option R) (v3 : Int) (b0_0 : List (ByteArray × ByteArray × Unit)) (f : R → Option S) : tr_spec_ValidState_5  (fun d => (NX d).bind f) (fun d => (X2 d).bind f) (fun d => (X1 d).bind f) v3 b0_0 = (tr_spec_ValidState_5  NX X2 X1 v3 b0_0).bind f := by
  unfold tr_spec_ValidState_5
  simp only [cond_bind, ite_bind, onSum_bind, Option.bind_assoc, Option.bind_none, Option.bind_some]
def de_spec_ValidState (a0 : (List (ByteArray × ByteArray × Unit)) × Unit) : Option ((((Bool) × Unit) × (Unit))) :=
  bif decide (nI (List.length a0.fst) > 100) then some ((false, ()), ())
  else Option.bind ((fun d => lo_spec_ValidState_5 (fu_spec_ValidState_5 d.1 d.2.1) d.1 d.2.1) (0, a0.fst, ())) fun val => onSum (fun val => some ((true, ()), ())) (fun val => some ((val.fst, ()), ())) val
theorem eq_spec_ValidState (a0 : Stt) : de_spec_ValidState a0 = some ((m_spec_ValidState a0, ()), ()) := by
  unfold de_spec_ValidState m_spec_ValidState validState
  have c1 : decide (nI a0.1.length > 100) = !decide (a0.1.length ≤ 100) := gt100 _ 100
  by_cases hl : a0.1.length ≤ 100
  · have hL := all_loop (n := a0.1.length) (okPairAt a0.1) (g := fun m i => lo_spec_ValidState_5 m i a0.1) (ok := .inl ()) (bad := .inr (false, ())) (fun m i hi => by
      show lo_spec_ValidState_5 (m + 1) i a0.1 = _
      simp only [lo_spec_ValidState_5, tr_spec_ValidState_5]
      have g1 : decide (nI (ByteArray.size (List.getD a0.1 i (ByteArray.mk #[], ByteArray.mk #[], ())).2.1) > 100) = !decide (ByteArray.size (List.getD a0.1 i zP).2.1 ≤ 100) := gt100 _ 100
      rw [cLt hi, cLe0, wI (show i < 4611686018427387904 by omega), Int.toNat_natCast, gt0, g1]
      simp only [cond_true]
      unfold okPairAt bl
      show (bif !keyOk (List.getD a0.1 i zP).1 then _ else _) = _
      cases i with
      | zero =>
        show (bif !keyOk (List.getD a0.1 0 zP).1 then _ else bif !decide (ByteArray.size (List.getD a0.1 0 zP).2.1 ≤ 100) then _ else _) = _
        cases keyOk (List.getD a0.1 0 zP).1 <;> cases decide (ByteArray.size (List.getD a0.1 0 zP).2.1 ≤ 100) <;> rfl
      | succ j =>
        rw [wP j (by omega), cLe0, cLt (show j < a0.1.length by omega)]
        show (bif !keyOk (List.getD a0.1 (j + 1) zP).1 then _ else bif !decide (ByteArray.size (List.getD a0.1 (j + 1) zP).2.1 ≤ 100) then _ else bif !Op.bytesLess (ByteArray.toList (List.getD a0.1 j zP).1) (ByteArray.toList (List.getD a0.1 (j + 1) zP).1) then _ else _) = _
        rw [Nat.add_sub_cancel]
        cases keyOk (List.getD a0.1 (j + 1) zP).1 <;> cases decide (ByteArray.size (List.getD a0.1 (j + 1) zP).2.1 ≤ 100) <;> cases Op.bytesLess (ByteArray.toList (List.getD a0.1 j zP).1) (ByteArray.toList (List.getD a0.1 (j + 1) zP).1) <;> rfl) (fun m => by
      show lo_spec_ValidState_5 (m + 1) (a0.1.length : Int) a0.1 = _
      simp only [lo_spec_ValidState_5, tr_spec_ValidState_5]
      rw [cLtF]
      rfl) (fu_spec_ValidState_5 0 a0.1) 0 (by omega) (by simp [fu_spec_ValidState_5, nI])
    have hL' : lo_spec_ValidState_5 (fu_spec_ValidState_5 0 a0.1) 0 a0.1 = _ := hL
    rw [c1, decide_eq_true hl]
    show (lo_spec_ValidState_5 (fu_spec_ValidState_5 0 a0.1) 0 a0.1).bind _ = _
    rw [hL']
    cases (List.range' 0 (a0.1.length - 0)).all (okPairAt a0.1) <;> rfl
  · rw [c1, decide_eq_false hl]
    rfl
def ou_spec_ValidState_5 {R : Type} (k : Kt R) : ((Unit) ⊕ ((Bool) × Unit)) → Option R := (onSum (fun d => k (.exit 0) (((pa_spec_ValidState 5).2 2).st d) (((pa_spec_ValidState 5).2 2).nid)) (fun d => k .ret (((pa_spec_ValidState 5).2 1).st d) (((pa_spec_ValidState 5).2 1).nid)))
def L_spec_ValidState {R : Type} : Lt R pa_spec_ValidState := (addL (pat := pa_spec_ValidState) 5 (fun d k => (lo_spec_ValidState_5 (fu_spec_ValidState_5 d.1 d.2.1) d.1 d.2.1).bind (ou_spec_ValidState_5 k)) noL)
theorem rd_spec_ValidState_5 {R : Type} (nx : (pa_spec_ValidState 5).1.D → Kt R → Option R) (k : Kt R) (v3 : Int) (b0_0 : List (ByteArray × ByteArray × Unit)) : ev Try.prog ⟨ta_spec_ValidState, 0, 53, pa_spec_ValidState⟩ L_spec_ValidState co_spec_ValidState_5 ((pa_spec_ValidState 5).1.st (v3, b0_0, ())) (pa_spec_ValidState 5).1.nid (roundK 0 (pa_spec_ValidState 5) nx k) = tr_spec_ValidState_5  (fun d => nx d k) (fun d => k (.exit 0) (((pa_spec_ValidState 5).2 2).st d) (((pa_spec_ValidState 5).2 2).nid)) (fun d => k .ret (((pa_spec_ValidState 5).2 1).st d) (((pa_spec_ValidState 5).2 1).nid)) v3 b0_0 := by kernel_rfl
theorem lp_spec_ValidState_5 {R : Type} : ∀ (m : Nat) (d : (pa_spec_ValidState 5).1.D) (k : Kt R), loopN 0 (pa_spec_ValidState 5) (fun s nid k => ev Try.prog ⟨ta_spec_ValidState, 0, 53, pa_spec_ValidState⟩ L_spec_ValidState co_spec_ValidState_5 s nid k) m d k = (lo_spec_ValidState_5 m d.1 d.2.1).bind (ou_spec_ValidState_5 k)
  | 0, _, _ => rfl
  | m + 1, ⟨v3, b0_0, ⟨⟩⟩, k => (rd_spec_ValidState_5 _ k v3 b0_0).trans ((congrArg (fun F => tr_spec_ValidState_5  F (fun d => k (.exit 0) (((pa_spec_ValidState 5).2 2).st d) (((pa_spec_ValidState 5).2 2).nid)) (fun d => k .ret (((pa_spec_ValidState 5).2 1).st d) (((pa_spec_ValidState 5).2 1).nid)) v3 b0_0) (funext fun d => lp_spec_ValidState_5 m d k)).trans (na_spec_ValidState_5 (f := ou_spec_ValidState_5 k)  (fun d => lo_spec_ValidState_5 m d.1 d.2.1) (fun d => some (.inl (d))) (fun d => some (.inr (d))) v3 b0_0))
theorem en_spec_ValidState (a0 : (List (ByteArray × ByteArray × Unit)) × Unit) : evalF Try.prog ta_spec_ValidState pa_spec_ValidState sg_spec_ValidState Try.f17 L_spec_ValidState (a0, ()) = de_spec_ValidState a0 := by kernel_rfl
theorem si_spec_ValidState : SigsOk Try.prog ta_spec_ValidState := SigsOk.of fun f sd h => by
  try dsimp only [Tb.of, ta_spec_ValidState] at h
  split at h
  · rename_i e; subst e; cases h; exact sn_spec_l4KeyOk
  cases h
theorem lk_spec_ValidState_5 {R : Type} : LoopOk Try.prog R 53 0 pa_spec_ValidState L_spec_ValidState co_spec_ValidState_5 :=
  loop_key (cfg := ⟨ta_spec_ValidState, 0, 53, pa_spec_ValidState⟩) (key := 5) (by kernel_rfl) (by kernel_rfl) si_spec_ValidState rfl rfl (fun d k r h => ⟨fu_spec_ValidState_5 d.1 d.2.1, (lp_spec_ValidState_5 _ d k).trans h⟩) (fun c hc => by rw [show loopsIn co_spec_ValidState_5 = [] from by kernel_rfl] at hc; cases hc)
theorem sn_spec_ValidState : Callable Try.prog 17 ∧ Sound Try.prog 17 sd_spec_ValidState.sg sd_spec_ValidState.den :=
  fn_loops (pat := pa_spec_ValidState) L_spec_ValidState (by kernel_rfl) si_spec_ValidState Try.func17 (by kernel_rfl) (by kernel_rfl) (fun c hc => by rw [show loopsIn (bodyOf Try.f17) = [co_spec_ValidState_5] from by kernel_rfl] at hc; simp only [List.mem_cons, List.not_mem_nil, or_false] at hc; rcases hc with rfl <;> first | exact lk_spec_ValidState_5) fun x r h => by
    obtain ⟨a0, ⟨⟩⟩ := x; rw [← h]; exact (en_spec_ValidState a0).trans (eq_spec_ValidState a0)
def m_spec_Get (s : Stt) (k : ByteArray) : ByteArray × Bool := getD' s k
def sg_spec_Get : Sig := ⟨[.rd (.pair (.sl (.pair .str (.pair .str .unit))) .unit), .rd .str], [some 1, none], [.rd .str, .rd .bool], [none, none]⟩
def sd_spec_Get : SD := ⟨sg_spec_Get, fun x => some (((m_spec_Get x.1 x.2.1).1, (m_spec_Get x.1 x.2.1).2, ()), (()))⟩
def ta_spec_Get : Tb := Tb.of fun f => if f = 17 then some sd_spec_ValidState else none
def pa_spec_Get : Nat → Pat × (Nat → Pat) := fun k => if k = 5 then (⟨[.boxSl 2 0 (.pair .str (.pair .str .unit))], [(1, .lf (.d .str)), (2, .lf (.ptr 0 0)), (6, .lf (.d (.int .i64)))], [.box 29 [.d (.sl (.pair .str (.pair .str .unit)))]]⟩, fun e => if e = 1 then ⟨[], [(4, .lf (.d .str)), (5, .lf (.d .bool))], []⟩ else if e = 2 then ⟨[], [], []⟩ else ⟨[], [], []⟩) else (⟨[], [], []⟩, fun _ => ⟨[], [], []⟩)
noncomputable def co_spec_Get_5 : Code := (loopsIn (bodyOf Try.f21)).getD 0 .skip
def fu_spec_Get_5 (v1 : ByteArray) (v6 : Int) (b0_0 : List (ByteArray × ByteArray × Unit)) : Nat := ((b0_0.length : Int) - v6).toNat + 1
def tr_spec_Get_5 {R : Type}  (NX : ((ByteArray) × (Int) × (List (ByteArray × ByteArray × Unit)) × Unit) → Option R) (X2 : (Unit) → Option R) (X1 : ((ByteArray) × (Bool) × Unit) → Option R) (v1 : ByteArray) (v6 : Int) (b0_0 : List (ByteArray × ByteArray × Unit)) : Option R :=
  bif decide (v6 < nI (List.length b0_0)) then
    bif decide (0 ≤ v6) then
      bif decide (v6 < nI (List.length b0_0)) then
        bif ByteArray.toList (List.getD b0_0 (Int.toNat v6) (ByteArray.mk #[], ByteArray.mk #[], ())).fst == ByteArray.toList v1 then
          bif decide (0 ≤ v6) then bif decide (v6 < nI (List.length b0_0)) then X1 ((List.getD b0_0 (Int.toNat v6) (ByteArray.mk #[], ByteArray.mk #[], ())).snd.fst, true, ()) else none else none
        else NX (v1, IntKind.wrap IntKind.i64 (v6 + 1), b0_0, ())
      else none
    else none
  else X2 PUnit.unit
def lo_spec_Get_5 : Nat → (ByteArray) → (Int) → (List (ByteArray × ByteArray × Unit)) →  Option ((Unit) ⊕ ((ByteArray) × (Bool) × Unit))
  | 0, _, _, _ => none
  | m + 1, v1, v6, b0_0 => tr_spec_Get_5  (fun d => lo_spec_Get_5 m d.1 d.2.1 d.2.2.1) (fun d => some (.inl (d))) (fun d => some (.inr (d))) v1 v6 b0_0
theorem na_spec_Get_5 {R S : Type}  (NX : ((ByteArray) × (Int) × (List (ByteArray × ByteArray × Unit)) × Unit) → Option R) (X2 : (Unit) → Option R) (X1 : ((ByteArray) × (Bool) × Unit) → Option R) (v1 : ByteArray) (v6 : Int) (b0_0 : List (ByteArray × ByteArray × Unit)) (f : R → Option S) : tr_spec_Get_5  (fun d => (NX d).bind f) (fun d => (X2 d).bind f) (fun d => (X1 d).bind f) v1 v6 b0_0 = (tr_spec_Get_5  NX X2 X1 v1 v6 b0_0).bind f := by
  unfold tr_spec_Get_5
  simp only [cond_bind, ite_bind, onSum_bind, Option.bind_assoc, Option.bind_none, Option.bind_some]
def de_spec_Get (a0 : (List (ByteArray × ByteArray × Unit)) × Unit) (a1 : ByteArray) : Option ((((ByteArray) × (Bool) × Unit) × (Unit))) :=
  bif !m_spec_ValidState (a0.fst, ()) then some ((ByteArray.mk #[], false, ()), ())
  else Option.bind ((fun d => lo_spec_Get_5 (fu_spec_Get_5 d.1 d.2.1 d.2.2.1) d.1 d.2.1 d.2.2.1) (a1, 0, a0.fst, ())) fun val => onSum (fun val => some ((ByteArray.mk #[], false, ()), ())) (fun val => some ((val.fst, val.snd.fst, ()), ())) val
theorem eq_spec_Get (a0 : Stt) (a1 : ByteArray) : de_spec_Get a0 a1 = some (((m_spec_Get a0 a1).1, (m_spec_Get a0 a1).2, ()), (())) := by
  unfold de_spec_Get m_spec_Get getD'
  show (bif !validState a0 then _ else _) = _
  cases hv : validState a0 with
  | false => rfl
  | true =>
    have hlen : a0.1.length ≤ 100 := of_decide_eq_true (and2 hv).1
    have hL := find_loop (xs := a0.1) zP (fun p => p.1.toList == a1.toList) (fun p => .inr (p.2.1, true, ())) (g := fun m i => lo_spec_Get_5 m a1 i a0.1) (ok := .inl ()) (fun m i hi => by
      show lo_spec_Get_5 (m + 1) a1 i a0.1 = _
      simp only [lo_spec_Get_5, tr_spec_Get_5]
      rw [cLt hi, cLe0, wI (show i < 4611686018427387904 by omega), Int.toNat_natCast]
      rfl) (fun m => by
      show lo_spec_Get_5 (m + 1) a1 (a0.1.length : Int) a0.1 = _
      simp only [lo_spec_Get_5, tr_spec_Get_5]
      rw [cLtF]
      rfl) (fu_spec_Get_5 a1 0 a0.1) 0 (by omega) (by simp [fu_spec_Get_5, nI])
    have hL' : lo_spec_Get_5 (fu_spec_Get_5 a1 0 a0.1) a1 0 a0.1 = _ := hL
    show (lo_spec_Get_5 (fu_spec_Get_5 a1 0 a0.1) a1 0 a0.1).bind _ = some (((getGo a1 a0.1).1, (getGo a1 a0.1).2, ()), ())
    rw [hL', List.drop_zero]
    show onSum _ _ _ = _
    unfold getGo
    rw [findGo_map (onSum _ _), findGo_map (fun r : ByteArray × Bool => some ((r.1, r.2, ()), ()))]
    rfl
def ou_spec_Get_5 {R : Type} (k : Kt R) : ((Unit) ⊕ ((ByteArray) × (Bool) × Unit)) → Option R := (onSum (fun d => k (.exit 0) (((pa_spec_Get 5).2 2).st d) (((pa_spec_Get 5).2 2).nid)) (fun d => k .ret (((pa_spec_Get 5).2 1).st d) (((pa_spec_Get 5).2 1).nid)))
def L_spec_Get {R : Type} : Lt R pa_spec_Get := (addL (pat := pa_spec_Get) 5 (fun d k => (lo_spec_Get_5 (fu_spec_Get_5 d.1 d.2.1 d.2.2.1) d.1 d.2.1 d.2.2.1).bind (ou_spec_Get_5 k)) noL)
theorem rd_spec_Get_5 {R : Type} (nx : (pa_spec_Get 5).1.D → Kt R → Option R) (k : Kt R) (v1 : ByteArray) (v6 : Int) (b0_0 : List (ByteArray × ByteArray × Unit)) : ev Try.prog ⟨ta_spec_Get, 0, 31, pa_spec_Get⟩ L_spec_Get co_spec_Get_5 ((pa_spec_Get 5).1.st (v1, v6, b0_0, ())) (pa_spec_Get 5).1.nid (roundK 0 (pa_spec_Get 5) nx k) = tr_spec_Get_5  (fun d => nx d k) (fun d => k (.exit 0) (((pa_spec_Get 5).2 2).st d) (((pa_spec_Get 5).2 2).nid)) (fun d => k .ret (((pa_spec_Get 5).2 1).st d) (((pa_spec_Get 5).2 1).nid)) v1 v6 b0_0 := by kernel_rfl
theorem lp_spec_Get_5 {R : Type} : ∀ (m : Nat) (d : (pa_spec_Get 5).1.D) (k : Kt R), loopN 0 (pa_spec_Get 5) (fun s nid k => ev Try.prog ⟨ta_spec_Get, 0, 31, pa_spec_Get⟩ L_spec_Get co_spec_Get_5 s nid k) m d k = (lo_spec_Get_5 m d.1 d.2.1 d.2.2.1).bind (ou_spec_Get_5 k)
  | 0, _, _ => rfl
  | m + 1, ⟨v1, v6, b0_0, ⟨⟩⟩, k => (rd_spec_Get_5 _ k v1 v6 b0_0).trans ((congrArg (fun F => tr_spec_Get_5  F (fun d => k (.exit 0) (((pa_spec_Get 5).2 2).st d) (((pa_spec_Get 5).2 2).nid)) (fun d => k .ret (((pa_spec_Get 5).2 1).st d) (((pa_spec_Get 5).2 1).nid)) v1 v6 b0_0) (funext fun d => lp_spec_Get_5 m d k)).trans (na_spec_Get_5 (f := ou_spec_Get_5 k)  (fun d => lo_spec_Get_5 m d.1 d.2.1 d.2.2.1) (fun d => some (.inl (d))) (fun d => some (.inr (d))) v1 v6 b0_0))
theorem en_spec_Get (a0 : (List (ByteArray × ByteArray × Unit)) × Unit) (a1 : ByteArray) : evalF Try.prog ta_spec_Get pa_spec_Get sg_spec_Get Try.f21 L_spec_Get (a0, a1, ()) = de_spec_Get a0 a1 := by kernel_rfl
theorem si_spec_Get : SigsOk Try.prog ta_spec_Get := SigsOk.of fun f sd h => by
  try dsimp only [Tb.of, ta_spec_Get] at h
  split at h
  · rename_i e; subst e; cases h; exact sn_spec_ValidState
  cases h
theorem lk_spec_Get_5 {R : Type} : LoopOk Try.prog R 31 0 pa_spec_Get L_spec_Get co_spec_Get_5 :=
  loop_key (cfg := ⟨ta_spec_Get, 0, 31, pa_spec_Get⟩) (key := 5) (by kernel_rfl) (by kernel_rfl) si_spec_Get rfl rfl (fun d k r h => ⟨fu_spec_Get_5 d.1 d.2.1 d.2.2.1, (lp_spec_Get_5 _ d k).trans h⟩) (fun c hc => by rw [show loopsIn co_spec_Get_5 = [] from by kernel_rfl] at hc; cases hc)
theorem sn_spec_Get : Callable Try.prog 21 ∧ Sound Try.prog 21 sd_spec_Get.sg sd_spec_Get.den :=
  fn_loops (pat := pa_spec_Get) L_spec_Get (by kernel_rfl) si_spec_Get Try.func21 (by kernel_rfl) (by kernel_rfl) (fun c hc => by rw [show loopsIn (bodyOf Try.f21) = [co_spec_Get_5] from by kernel_rfl] at hc; simp only [List.mem_cons, List.not_mem_nil, or_false] at hc; rcases hc with rfl <;> first | exact lk_spec_Get_5) fun x r h => by
    obtain ⟨a0, a1, ⟨⟩⟩ := x; rw [← h]; exact (en_spec_Get a0 a1).trans (eq_spec_Get a0 a1)
def m_impl_in (v lo hi : Int) : Bool := inB v lo hi
def sg_impl_in : Sig := ⟨[.rd (.int .i64), .rd (.int .i64), .rd (.int .i64)], [none, none, none], [.rd .bool], [none]⟩
def sd_impl_in : SD := ⟨sg_impl_in, fun x => some (((m_impl_in x.1 x.2.1 x.2.2.1), ()), (()))⟩
def ta_impl_in : Tb := Tb.of fun f => none
def pa_impl_in : Nat → Pat × (Nat → Pat) := fun k => (⟨[], [], []⟩, fun _ => ⟨[], [], []⟩)
def de_impl_in (a0 : Int) (a1 : Int) (a2 : Int) : Option ((((Bool) × Unit) × (Unit))) :=
  bif decide (a0 ≥ a1) then some ((decide (a0 ≤ a2), ()), ()) else some ((false, ()), ())
theorem eq_impl_in (a0 a1 a2 : Int) : de_impl_in a0 a1 a2 = some ((m_impl_in a0 a1 a2, ()), ()) := by
  unfold de_impl_in m_impl_in inB
  by_cases h : a0 ≥ a1
  · have : decide (a1 ≤ a0) = true := by simpa using h
    simp [h, this]
  · have : decide (a1 ≤ a0) = false := by simpa using h
    simp [h, this]
theorem en_impl_in (a0 : Int) (a1 : Int) (a2 : Int) : evalF Try.prog ta_impl_in pa_impl_in sg_impl_in Try.f76 noL (a0, a1, a2, ()) = de_impl_in a0 a1 a2 := by kernel_rfl
theorem si_impl_in : SigsOk Try.prog ta_impl_in := SigsOk.of fun f sd h => by
  try dsimp only [Tb.of, ta_impl_in] at h
  cases h
theorem sn_impl_in : Callable Try.prog 76 ∧ Sound Try.prog 76 sd_impl_in.sg sd_impl_in.den :=
  fn_plain (pat := pa_impl_in) (by kernel_rfl) si_impl_in Try.func76 (by kernel_rfl) (by kernel_rfl) (by kernel_rfl) fun x r h => by
    obtain ⟨a0, a1, a2, ⟨⟩⟩ := x; rw [← h]; exact (en_impl_in a0 a1 a2).trans (eq_impl_in a0 a1 a2)
def m_impl_goodKey (k : ByteArray) : Bool := keyOk k
def sg_impl_goodKey : Sig := ⟨[.rd .str], [none], [.rd .bool], [none]⟩
def sd_impl_goodKey : SD := ⟨sg_impl_goodKey, fun x => some (((m_impl_goodKey x.1), ()), (()))⟩
def ta_impl_goodKey : Tb := Tb.of fun f => if f = 76 then some sd_impl_in else none
def pa_impl_goodKey : Nat → Pat × (Nat → Pat) := fun k => (⟨[], [], []⟩, fun _ => ⟨[], [], []⟩)
def de_impl_goodKey (a0 : ByteArray) : Option ((((Bool) × Unit) × (Unit))) :=
  some ((m_impl_in (nI (ByteArray.size a0)) 1 20, ()), ())
theorem eq_impl_goodKey (a0 : ByteArray) : de_impl_goodKey a0 = some ((m_impl_goodKey a0, ()), ()) := rfl
theorem en_impl_goodKey (a0 : ByteArray) : evalF Try.prog ta_impl_goodKey pa_impl_goodKey sg_impl_goodKey Try.f69 noL (a0, ()) = de_impl_goodKey a0 := by kernel_rfl
theorem si_impl_goodKey : SigsOk Try.prog ta_impl_goodKey := SigsOk.of fun f sd h => by
  try dsimp only [Tb.of, ta_impl_goodKey] at h
  split at h
  · rename_i e; subst e; cases h; exact sn_impl_in
  cases h
theorem sn_impl_goodKey : Callable Try.prog 69 ∧ Sound Try.prog 69 sd_impl_goodKey.sg sd_impl_goodKey.den :=
  fn_plain (pat := pa_impl_goodKey) (by kernel_rfl) si_impl_goodKey Try.func69 (by kernel_rfl) (by kernel_rfl) (by kernel_rfl) fun x r h => by
    obtain ⟨a0, ⟨⟩⟩ := x; rw [← h]; exact (en_impl_goodKey a0).trans (eq_impl_goodKey a0)
def m_impl_ValidState (s : Stt) : Bool := validState s
def sg_impl_ValidState : Sig := ⟨[.rd (.pair (.sl (.pair .str (.pair .str .unit))) .unit)], [some 1], [.rd .bool], [none]⟩
def sd_impl_ValidState : SD := ⟨sg_impl_ValidState, fun x => some (((m_impl_ValidState x.1), ()), (()))⟩
def ta_impl_ValidState : Tb := Tb.of fun f => if f = 69 then some sd_impl_goodKey else none
def pa_impl_ValidState : Nat → Pat × (Nat → Pat) := fun k => if k = 5 then (⟨[.sl 10 0 (.pair .str (.pair .str .unit)), .boxSl 1 0 (.pair .str (.pair .str .unit))], [(1, .lf (.ptr 0 0)), (10, .lf (.d (.sl (.pair .str (.pair .str .unit))))), (11, .lf (.d (.int .i64))), (12, .lf (.d (.int .i64)))], [.box 29 [.d (.sl (.pair .str (.pair .str .unit)))]]⟩, fun e => if e = 1 then ⟨[], [(2, .lf (.d .bool))], []⟩ else if e = 2 then ⟨[], [], []⟩ else ⟨[], [], []⟩) else (⟨[], [], []⟩, fun _ => ⟨[], [], []⟩)
noncomputable def co_impl_ValidState_5 : Code := (loopsIn (bodyOf Try.f19)).getD 0 .skip
def fu_impl_ValidState_5 (v10 : List (ByteArray × ByteArray × Unit)) (v11 : Int) (v12 : Int) (b0_0 : List (ByteArray × ByteArray × Unit)) : Nat := (v11 - v12).toNat + 1
def tr_impl_ValidState_5 {R : Type}  (NX : ((List (ByteArray × ByteArray × Unit)) × (Int) × (Int) × (List (ByteArray × ByteArray × Unit)) × Unit) → Option R) (X2 : (Unit) → Option R) (X1 : ((Bool) × Unit) → Option R) (v10 : List (ByteArray × ByteArray × Unit)) (v11 : Int) (v12 : Int) (b0_0 : List (ByteArray × ByteArray × Unit)) : Option R :=
  bif decide (v12 < v11) then
    bif decide (0 ≤ v12) then
      bif decide (v12 < nI (List.length v10)) then
        bif !m_impl_goodKey (List.getD v10 (Int.toNat v12) (ByteArray.mk #[], ByteArray.mk #[], ())).fst then X1 (false, ())
        else
          bif decide (nI (ByteArray.size (List.getD v10 (Int.toNat v12) (ByteArray.mk #[], ByteArray.mk #[], ())).snd.fst) > 100) then X1 (false, ())
          else
            bif decide (v12 > 0) then
              bif decide (0 ≤ IntKind.wrap IntKind.i64 (v12 - 1)) then
                bif decide (IntKind.wrap IntKind.i64 (v12 - 1) < nI (List.length b0_0)) then
                  bif
                      !Op.bytesLess (ByteArray.toList (List.getD b0_0 (Int.toNat (IntKind.wrap IntKind.i64 (v12 - 1))) (ByteArray.mk #[], ByteArray.mk #[], ())).fst)
                          (ByteArray.toList (List.getD v10 (Int.toNat v12) (ByteArray.mk #[], ByteArray.mk #[], ())).fst) then
                    X1 (false, ())
                  else NX (v10, v11, IntKind.wrap IntKind.i64 (v12 + 1), b0_0, ())
                else none
              else none
            else NX (v10, v11, IntKind.wrap IntKind.i64 (v12 + 1), b0_0, ())
      else none
    else none
  else X2 PUnit.unit
def lo_impl_ValidState_5 : Nat → (List (ByteArray × ByteArray × Unit)) → (Int) → (Int) → (List (ByteArray × ByteArray × Unit)) →  Option ((Unit) ⊕ ((Bool) × Unit))
  | 0, _, _, _, _ => none
  | m + 1, v10, v11, v12, b0_0 => tr_impl_ValidState_5  (fun d => lo_impl_ValidState_5 m d.1 d.2.1 d.2.2.1 d.2.2.2.1) (fun d => some (.inl (d))) (fun d => some (.inr (d))) v10 v11 v12 b0_0
theorem na_impl_ValidState_5 {R S : Type}  (NX : ((List (ByteArray × ByteArray × Unit)) × (Int) × (Int) × (List (ByteArray × ByteArray × Unit)) × Unit) → Option R) (X2 : (Unit) → Option R) (X1 : ((Bool) × Unit) → Option R) (v10 : List (ByteArray × ByteArray × Unit)) (v11 : Int) (v12 : Int) (b0_0 : List (ByteArray × ByteArray × Unit)) (f : R → Option S) : tr_impl_ValidState_5  (fun d => (NX d).bind f) (fun d => (X2 d).bind f) (fun d => (X1 d).bind f) v10 v11 v12 b0_0 = (tr_impl_ValidState_5  NX X2 X1 v10 v11 v12 b0_0).bind f := by
  unfold tr_impl_ValidState_5
  simp only [cond_bind, ite_bind, onSum_bind, Option.bind_assoc, Option.bind_none, Option.bind_some]
def de_impl_ValidState (a0 : (List (ByteArray × ByteArray × Unit)) × Unit) : Option ((((Bool) × Unit) × (Unit))) :=
  bif decide (nI (List.length a0.fst) > 100) then some ((false, ()), ())
  else Option.bind ((fun d => lo_impl_ValidState_5 (fu_impl_ValidState_5 d.1 d.2.1 d.2.2.1 d.2.2.2.1) d.1 d.2.1 d.2.2.1 d.2.2.2.1) (a0.fst, nI (List.length a0.fst), 0, a0.fst, ())) fun val => onSum (fun val => some ((true, ()), ())) (fun val => some ((val.fst, ()), ())) val
theorem eq_impl_ValidState (a0 : Stt) : de_impl_ValidState a0 = some ((m_impl_ValidState a0, ()), ()) := by
  unfold de_impl_ValidState m_impl_ValidState validState
  have c1 : decide (nI a0.1.length > 100) = !decide (a0.1.length ≤ 100) := gt100 _ 100
  by_cases hl : a0.1.length ≤ 100
  · have hL := all_loop (n := a0.1.length) (okPairAt a0.1) (g := fun m i => lo_impl_ValidState_5 m a0.1 (nI a0.1.length) i a0.1) (ok := .inl ()) (bad := .inr (false, ())) (fun m i hi => by
      show lo_impl_ValidState_5 (m + 1) a0.1 (nI a0.1.length) i a0.1 = _
      simp only [lo_impl_ValidState_5, tr_impl_ValidState_5]
      have g1 : decide (nI (ByteArray.size (List.getD a0.1 i (ByteArray.mk #[], ByteArray.mk #[], ())).2.1) > 100) = !decide (ByteArray.size (List.getD a0.1 i zP).2.1 ≤ 100) := gt100 _ 100
      rw [cLt hi, cLe0, wI (show i < 4611686018427387904 by omega), Int.toNat_natCast, gt0, g1]
      simp only [cond_true]
      unfold okPairAt bl
      show (bif !keyOk (List.getD a0.1 i zP).1 then _ else _) = _
      cases i with
      | zero =>
        show (bif !keyOk (List.getD a0.1 0 zP).1 then _ else bif !decide (ByteArray.size (List.getD a0.1 0 zP).2.1 ≤ 100) then _ else _) = _
        cases keyOk (List.getD a0.1 0 zP).1 <;> cases decide (ByteArray.size (List.getD a0.1 0 zP).2.1 ≤ 100) <;> rfl
      | succ j =>
        rw [wP j (by omega), cLe0, cLt (show j < a0.1.length by omega)]
        show (bif !keyOk (List.getD a0.1 (j + 1) zP).1 then _ else bif !decide (ByteArray.size (List.getD a0.1 (j + 1) zP).2.1 ≤ 100) then _ else bif !Op.bytesLess (ByteArray.toList (List.getD a0.1 j zP).1) (ByteArray.toList (List.getD a0.1 (j + 1) zP).1) then _ else _) = _
        rw [Nat.add_sub_cancel]
        cases keyOk (List.getD a0.1 (j + 1) zP).1 <;> cases decide (ByteArray.size (List.getD a0.1 (j + 1) zP).2.1 ≤ 100) <;> cases Op.bytesLess (ByteArray.toList (List.getD a0.1 j zP).1) (ByteArray.toList (List.getD a0.1 (j + 1) zP).1) <;> rfl) (fun m => by
      show lo_impl_ValidState_5 (m + 1) a0.1 (nI a0.1.length) (a0.1.length : Int) a0.1 = _
      simp only [lo_impl_ValidState_5, tr_impl_ValidState_5]
      rw [cLtF]
      rfl) (fu_impl_ValidState_5 a0.1 (nI a0.1.length) 0 a0.1) 0 (by omega) (by simp [fu_impl_ValidState_5, nI])
    have hL' : lo_impl_ValidState_5 (fu_impl_ValidState_5 a0.1 (nI a0.1.length) 0 a0.1) a0.1 (nI a0.1.length) 0 a0.1 = _ := hL
    rw [c1, decide_eq_true hl]
    show (lo_impl_ValidState_5 (fu_impl_ValidState_5 a0.1 (nI a0.1.length) 0 a0.1) a0.1 (nI a0.1.length) 0 a0.1).bind _ = _
    rw [hL']
    cases (List.range' 0 (a0.1.length - 0)).all (okPairAt a0.1) <;> rfl
  · rw [c1, decide_eq_false hl]
    rfl
def ou_impl_ValidState_5 {R : Type} (k : Kt R) : ((Unit) ⊕ ((Bool) × Unit)) → Option R := (onSum (fun d => k (.exit 0) (((pa_impl_ValidState 5).2 2).st d) (((pa_impl_ValidState 5).2 2).nid)) (fun d => k .ret (((pa_impl_ValidState 5).2 1).st d) (((pa_impl_ValidState 5).2 1).nid)))
def L_impl_ValidState {R : Type} : Lt R pa_impl_ValidState := (addL (pat := pa_impl_ValidState) 5 (fun d k => (lo_impl_ValidState_5 (fu_impl_ValidState_5 d.1 d.2.1 d.2.2.1 d.2.2.2.1) d.1 d.2.1 d.2.2.1 d.2.2.2.1).bind (ou_impl_ValidState_5 k)) noL)
theorem rd_impl_ValidState_5 {R : Type} (nx : (pa_impl_ValidState 5).1.D → Kt R → Option R) (k : Kt R) (v10 : List (ByteArray × ByteArray × Unit)) (v11 : Int) (v12 : Int) (b0_0 : List (ByteArray × ByteArray × Unit)) : ev Try.prog ⟨ta_impl_ValidState, 0, 44, pa_impl_ValidState⟩ L_impl_ValidState co_impl_ValidState_5 ((pa_impl_ValidState 5).1.st (v10, v11, v12, b0_0, ())) (pa_impl_ValidState 5).1.nid (roundK 0 (pa_impl_ValidState 5) nx k) = tr_impl_ValidState_5  (fun d => nx d k) (fun d => k (.exit 0) (((pa_impl_ValidState 5).2 2).st d) (((pa_impl_ValidState 5).2 2).nid)) (fun d => k .ret (((pa_impl_ValidState 5).2 1).st d) (((pa_impl_ValidState 5).2 1).nid)) v10 v11 v12 b0_0 := by kernel_rfl
theorem lp_impl_ValidState_5 {R : Type} : ∀ (m : Nat) (d : (pa_impl_ValidState 5).1.D) (k : Kt R), loopN 0 (pa_impl_ValidState 5) (fun s nid k => ev Try.prog ⟨ta_impl_ValidState, 0, 44, pa_impl_ValidState⟩ L_impl_ValidState co_impl_ValidState_5 s nid k) m d k = (lo_impl_ValidState_5 m d.1 d.2.1 d.2.2.1 d.2.2.2.1).bind (ou_impl_ValidState_5 k)
  | 0, _, _ => rfl
  | m + 1, ⟨v10, v11, v12, b0_0, ⟨⟩⟩, k => (rd_impl_ValidState_5 _ k v10 v11 v12 b0_0).trans ((congrArg (fun F => tr_impl_ValidState_5  F (fun d => k (.exit 0) (((pa_impl_ValidState 5).2 2).st d) (((pa_impl_ValidState 5).2 2).nid)) (fun d => k .ret (((pa_impl_ValidState 5).2 1).st d) (((pa_impl_ValidState 5).2 1).nid)) v10 v11 v12 b0_0) (funext fun d => lp_impl_ValidState_5 m d k)).trans (na_impl_ValidState_5 (f := ou_impl_ValidState_5 k)  (fun d => lo_impl_ValidState_5 m d.1 d.2.1 d.2.2.1 d.2.2.2.1) (fun d => some (.inl (d))) (fun d => some (.inr (d))) v10 v11 v12 b0_0))
theorem en_impl_ValidState (a0 : (List (ByteArray × ByteArray × Unit)) × Unit) : evalF Try.prog ta_impl_ValidState pa_impl_ValidState sg_impl_ValidState Try.f19 L_impl_ValidState (a0, ()) = de_impl_ValidState a0 := by kernel_rfl
theorem si_impl_ValidState : SigsOk Try.prog ta_impl_ValidState := SigsOk.of fun f sd h => by
  try dsimp only [Tb.of, ta_impl_ValidState] at h
  split at h
  · rename_i e; subst e; cases h; exact sn_impl_goodKey
  cases h
theorem lk_impl_ValidState_5 {R : Type} : LoopOk Try.prog R 44 0 pa_impl_ValidState L_impl_ValidState co_impl_ValidState_5 :=
  loop_key (cfg := ⟨ta_impl_ValidState, 0, 44, pa_impl_ValidState⟩) (key := 5) (by kernel_rfl) (by kernel_rfl) si_impl_ValidState rfl rfl (fun d k r h => ⟨fu_impl_ValidState_5 d.1 d.2.1 d.2.2.1 d.2.2.2.1, (lp_impl_ValidState_5 _ d k).trans h⟩) (fun c hc => by rw [show loopsIn co_impl_ValidState_5 = [] from by kernel_rfl] at hc; cases hc)
theorem sn_impl_ValidState : Callable Try.prog 19 ∧ Sound Try.prog 19 sd_impl_ValidState.sg sd_impl_ValidState.den :=
  fn_loops (pat := pa_impl_ValidState) L_impl_ValidState (by kernel_rfl) si_impl_ValidState Try.func19 (by kernel_rfl) (by kernel_rfl) (fun c hc => by rw [show loopsIn (bodyOf Try.f19) = [co_impl_ValidState_5] from by kernel_rfl] at hc; simp only [List.mem_cons, List.not_mem_nil, or_false] at hc; rcases hc with rfl <;> first | exact lk_impl_ValidState_5) fun x r h => by
    obtain ⟨a0, ⟨⟩⟩ := x; rw [← h]; exact (en_impl_ValidState a0).trans (eq_impl_ValidState a0)
def m_impl_Get (s : Stt) (k : ByteArray) : ByteArray × Bool := getD' s k
def sg_impl_Get : Sig := ⟨[.rd (.pair (.sl (.pair .str (.pair .str .unit))) .unit), .rd .str], [some 1, none], [.rd .str, .rd .bool], [none, none]⟩
def sd_impl_Get : SD := ⟨sg_impl_Get, fun x => some (((m_impl_Get x.1 x.2.1).1, (m_impl_Get x.1 x.2.1).2, ()), (()))⟩
def ta_impl_Get : Tb := Tb.of fun f => if f = 19 then some sd_impl_ValidState else none
def pa_impl_Get : Nat → Pat × (Nat → Pat) := fun k => if k = 5 then (⟨[.sl 12 0 (.pair .str (.pair .str .unit))], [(1, .lf (.d .str)), (12, .lf (.d (.sl (.pair .str (.pair .str .unit))))), (13, .lf (.d (.int .i64))), (14, .lf (.d (.int .i64)))], []⟩, fun e => if e = 1 then ⟨[], [(4, .lf (.d .str)), (5, .lf (.d .bool))], []⟩ else if e = 2 then ⟨[], [], []⟩ else ⟨[], [], []⟩) else (⟨[], [], []⟩, fun _ => ⟨[], [], []⟩)
noncomputable def co_impl_Get_5 : Code := (loopsIn (bodyOf Try.f22)).getD 0 .skip
def fu_impl_Get_5 (v1 : ByteArray) (v12 : List (ByteArray × ByteArray × Unit)) (v13 : Int) (v14 : Int) : Nat := (v13 - v14).toNat + 1
def tr_impl_Get_5 {R : Type}  (NX : ((ByteArray) × (List (ByteArray × ByteArray × Unit)) × (Int) × (Int) × Unit) → Option R) (X2 : (Unit) → Option R) (X1 : ((ByteArray) × (Bool) × Unit) → Option R) (v1 : ByteArray) (v12 : List (ByteArray × ByteArray × Unit)) (v13 : Int) (v14 : Int) : Option R :=
  bif decide (v14 < v13) then
    bif decide (0 ≤ v14) then
      bif decide (v14 < nI (List.length v12)) then
        bif ByteArray.toList (List.getD v12 (Int.toNat v14) (ByteArray.mk #[], ByteArray.mk #[], ())).fst == ByteArray.toList v1 then
          X1 ((List.getD v12 (Int.toNat v14) (ByteArray.mk #[], ByteArray.mk #[], ())).snd.fst, true, ())
        else NX (v1, v12, v13, IntKind.wrap IntKind.i64 (v14 + 1), ())
      else none
    else none
  else X2 PUnit.unit
def lo_impl_Get_5 : Nat → (ByteArray) → (List (ByteArray × ByteArray × Unit)) → (Int) → (Int) →  Option ((Unit) ⊕ ((ByteArray) × (Bool) × Unit))
  | 0, _, _, _, _ => none
  | m + 1, v1, v12, v13, v14 => tr_impl_Get_5  (fun d => lo_impl_Get_5 m d.1 d.2.1 d.2.2.1 d.2.2.2.1) (fun d => some (.inl (d))) (fun d => some (.inr (d))) v1 v12 v13 v14
theorem na_impl_Get_5 {R S : Type}  (NX : ((ByteArray) × (List (ByteArray × ByteArray × Unit)) × (Int) × (Int) × Unit) → Option R) (X2 : (Unit) → Option R) (X1 : ((ByteArray) × (Bool) × Unit) → Option R) (v1 : ByteArray) (v12 : List (ByteArray × ByteArray × Unit)) (v13 : Int) (v14 : Int) (f : R → Option S) : tr_impl_Get_5  (fun d => (NX d).bind f) (fun d => (X2 d).bind f) (fun d => (X1 d).bind f) v1 v12 v13 v14 = (tr_impl_Get_5  NX X2 X1 v1 v12 v13 v14).bind f := by
  unfold tr_impl_Get_5
  simp only [cond_bind, ite_bind, onSum_bind, Option.bind_assoc, Option.bind_none, Option.bind_some]
def de_impl_Get (a0 : (List (ByteArray × ByteArray × Unit)) × Unit) (a1 : ByteArray) : Option ((((ByteArray) × (Bool) × Unit) × (Unit))) :=
  bif !m_impl_ValidState (a0.fst, ()) then some ((ByteArray.mk #[], false, ()), ())
  else Option.bind ((fun d => lo_impl_Get_5 (fu_impl_Get_5 d.1 d.2.1 d.2.2.1 d.2.2.2.1) d.1 d.2.1 d.2.2.1 d.2.2.2.1) (a1, a0.fst, nI (List.length a0.fst), 0, ())) fun val => onSum (fun val => some ((ByteArray.mk #[], false, ()), ())) (fun val => some ((val.fst, val.snd.fst, ()), ())) val
theorem eq_impl_Get (a0 : Stt) (a1 : ByteArray) : de_impl_Get a0 a1 = some (((m_impl_Get a0 a1).1, (m_impl_Get a0 a1).2, ()), (())) := by
  unfold de_impl_Get m_impl_Get getD'
  show (bif !validState a0 then _ else _) = _
  cases hv : validState a0 with
  | false => rfl
  | true =>
    have hlen : a0.1.length ≤ 100 := of_decide_eq_true (and2 hv).1
    have hL := find_loop (xs := a0.1) zP (fun p => p.1.toList == a1.toList) (fun p => .inr (p.2.1, true, ())) (g := fun m i => lo_impl_Get_5 m a1 a0.1 (nI a0.1.length) i) (ok := .inl ()) (fun m i hi => by
      show lo_impl_Get_5 (m + 1) a1 a0.1 (nI a0.1.length) i = _
      simp only [lo_impl_Get_5, tr_impl_Get_5]
      rw [cLt hi, cLe0, wI (show i < 4611686018427387904 by omega), Int.toNat_natCast]
      rfl) (fun m => by
      show lo_impl_Get_5 (m + 1) a1 a0.1 (nI a0.1.length) (a0.1.length : Int) = _
      simp only [lo_impl_Get_5, tr_impl_Get_5]
      rw [cLtF]
      rfl) (fu_impl_Get_5 a1 a0.1 (nI a0.1.length) 0) 0 (by omega) (by simp [fu_impl_Get_5, nI])
    have hL' : lo_impl_Get_5 (fu_impl_Get_5 a1 a0.1 (nI a0.1.length) 0) a1 a0.1 (nI a0.1.length) 0 = _ := hL
    show (lo_impl_Get_5 (fu_impl_Get_5 a1 a0.1 (nI a0.1.length) 0) a1 a0.1 (nI a0.1.length) 0).bind _ = some (((getGo a1 a0.1).1, (getGo a1 a0.1).2, ()), ())
    rw [hL', List.drop_zero]
    show onSum _ _ _ = _
    unfold getGo
    rw [findGo_map (onSum _ _), findGo_map (fun r : ByteArray × Bool => some ((r.1, r.2, ()), ()))]
    rfl
def ou_impl_Get_5 {R : Type} (k : Kt R) : ((Unit) ⊕ ((ByteArray) × (Bool) × Unit)) → Option R := (onSum (fun d => k (.exit 0) (((pa_impl_Get 5).2 2).st d) (((pa_impl_Get 5).2 2).nid)) (fun d => k .ret (((pa_impl_Get 5).2 1).st d) (((pa_impl_Get 5).2 1).nid)))
def L_impl_Get {R : Type} : Lt R pa_impl_Get := (addL (pat := pa_impl_Get) 5 (fun d k => (lo_impl_Get_5 (fu_impl_Get_5 d.1 d.2.1 d.2.2.1 d.2.2.2.1) d.1 d.2.1 d.2.2.1 d.2.2.2.1).bind (ou_impl_Get_5 k)) noL)
theorem rd_impl_Get_5 {R : Type} (nx : (pa_impl_Get 5).1.D → Kt R → Option R) (k : Kt R) (v1 : ByteArray) (v12 : List (ByteArray × ByteArray × Unit)) (v13 : Int) (v14 : Int) : ev Try.prog ⟨ta_impl_Get, 0, 25, pa_impl_Get⟩ L_impl_Get co_impl_Get_5 ((pa_impl_Get 5).1.st (v1, v12, v13, v14, ())) (pa_impl_Get 5).1.nid (roundK 0 (pa_impl_Get 5) nx k) = tr_impl_Get_5  (fun d => nx d k) (fun d => k (.exit 0) (((pa_impl_Get 5).2 2).st d) (((pa_impl_Get 5).2 2).nid)) (fun d => k .ret (((pa_impl_Get 5).2 1).st d) (((pa_impl_Get 5).2 1).nid)) v1 v12 v13 v14 := by kernel_rfl
theorem lp_impl_Get_5 {R : Type} : ∀ (m : Nat) (d : (pa_impl_Get 5).1.D) (k : Kt R), loopN 0 (pa_impl_Get 5) (fun s nid k => ev Try.prog ⟨ta_impl_Get, 0, 25, pa_impl_Get⟩ L_impl_Get co_impl_Get_5 s nid k) m d k = (lo_impl_Get_5 m d.1 d.2.1 d.2.2.1 d.2.2.2.1).bind (ou_impl_Get_5 k)
  | 0, _, _ => rfl
  | m + 1, ⟨v1, v12, v13, v14, ⟨⟩⟩, k => (rd_impl_Get_5 _ k v1 v12 v13 v14).trans ((congrArg (fun F => tr_impl_Get_5  F (fun d => k (.exit 0) (((pa_impl_Get 5).2 2).st d) (((pa_impl_Get 5).2 2).nid)) (fun d => k .ret (((pa_impl_Get 5).2 1).st d) (((pa_impl_Get 5).2 1).nid)) v1 v12 v13 v14) (funext fun d => lp_impl_Get_5 m d k)).trans (na_impl_Get_5 (f := ou_impl_Get_5 k)  (fun d => lo_impl_Get_5 m d.1 d.2.1 d.2.2.1 d.2.2.2.1) (fun d => some (.inl (d))) (fun d => some (.inr (d))) v1 v12 v13 v14))
theorem en_impl_Get (a0 : (List (ByteArray × ByteArray × Unit)) × Unit) (a1 : ByteArray) : evalF Try.prog ta_impl_Get pa_impl_Get sg_impl_Get Try.f22 L_impl_Get (a0, a1, ()) = de_impl_Get a0 a1 := by kernel_rfl
theorem si_impl_Get : SigsOk Try.prog ta_impl_Get := SigsOk.of fun f sd h => by
  try dsimp only [Tb.of, ta_impl_Get] at h
  split at h
  · rename_i e; subst e; cases h; exact sn_impl_ValidState
  cases h
theorem lk_impl_Get_5 {R : Type} : LoopOk Try.prog R 25 0 pa_impl_Get L_impl_Get co_impl_Get_5 :=
  loop_key (cfg := ⟨ta_impl_Get, 0, 25, pa_impl_Get⟩) (key := 5) (by kernel_rfl) (by kernel_rfl) si_impl_Get rfl rfl (fun d k r h => ⟨fu_impl_Get_5 d.1 d.2.1 d.2.2.1 d.2.2.2.1, (lp_impl_Get_5 _ d k).trans h⟩) (fun c hc => by rw [show loopsIn co_impl_Get_5 = [] from by kernel_rfl] at hc; cases hc)
theorem sn_impl_Get : Callable Try.prog 22 ∧ Sound Try.prog 22 sd_impl_Get.sg sd_impl_Get.den :=
  fn_loops (pat := pa_impl_Get) L_impl_Get (by kernel_rfl) si_impl_Get Try.func22 (by kernel_rfl) (by kernel_rfl) (fun c hc => by rw [show loopsIn (bodyOf Try.f22) = [co_impl_Get_5] from by kernel_rfl] at hc; simp only [List.mem_cons, List.not_mem_nil, or_false] at hc; rcases hc with rfl <;> first | exact lk_impl_Get_5) fun x r h => by
    obtain ⟨a0, a1, ⟨⟩⟩ := x; rw [← h]; exact (en_impl_Get a0 a1).trans (eq_impl_Get a0 a1)
def sg_laws_FnExactGet : Sig := ⟨[.rd (.pair (.sl (.pair .str (.pair .str .unit))) .unit), .rd .str], [some 1, none], [.rd .bool], [none]⟩
def ta_laws_FnExactGet : Tb := Tb.of fun f => if f = 16 then some sd_laws_szState else if f = 18 then some sd_laws_toState else if f = 20 then some sd_laws_eqState else if f = 21 then some sd_spec_Get else if f = 22 then some sd_impl_Get else none
def pa_laws_FnExactGet : Nat → Pat × (Nat → Pat) := fun k => (⟨[], [], []⟩, fun _ => ⟨[], [], []⟩)
def de_laws_FnExactGet (a0 : (List (ByteArray × ByteArray × Unit)) × Unit) (a1 : ByteArray) : Option ((((Bool) × Unit) × (Unit))) :=
  bif decide (nI (ByteArray.size a1) > 1048576) then some ((true, ()), ())
  else
    Option.bind (Option.bind (m_laws_szState (a0.fst, ()) 1048576) fun val => some ((val, ()), ())) fun val =>
      bif decide (val.fst.fst < 0) then some ((true, ()), ())
      else
        Option.bind (Option.bind (m_laws_toState (a0.fst, ())) fun val => some ((val.fst, ()), ())) fun val =>
          Option.bind (Option.bind (m_laws_toState (a0.fst, ())) fun val => some ((val.fst, ()), ())) fun val_1 =>
            bif !ByteArray.toList (m_impl_Get (val_1.fst.fst, ()) a1).fst == ByteArray.toList (m_spec_Get (val.fst.fst, ()) a1).fst then some ((false, ()), ())
            else
              bif !(m_impl_Get (val_1.fst.fst, ()) a1).snd == (m_spec_Get (val.fst.fst, ()) a1).snd then some ((false, ()), ())
              else
                Option.bind (Option.bind (m_laws_toState (a0.fst, ())) fun val => some ((val.fst, ()), ())) fun val =>
                  Option.bind (Option.bind (m_laws_eqState (val_1.fst.fst, ()) (val.fst.fst, ())) fun val => some ((val, ()), ())) fun val =>
                    bif !val.fst.fst then some ((false, ()), ()) else some ((true, ()), ())
def sd_laws_FnExactGet : SD := ⟨sg_laws_FnExactGet, fun x => de_laws_FnExactGet x.1 x.2.1⟩
theorem law_FnExactGet (a0 : (List (ByteArray × ByteArray × Unit)) × Unit)  (a1 : ByteArray) (h0 : FineD (.pair (.sl (.pair .str (.pair .str .unit))) .unit) a0) (h1 : FineD .str a1) : de_laws_FnExactGet a0 a1 = some ((true, ()), ()) := by
  have hf0 := fine_of h0
  have hf1 := fine_of h1
  unfold de_laws_FnExactGet
  by_cases p1 : nI (ByteArray.size a1) > 1048576
  · rw [decide_eq_true p1]; rfl
  · rw [decide_eq_false p1]
    simp only [cond_false]
    rcases sz_cases (l0 := 1048576) hf0 (by first | decide | assumption) (by first | decide | assumption) (m := m_laws_szState (a0.fst, ()) 1048576) rfl with e0 | ⟨l0, e0, g0, k0, s0, q0⟩
    · simp only [e0, Option.bind_some, lt_m1, cond_true]
    · skip
      have t0 : m_laws_toState (a0.fst, ()) = some (a0.fst, ()) := toM_is (t := (.pair (.sl (.pair .str (.pair .str .unit))) .unit)) (x := a0) s0
      have u0 : m_laws_eqState (a0.fst, ()) (a0.fst, ()) = some true := eqM_self (t := (.pair (.sl (.pair .str (.pair .str .unit))) .unit)) (x := a0) hf0
      simp only [e0, q0, t0, u0, Option.bind_some, cond_false, cond_true, beq_self_eq_true, Bool.not_true, Bool.or_self, m_impl_Get, m_spec_Get]
theorem en_laws_FnExactGet (a0 : (List (ByteArray × ByteArray × Unit)) × Unit) (a1 : ByteArray) : evalF Try.prog ta_laws_FnExactGet pa_laws_FnExactGet sg_laws_FnExactGet Try.f4 noL (a0, a1, ()) = de_laws_FnExactGet a0 a1 := by kernel_rfl
theorem si_laws_FnExactGet : SigsOk Try.prog ta_laws_FnExactGet := SigsOk.of fun f sd h => by
  try dsimp only [Tb.of, ta_laws_FnExactGet] at h
  split at h
  · rename_i e; subst e; cases h; exact sn_laws_szState
  split at h
  · rename_i e; subst e; cases h; exact sn_laws_toState
  split at h
  · rename_i e; subst e; cases h; exact sn_laws_eqState
  split at h
  · rename_i e; subst e; cases h; exact sn_spec_Get
  split at h
  · rename_i e; subst e; cases h; exact sn_impl_Get
  cases h
theorem sn_laws_FnExactGet : Callable Try.prog 4 ∧ Sound Try.prog 4 sd_laws_FnExactGet.sg sd_laws_FnExactGet.den :=
  fn_plain (pat := pa_laws_FnExactGet) (by kernel_rfl) si_laws_FnExactGet Try.func4 (by kernel_rfl) (by kernel_rfl) (by kernel_rfl) fun x r h => by
    obtain ⟨a0, a1, ⟨⟩⟩ := x; exact (en_laws_FnExactGet a0 a1).trans h
end Go.Proofs.Ytmhjcfgkheihdaa.V
