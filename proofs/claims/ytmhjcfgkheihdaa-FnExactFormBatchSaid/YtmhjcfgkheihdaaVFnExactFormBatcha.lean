/- What the functions that FnExactFormBatch reaches come to: part 1. No condition. -/
import Derived.Test.YtmhjcfgkheihdaaQBase
import Derived.Test.YtmhjcfgkheihdaaTLay
import Derived.Test.YtmhjcfgkheihdaaProg
import Derived.KernelRfl
namespace Go.Proofs.Ytmhjcfgkheihdaa.V
open Go Go.Proofs.Ytmhjcfgkheihdaa.R Go.Proofs
set_option maxRecDepth 100000
set_option linter.unusedVariables false
set_option linter.unusedSimpArgs false
def m_laws_szChange (a : ByteArray × ByteArray × Bool × Unit) (left : Int) : Option Int := szM (.pair .str (.pair .str (.pair .bool .unit))) a left
def sg_laws_szChange : Sig := ⟨[.rd (.pair .str (.pair .str (.pair .bool .unit))), .rd (.int .i64)], [some 3, none], [.rd (.int .i64)], [none]⟩
noncomputable def sd_laws_szChange : SD := ⟨sg_laws_szChange, fun x => (m_laws_szChange x.1 x.2.1).bind fun r => some ((r, ()), (()))⟩
noncomputable def ta_laws_szChange : Tb := Tb.of fun f => none
def pa_laws_szChange : Nat → Pat × (Nat → Pat) := fun k => (⟨[], [], []⟩, fun _ => ⟨[], [], []⟩)
noncomputable def de_laws_szChange (a0 : ByteArray × ByteArray × Bool × Unit) (a1 : Int) : Option ((((Int) × Unit) × (Unit))) :=
  bif decide (IntKind.wrap IntKind.i64 (a1 - nI (ByteArray.size a0.fst)) < 0) then some ((-1, ()), ())
  else
    bif decide (IntKind.wrap IntKind.i64 (IntKind.wrap IntKind.i64 (a1 - nI (ByteArray.size a0.fst)) - nI (ByteArray.size a0.snd.fst)) < 0) then some ((-1, ()), ())
    else some ((IntKind.wrap IntKind.i64 (IntKind.wrap IntKind.i64 (a1 - nI (ByteArray.size a0.fst)) - nI (ByteArray.size a0.snd.fst)), ()), ())
theorem eq_laws_szChange (a0 : ByteArray × ByteArray × Bool × Unit) (a1 : Int) r (h : m_laws_szChange a0 a1 = some r) : de_laws_szChange a0 a1 = some ((r, ()), (())) := by
  obtain ⟨hc, g0, g1, rfl⟩ := szM_some (t := (.pair .str (.pair .str (.pair .bool .unit)))) h
  obtain ⟨hc0, hc1, hc2, _⟩ : fineB .str a0.1 = true ∧ fineB .str a0.2.1 = true ∧ fineB .bool a0.2.2.1 = true ∧ True := by
    have s := hc
    obtain ⟨h0, s⟩ := fineB_pair s
    obtain ⟨h1, s⟩ := fineB_pair s
    obtain ⟨h2, s⟩ := fineB_pair s
    exact ⟨h0, h1, h2, trivial⟩
  unfold de_laws_szChange
  have hwt : (wt (.pair .str (.pair .str (.pair .bool .unit))) a0 : Int) = (ByteArray.size a0.1 : Int) + (ByteArray.size a0.2.1 : Int) := by simp only [wt]; omega
  rw [hwt]
  have hs0 : ByteArray.size a0.1 < 1152921504606846976 := fineB_str hc0
  have e0 : IntKind.i64.wrap (a1 - nI (ByteArray.size a0.1)) = a1 - (ByteArray.size a0.1 : Int) := wrap_ok (by simp only [nI]; omega) (by simp only [nI]; omega)
  simp only [e0]
  by_cases q0 : a1 - (ByteArray.size a0.1 : Int) < 0
  · simp only [decide_eq_true q0, cond_true]; try rw [if_pos (by omega)]
  · simp only [decide_eq_false q0, cond_false]
    have hs1 : ByteArray.size a0.2.1 < 1152921504606846976 := fineB_str hc1
    have e1 : IntKind.i64.wrap (a1 - (ByteArray.size a0.1 : Int) - nI (ByteArray.size a0.2.1)) = a1 - (ByteArray.size a0.1 : Int) - (ByteArray.size a0.2.1 : Int) := wrap_ok (by simp only [nI]; omega) (by simp only [nI]; omega)
    simp only [e1]
    by_cases q1 : a1 - (ByteArray.size a0.1 : Int) - (ByteArray.size a0.2.1 : Int) < 0
    · simp only [decide_eq_true q1, cond_true]; try rw [if_pos (by omega)]
    · simp only [decide_eq_false q1, cond_false]
      rw [if_neg (by omega)]
      simp only [Int.sub_sub, Int.add_assoc]
theorem en_laws_szChange (a0 : ByteArray × ByteArray × Bool × Unit) (a1 : Int) : evalF Try.prog ta_laws_szChange pa_laws_szChange sg_laws_szChange Try.f79 noL (a0, a1, ()) = de_laws_szChange a0 a1 := by kernel_rfl
theorem si_laws_szChange : SigsOk Try.prog ta_laws_szChange := SigsOk.of fun f sd h => by
  try dsimp only [Tb.of, ta_laws_szChange] at h
  cases h
theorem sn_laws_szChange : Callable Try.prog 79 ∧ Sound Try.prog 79 sd_laws_szChange.sg sd_laws_szChange.den :=
  fn_plain (pat := pa_laws_szChange) (by kernel_rfl) si_laws_szChange Try.func79 (by kernel_rfl) (by kernel_rfl) (by kernel_rfl) fun x r h => by
    obtain ⟨a0, a1, ⟨⟩⟩ := x; obtain ⟨y, h1, h2⟩ := Option.bind_eq_some_iff.1 (show (m_laws_szChange a0 a1).bind (fun r => some ((r, ()), (()))) = some r from h); cases h2; exact (en_laws_szChange a0 a1).trans (eq_laws_szChange a0 a1 _ h1)
def m_laws_szChangeS (a : List (ByteArray × ByteArray × Bool × Unit)) (left : Int) : Option Int := szM (.sl (.pair .str (.pair .str (.pair .bool .unit)))) a left
def sg_laws_szChangeS : Sig := ⟨[.rd (.sl (.pair .str (.pair .str (.pair .bool .unit)))), .rd (.int .i64)], [none, none], [.rd (.int .i64)], [none]⟩
noncomputable def sd_laws_szChangeS : SD := ⟨sg_laws_szChangeS, fun x => (m_laws_szChangeS x.1 x.2.1).bind fun r => some ((r, ()), (()))⟩
noncomputable def ta_laws_szChangeS : Tb := Tb.of fun f => if f = 79 then some sd_laws_szChange else none
def pa_laws_szChangeS : Nat → Pat × (Nat → Pat) := fun k => if k = 6 then (⟨[.sl 0 0 (.pair .str (.pair .str (.pair .bool .unit)))], [(0, .lf (.d (.sl (.pair .str (.pair .str (.pair .bool .unit)))))), (1, .lf (.d (.int .i64))), (5, .lf (.d (.int .i64)))], []⟩, fun e => if e = 1 then ⟨[], [(4, .lf (.d (.int .i64)))], []⟩ else if e = 2 then ⟨[], [(1, .lf (.d (.int .i64)))], []⟩ else ⟨[], [], []⟩) else (⟨[], [], []⟩, fun _ => ⟨[], [], []⟩)
noncomputable def co_laws_szChangeS_6 : Code := (loopsIn (bodyOf Try.f28)).getD 0 .skip
def fu_laws_szChangeS_6 (v0 : List (ByteArray × ByteArray × Bool × Unit)) (v1 : Int) (v5 : Int) : Nat := ((v0.length : Int) - v5).toNat + 1
noncomputable def tr_laws_szChangeS_6 {R : Type}  (NX : ((List (ByteArray × ByteArray × Bool × Unit)) × (Int) × (Int) × Unit) → Option R) (X2 : ((Int) × Unit) → Option R) (X1 : ((Int) × Unit) → Option R) (v0 : List (ByteArray × ByteArray × Bool × Unit)) (v1 : Int) (v5 : Int) : Option R :=
  bif decide (v5 < nI (List.length v0)) then
    bif decide (0 ≤ v5) then
      bif decide (v5 < nI (List.length v0)) then
        Option.bind
          (Option.bind
            (m_laws_szChange
              ((List.getD v0 (Int.toNat v5) (ByteArray.mk #[], ByteArray.mk #[], false, ())).fst, (List.getD v0 (Int.toNat v5) (ByteArray.mk #[], ByteArray.mk #[], false, ())).snd.fst,
                (List.getD v0 (Int.toNat v5) (ByteArray.mk #[], ByteArray.mk #[], false, ())).snd.snd.fst, ())
              v1)
            fun val => some ((val, ()), ()))
          fun val => bif decide (val.fst.fst < 0) then X1 (-1, ()) else NX (v0, val.fst.fst, IntKind.wrap IntKind.i64 (v5 + 1), ())
      else none
    else none
  else X2 (v1, ())
noncomputable def lo_laws_szChangeS_6 : Nat → (List (ByteArray × ByteArray × Bool × Unit)) → (Int) → (Int) →  Option (((Int) × Unit) ⊕ ((Int) × Unit))
  | 0, _, _, _ => none
  | m + 1, v0, v1, v5 => tr_laws_szChangeS_6  (fun d => lo_laws_szChangeS_6 m d.1 d.2.1 d.2.2.1) (fun d => some (.inl (d))) (fun d => some (.inr (d))) v0 v1 v5
theorem na_laws_szChangeS_6 {R S : Type}  (NX : ((List (ByteArray × ByteArray × Bool × Unit)) × (Int) × (Int) × Unit) → Option R) (X2 : ((Int) × Unit) → Option R) (X1 : ((Int) × Unit) → Option R) (v0 : List (ByteArray × ByteArray × Bool × Unit)) (v1 : Int) (v5 : Int) (f : R → Option S) : tr_laws_szChangeS_6  (fun d => (NX d).bind f) (fun d => (X2 d).bind f) (fun d => (X1 d).bind f) v0 v1 v5 = (tr_laws_szChangeS_6  NX X2 X1 v0 v1 v5).bind f := by
  unfold tr_laws_szChangeS_6
  simp only [cond_bind, ite_bind, onSum_bind, Option.bind_assoc, Option.bind_none, Option.bind_some]
noncomputable def de_laws_szChangeS (a0 : List (ByteArray × ByteArray × Bool × Unit)) (a1 : Int) : Option ((((Int) × Unit) × (Unit))) :=
  bif decide (IntKind.wrap IntKind.i64 (a1 - nI (List.length a0)) < 0) then some ((-1, ()), ())
  else Option.bind ((fun d => lo_laws_szChangeS_6 (fu_laws_szChangeS_6 d.1 d.2.1 d.2.2.1) d.1 d.2.1 d.2.2.1) (a0, IntKind.wrap IntKind.i64 (a1 - nI (List.length a0)), 0, ())) fun val => onSum (fun val => some ((val.fst, ()), ())) (fun val => some ((val.fst, ()), ())) val
theorem eq_laws_szChangeS (a0 : List (ByteArray × ByteArray × Bool × Unit)) (a1 : Int) r (h : m_laws_szChangeS a0 a1 = some r) : de_laws_szChangeS a0 a1 = some ((r, ()), (())) := by
  obtain ⟨hc, g0, g1, rfl⟩ := szM_some (t := .sl (.pair .str (.pair .str (.pair .bool .unit)))) h
  obtain ⟨hl0, hall⟩ := fineB_sl hc
  have hl : a0.length < 1152921504606846976 := hl0
  clear hl0 hc
  · unfold de_laws_szChangeS
    have hw1 : IntKind.i64.wrap (a1 - nI a0.length) = a1 - (a0.length : Int) := wrap_ok (by simp only [nI]; omega) (by simp only [nI]; omega)
    rw [hw1]
    have hL := sz_loop (xs := a0) ((ByteArray.mk #[]), (ByteArray.mk #[]), false, ()) (fun x : ByteArray × ByteArray × Bool × Unit => wt (.pair .str (.pair .str (.pair .bool .unit))) x) (g := fun m l i => lo_laws_szChangeS_6 m a0 l i) (ok := fun l => .inl (l, ())) (bad := .inr (-1, ())) (fun m i l hi h0 h1 => by
      show lo_laws_szChangeS_6 (m + 1) a0 l i = _
      simp only [lo_laws_szChangeS_6, tr_laws_szChangeS_6]
      rw [cLt hi, cLe0, wI (by omega)]
      simp only [cond_true, Int.toNat_natCast]
      have hE : m_laws_szChange ((List.getD (α := ByteArray × ByteArray × Bool × Unit) a0 i ((ByteArray.mk #[]), (ByteArray.mk #[]), false, ())).fst, (List.getD (α := ByteArray × ByteArray × Bool × Unit) a0 i ((ByteArray.mk #[]), (ByteArray.mk #[]), false, ())).snd.fst, (List.getD (α := ByteArray × ByteArray × Bool × Unit) a0 i ((ByteArray.mk #[]), (ByteArray.mk #[]), false, ())).snd.snd.fst, ()) l = some (if l - (wt (.pair .str (.pair .str (.pair .bool .unit))) (List.getD (α := ByteArray × ByteArray × Bool × Unit) a0 i ((ByteArray.mk #[]), (ByteArray.mk #[]), false, ())) : Int) < 0 then -1 else l - wt (.pair .str (.pair .str (.pair .bool .unit))) (List.getD (α := ByteArray × ByteArray × Bool × Unit) a0 i ((ByteArray.mk #[]), (ByteArray.mk #[]), false, ()))) := by
        exact szM_is (t := (.pair .str (.pair .str (.pair .bool .unit)))) (x := (List.getD (α := ByteArray × ByteArray × Bool × Unit) a0 i ((ByteArray.mk #[]), (ByteArray.mk #[]), false, ()))) (hall _ (getD_mem ((ByteArray.mk #[]), (ByteArray.mk #[]), false, ()) hi)) h0 h1
      rw [hE]
      by_cases q : l - (wt (.pair .str (.pair .str (.pair .bool .unit))) (List.getD (α := ByteArray × ByteArray × Bool × Unit) a0 i ((ByteArray.mk #[]), (ByteArray.mk #[]), false, ())) : Int) < 0
      · simp only [if_pos q, decide_eq_true q, Option.bind_some, cond_true]; rfl
      · simp only [if_neg q, decide_eq_false q, Option.bind_some, cond_false]
    ) (fun m l => by
      show lo_laws_szChangeS_6 (m + 1) a0 l a0.length = _
      simp only [lo_laws_szChangeS_6, tr_laws_szChangeS_6]
      rw [cLtF]
      rfl) (fu_laws_szChangeS_6 a0 (a1 - (a0.length : Int)) 0) 0 (a1 - (a0.length : Int)) (by omega) (by simp [fu_laws_szChangeS_6])
    have hW : wt (.sl (.pair .str (.pair .str (.pair .bool .unit)))) a0 = a0.length + (a0.map (fun x : ByteArray × ByteArray × Bool × Unit => wt (.pair .str (.pair .str (.pair .bool .unit))) x)).sum := rfl
    rw [hW]
    by_cases q : a1 - (a0.length : Int) < 0
    · simp only [decide_eq_true q, cond_true]; rw [if_pos (by omega)]
    · simp only [decide_eq_false q, cond_false]
      have hL := hL (by omega) (by omega)
      rw [List.drop_zero] at hL
      show (lo_laws_szChangeS_6 (fu_laws_szChangeS_6 a0 (a1 - (a0.length : Int)) 0) a0 (a1 - (a0.length : Int)) 0).bind _ = _
      have hL' : lo_laws_szChangeS_6 (fu_laws_szChangeS_6 a0 (a1 - (a0.length : Int)) 0) a0 (a1 - (a0.length : Int)) 0 = _ := hL
      rw [hL']
      have hsum : a1 - ((a0.length + (a0.map (fun x : ByteArray × ByteArray × Bool × Unit => wt (.pair .str (.pair .str (.pair .bool .unit))) x)).sum : Nat) : Int) = a1 - (a0.length : Int) - ((a0.map (fun x : ByteArray × ByteArray × Bool × Unit => wt (.pair .str (.pair .str (.pair .bool .unit))) x)).sum : Int) := by omega
      rw [hsum]
      by_cases q2 : a1 - (a0.length : Int) - ((a0.map (fun x : ByteArray × ByteArray × Bool × Unit => wt (.pair .str (.pair .str (.pair .bool .unit))) x)).sum : Int) < 0
      · simp only [if_pos q2]; rfl
      · simp only [if_neg q2]; rfl
noncomputable def ou_laws_szChangeS_6 {R : Type} (k : Kt R) : (((Int) × Unit) ⊕ ((Int) × Unit)) → Option R := (onSum (fun d => k (.exit 0) (((pa_laws_szChangeS 6).2 2).st d) (((pa_laws_szChangeS 6).2 2).nid)) (fun d => k .ret (((pa_laws_szChangeS 6).2 1).st d) (((pa_laws_szChangeS 6).2 1).nid)))
noncomputable def L_laws_szChangeS {R : Type} : Lt R pa_laws_szChangeS := (addL (pat := pa_laws_szChangeS) 6 (fun d k => (lo_laws_szChangeS_6 (fu_laws_szChangeS_6 d.1 d.2.1 d.2.2.1) d.1 d.2.1 d.2.2.1).bind (ou_laws_szChangeS_6 k)) noL)
theorem rd_laws_szChangeS_6 {R : Type} (nx : (pa_laws_szChangeS 6).1.D → Kt R → Option R) (k : Kt R) (v0 : List (ByteArray × ByteArray × Bool × Unit)) (v1 : Int) (v5 : Int) : ev Try.prog ⟨ta_laws_szChangeS, 0, 27, pa_laws_szChangeS⟩ L_laws_szChangeS co_laws_szChangeS_6 ((pa_laws_szChangeS 6).1.st (v0, v1, v5, ())) (pa_laws_szChangeS 6).1.nid (roundK 0 (pa_laws_szChangeS 6) nx k) = tr_laws_szChangeS_6  (fun d => nx d k) (fun d => k (.exit 0) (((pa_laws_szChangeS 6).2 2).st d) (((pa_laws_szChangeS 6).2 2).nid)) (fun d => k .ret (((pa_laws_szChangeS 6).2 1).st d) (((pa_laws_szChangeS 6).2 1).nid)) v0 v1 v5 := by kernel_rfl
theorem lp_laws_szChangeS_6 {R : Type} : ∀ (m : Nat) (d : (pa_laws_szChangeS 6).1.D) (k : Kt R), loopN 0 (pa_laws_szChangeS 6) (fun s nid k => ev Try.prog ⟨ta_laws_szChangeS, 0, 27, pa_laws_szChangeS⟩ L_laws_szChangeS co_laws_szChangeS_6 s nid k) m d k = (lo_laws_szChangeS_6 m d.1 d.2.1 d.2.2.1).bind (ou_laws_szChangeS_6 k)
  | 0, _, _ => rfl
  | m + 1, ⟨v0, v1, v5, ⟨⟩⟩, k => (rd_laws_szChangeS_6 _ k v0 v1 v5).trans ((congrArg (fun F => tr_laws_szChangeS_6  F (fun d => k (.exit 0) (((pa_laws_szChangeS 6).2 2).st d) (((pa_laws_szChangeS 6).2 2).nid)) (fun d => k .ret (((pa_laws_szChangeS 6).2 1).st d) (((pa_laws_szChangeS 6).2 1).nid)) v0 v1 v5) (funext fun d => lp_laws_szChangeS_6 m d k)).trans (na_laws_szChangeS_6 (f := ou_laws_szChangeS_6 k)  (fun d => lo_laws_szChangeS_6 m d.1 d.2.1 d.2.2.1) (fun d => some (.inl (d))) (fun d => some (.inr (d))) v0 v1 v5))
theorem en_laws_szChangeS (a0 : List (ByteArray × ByteArray × Bool × Unit)) (a1 : Int) : evalF Try.prog ta_laws_szChangeS pa_laws_szChangeS sg_laws_szChangeS Try.f28 L_laws_szChangeS (a0, a1, ()) = de_laws_szChangeS a0 a1 := by kernel_rfl
theorem si_laws_szChangeS : SigsOk Try.prog ta_laws_szChangeS := SigsOk.of fun f sd h => by
  try dsimp only [Tb.of, ta_laws_szChangeS] at h
  split at h
  · rename_i e; subst e; cases h; exact sn_laws_szChange
  cases h
theorem lk_laws_szChangeS_6 {R : Type} : LoopOk Try.prog R 27 0 pa_laws_szChangeS L_laws_szChangeS co_laws_szChangeS_6 :=
  loop_key (cfg := ⟨ta_laws_szChangeS, 0, 27, pa_laws_szChangeS⟩) (key := 6) (by kernel_rfl) (by kernel_rfl) si_laws_szChangeS rfl rfl (fun d k r h => ⟨fu_laws_szChangeS_6 d.1 d.2.1 d.2.2.1, (lp_laws_szChangeS_6 _ d k).trans h⟩) (fun c hc => by rw [show loopsIn co_laws_szChangeS_6 = [] from by kernel_rfl] at hc; cases hc)
theorem sn_laws_szChangeS : Callable Try.prog 28 ∧ Sound Try.prog 28 sd_laws_szChangeS.sg sd_laws_szChangeS.den :=
  fn_loops (pat := pa_laws_szChangeS) L_laws_szChangeS (by kernel_rfl) si_laws_szChangeS Try.func28 (by kernel_rfl) (by kernel_rfl) (fun c hc => by rw [show loopsIn (bodyOf Try.f28) = [co_laws_szChangeS_6] from by kernel_rfl] at hc; simp only [List.mem_cons, List.not_mem_nil, or_false] at hc; rcases hc with rfl <;> first | exact lk_laws_szChangeS_6) fun x r h => by
    obtain ⟨a0, a1, ⟨⟩⟩ := x; obtain ⟨y, h1, h2⟩ := Option.bind_eq_some_iff.1 (show (m_laws_szChangeS a0 a1).bind (fun r => some ((r, ()), (()))) = some r from h); cases h2; exact (en_laws_szChangeS a0 a1).trans (eq_laws_szChangeS a0 a1 _ h1)
def m_spec_l4KeyOk (k : ByteArray) : Bool := keyOk k
def sg_spec_l4KeyOk : Sig := ⟨[.rd .str], [none], [.rd .bool], [none]⟩
noncomputable def sd_spec_l4KeyOk : SD := ⟨sg_spec_l4KeyOk, fun x => some (((m_spec_l4KeyOk x.1), ()), (()))⟩
noncomputable def ta_spec_l4KeyOk : Tb := Tb.of fun f => none
def pa_spec_l4KeyOk : Nat → Pat × (Nat → Pat) := fun k => (⟨[], [], []⟩, fun _ => ⟨[], [], []⟩)
noncomputable def de_spec_l4KeyOk (a0 : ByteArray) : Option ((((Bool) × Unit) × (Unit))) :=
  bif decide (nI (ByteArray.size a0) ≥ 1) then some ((decide (nI (ByteArray.size a0) ≤ 20), ()), ()) else some ((false, ()), ())
theorem eq_spec_l4KeyOk (a0 : ByteArray) : de_spec_l4KeyOk a0 = some ((m_spec_l4KeyOk a0, ()), ()) := by
  unfold de_spec_l4KeyOk m_spec_l4KeyOk keyOk inB
  by_cases h : (a0.size : Int) ≥ 1
  · have : decide ((1 : Int) ≤ (a0.size : Int)) = true := by simpa using h
    simp [nI, this]
  · have h' : ¬ (1 : Int) ≤ (a0.size : Int) := h
    simp [nI, h']
theorem en_spec_l4KeyOk (a0 : ByteArray) : evalF Try.prog ta_spec_l4KeyOk pa_spec_l4KeyOk sg_spec_l4KeyOk Try.f67 noL (a0, ()) = de_spec_l4KeyOk a0 := by kernel_rfl
theorem si_spec_l4KeyOk : SigsOk Try.prog ta_spec_l4KeyOk := SigsOk.of fun f sd h => by
  try dsimp only [Tb.of, ta_spec_l4KeyOk] at h
  cases h
theorem sn_spec_l4KeyOk : Callable Try.prog 67 ∧ Sound Try.prog 67 sd_spec_l4KeyOk.sg sd_spec_l4KeyOk.den :=
  fn_plain (pat := pa_spec_l4KeyOk) (by kernel_rfl) si_spec_l4KeyOk Try.func67 (by kernel_rfl) (by kernel_rfl) (by kernel_rfl) fun x r h => by
    obtain ⟨a0, ⟨⟩⟩ := x; rw [← h]; exact (en_spec_l4KeyOk a0).trans (eq_spec_l4KeyOk a0)
def m_spec_ValidBatch (b : List Chg) : Bool := validBatch b
def sg_spec_ValidBatch : Sig := ⟨[.rd (.sl (.pair .str (.pair .str (.pair .bool .unit))))], [none], [.rd .bool], [none]⟩
noncomputable def sd_spec_ValidBatch : SD := ⟨sg_spec_ValidBatch, fun x => some (((m_spec_ValidBatch x.1), ()), (()))⟩
noncomputable def ta_spec_ValidBatch : Tb := Tb.of fun f => if f = 67 then some sd_spec_l4KeyOk else none
def pa_spec_ValidBatch : Nat → Pat × (Nat → Pat) := fun k => if k = 5 then (⟨[.sl 0 0 (.pair .str (.pair .str (.pair .bool .unit)))], [(0, .lf (.d (.sl (.pair .str (.pair .str (.pair .bool .unit)))))), (3, .lf (.d (.int .i64)))], []⟩, fun e => if e = 1 then ⟨[], [(2, .lf (.d .bool))], []⟩ else if e = 2 then ⟨[], [], []⟩ else ⟨[], [], []⟩) else (⟨[], [], []⟩, fun _ => ⟨[], [], []⟩)
noncomputable def co_spec_ValidBatch_5 : Code := (loopsIn (bodyOf Try.f80)).getD 0 .skip
def fu_spec_ValidBatch_5 (v0 : List (ByteArray × ByteArray × Bool × Unit)) (v3 : Int) : Nat := ((v0.length : Int) - v3).toNat + 1
noncomputable def tr_spec_ValidBatch_5 {R : Type}  (NX : ((List (ByteArray × ByteArray × Bool × Unit)) × (Int) × Unit) → Option R) (X2 : (Unit) → Option R) (X1 : ((Bool) × Unit) → Option R) (v0 : List (ByteArray × ByteArray × Bool × Unit)) (v3 : Int) : Option R :=
  bif decide (v3 < nI (List.length v0)) then
    bif decide (0 ≤ v3) then
      bif decide (v3 < nI (List.length v0)) then
        bif !m_spec_l4KeyOk (List.getD v0 (Int.toNat v3) (ByteArray.mk #[], ByteArray.mk #[], false, ())).fst then X1 (false, ())
        else
          bif decide (0 ≤ v3) then
            bif decide (v3 < nI (List.length v0)) then
              bif decide (nI (ByteArray.size (List.getD v0 (Int.toNat v3) (ByteArray.mk #[], ByteArray.mk #[], false, ())).snd.fst) > 100) then X1 (false, ())
              else
                bif decide (0 ≤ v3) then
                  bif decide (v3 < nI (List.length v0)) then
                    bif (List.getD v0 (Int.toNat v3) (ByteArray.mk #[], ByteArray.mk #[], false, ())).snd.snd.fst then
                      bif decide (0 ≤ v3) then
                        bif decide (v3 < nI (List.length v0)) then
                          bif !ByteArray.toList (List.getD v0 (Int.toNat v3) (ByteArray.mk #[], ByteArray.mk #[], false, ())).snd.fst == ByteArray.toList (ByteArray.mk #[]) then X1 (false, ())
                          else NX (v0, IntKind.wrap IntKind.i64 (v3 + 1), ())
                        else none
                      else none
                    else NX (v0, IntKind.wrap IntKind.i64 (v3 + 1), ())
                  else none
                else none
            else none
          else none
      else none
    else none
  else X2 PUnit.unit
noncomputable def lo_spec_ValidBatch_5 : Nat → (List (ByteArray × ByteArray × Bool × Unit)) → (Int) →  Option ((Unit) ⊕ ((Bool) × Unit))
  | 0, _, _ => none
  | m + 1, v0, v3 => tr_spec_ValidBatch_5  (fun d => lo_spec_ValidBatch_5 m d.1 d.2.1) (fun d => some (.inl (d))) (fun d => some (.inr (d))) v0 v3
theorem na_spec_ValidBatch_5 {R S : Type}  (NX : ((List (ByteArray × ByteArray × Bool × Unit)) × (Int) × Unit) → Option R) (X2 : (Unit) → Option R) (X1 : ((Bool) × Unit) → Option R) (v0 : List (ByteArray × ByteArray × Bool × Unit)) (v3 : Int) (f : R → Option S) : tr_spec_ValidBatch_5  (fun d => (NX d).bind f) (fun d => (X2 d).bind f) (fun d => (X1 d).bind f) v0 v3 = (tr_spec_ValidBatch_5  NX X2 X1 v0 v3).bind f := by
  unfold tr_spec_ValidBatch_5
  simp only [cond_bind, ite_bind, onSum_bind, Option.bind_assoc, Option.bind_none, Option.bind_some]
noncomputable def de_spec_ValidBatch (a0 : List (ByteArray × ByteArray × Bool × Unit)) : Option ((((Bool) × Unit) × (Unit))) :=
  bif decide (nI (List.length a0) < 1) then some ((false, ()), ())
  else bif decide (nI (List.length a0) > 20) then some ((false, ()), ()) else Option.bind ((fun d => lo_spec_ValidBatch_5 (fu_spec_ValidBatch_5 d.1 d.2.1) d.1 d.2.1) (a0, 0, ())) fun val => onSum (fun val => some ((true, ()), ())) (fun val => some ((val.fst, ()), ())) val
theorem eq_spec_ValidBatch (a0 : List (ByteArray × ByteArray × Bool × Unit)) : de_spec_ValidBatch a0 = some (((m_spec_ValidBatch a0), ()), (())) := by
  unfold de_spec_ValidBatch m_spec_ValidBatch validBatch
  have tl : ByteArray.toList (ByteArray.mk #[]) = [] := by decide +kernel
  rw [inB_lt (nI (List.length a0))]
  show (bif inB (a0.length : Int) 1 20 then _ else _) = _
  cases hin : inB (a0.length : Int) 1 20 with
  | false => rfl
  | true =>
    have hlen : a0.length ≤ 20 := by have := (inB_r hin).2; omega
    have hL := all_loop (n := a0.length) (fun i => okChg (a0.getD i zC)) (g := fun m i => lo_spec_ValidBatch_5 m a0 i) (ok := .inl ()) (bad := .inr (false, ())) (fun m i hi => by
      show lo_spec_ValidBatch_5 (m + 1) a0 i = _
      simp only [lo_spec_ValidBatch_5, tr_spec_ValidBatch_5]
      rw [tl, cLt hi, cLe0, wI (show i < 4611686018427387904 by omega), Int.toNat_natCast]
      have g1 : decide (nI (ByteArray.size (List.getD a0 i (ByteArray.mk #[], ByteArray.mk #[], false, ())).2.1) > 100) = !decide ((a0.getD i zC).2.1.size ≤ 100) := gt100 _ 100
      rw [g1]
      show (bif !keyOk (a0.getD i zC).1 then _ else (bif _ then _ else (bif (a0.getD i zC).2.2.1 then (bif !((a0.getD i zC).2.1.toList == []) then _ else _) else _))) = _
      unfold okChg
      cases keyOk (a0.getD i zC).1 <;> cases decide ((a0.getD i zC).2.1.size ≤ 100) <;> cases (a0.getD i zC).2.2.1 <;> cases ((a0.getD i zC).2.1.toList == []) <;> rfl) (fun m => by
      show lo_spec_ValidBatch_5 (m + 1) a0 (a0.length : Int) = _
      simp only [lo_spec_ValidBatch_5, tr_spec_ValidBatch_5]
      rw [cLtF]
      rfl) (fu_spec_ValidBatch_5 a0 0) 0 (by omega) (by simp [fu_spec_ValidBatch_5, nI])
    refine bi_ hL ?_
    rw [Nat.sub_zero]
    cases (List.range' 0 a0.length).all (fun i => okChg (a0.getD i zC)) <;> rfl
noncomputable def ou_spec_ValidBatch_5 {R : Type} (k : Kt R) : ((Unit) ⊕ ((Bool) × Unit)) → Option R := (onSum (fun d => k (.exit 0) (((pa_spec_ValidBatch 5).2 2).st d) (((pa_spec_ValidBatch 5).2 2).nid)) (fun d => k .ret (((pa_spec_ValidBatch 5).2 1).st d) (((pa_spec_ValidBatch 5).2 1).nid)))
noncomputable def L_spec_ValidBatch {R : Type} : Lt R pa_spec_ValidBatch := (addL (pat := pa_spec_ValidBatch) 5 (fun d k => (lo_spec_ValidBatch_5 (fu_spec_ValidBatch_5 d.1 d.2.1) d.1 d.2.1).bind (ou_spec_ValidBatch_5 k)) noL)
theorem rd_spec_ValidBatch_5 {R : Type} (nx : (pa_spec_ValidBatch 5).1.D → Kt R → Option R) (k : Kt R) (v0 : List (ByteArray × ByteArray × Bool × Unit)) (v3 : Int) : ev Try.prog ⟨ta_spec_ValidBatch, 0, 49, pa_spec_ValidBatch⟩ L_spec_ValidBatch co_spec_ValidBatch_5 ((pa_spec_ValidBatch 5).1.st (v0, v3, ())) (pa_spec_ValidBatch 5).1.nid (roundK 0 (pa_spec_ValidBatch 5) nx k) = tr_spec_ValidBatch_5  (fun d => nx d k) (fun d => k (.exit 0) (((pa_spec_ValidBatch 5).2 2).st d) (((pa_spec_ValidBatch 5).2 2).nid)) (fun d => k .ret (((pa_spec_ValidBatch 5).2 1).st d) (((pa_spec_ValidBatch 5).2 1).nid)) v0 v3 := by kernel_rfl
theorem lp_spec_ValidBatch_5 {R : Type} : ∀ (m : Nat) (d : (pa_spec_ValidBatch 5).1.D) (k : Kt R), loopN 0 (pa_spec_ValidBatch 5) (fun s nid k => ev Try.prog ⟨ta_spec_ValidBatch, 0, 49, pa_spec_ValidBatch⟩ L_spec_ValidBatch co_spec_ValidBatch_5 s nid k) m d k = (lo_spec_ValidBatch_5 m d.1 d.2.1).bind (ou_spec_ValidBatch_5 k)
  | 0, _, _ => rfl
  | m + 1, ⟨v0, v3, ⟨⟩⟩, k => (rd_spec_ValidBatch_5 _ k v0 v3).trans ((congrArg (fun F => tr_spec_ValidBatch_5  F (fun d => k (.exit 0) (((pa_spec_ValidBatch 5).2 2).st d) (((pa_spec_ValidBatch 5).2 2).nid)) (fun d => k .ret (((pa_spec_ValidBatch 5).2 1).st d) (((pa_spec_ValidBatch 5).2 1).nid)) v0 v3) (funext fun d => lp_spec_ValidBatch_5 m d k)).trans (na_spec_ValidBatch_5 (f := ou_spec_ValidBatch_5 k)  (fun d => lo_spec_ValidBatch_5 m d.1 d.2.1) (fun d => some (.inl (d))) (fun d => some (.inr (d))) v0 v3))
theorem en_spec_ValidBatch (a0 : List (ByteArray × ByteArray × Bool × Unit)) : evalF Try.prog ta_spec_ValidBatch pa_spec_ValidBatch sg_spec_ValidBatch Try.f80 L_spec_ValidBatch (a0, ()) = de_spec_ValidBatch a0 := by kernel_rfl
theorem si_spec_ValidBatch : SigsOk Try.prog ta_spec_ValidBatch := SigsOk.of fun f sd h => by
  try dsimp only [Tb.of, ta_spec_ValidBatch] at h
  split at h
  · rename_i e; subst e; cases h; exact sn_spec_l4KeyOk
  cases h
theorem lk_spec_ValidBatch_5 {R : Type} : LoopOk Try.prog R 49 0 pa_spec_ValidBatch L_spec_ValidBatch co_spec_ValidBatch_5 :=
  loop_key (cfg := ⟨ta_spec_ValidBatch, 0, 49, pa_spec_ValidBatch⟩) (key := 5) (by kernel_rfl) (by kernel_rfl) si_spec_ValidBatch rfl rfl (fun d k r h => ⟨fu_spec_ValidBatch_5 d.1 d.2.1, (lp_spec_ValidBatch_5 _ d k).trans h⟩) (fun c hc => by rw [show loopsIn co_spec_ValidBatch_5 = [] from by kernel_rfl] at hc; cases hc)
theorem sn_spec_ValidBatch : Callable Try.prog 80 ∧ Sound Try.prog 80 sd_spec_ValidBatch.sg sd_spec_ValidBatch.den :=
  fn_loops (pat := pa_spec_ValidBatch) L_spec_ValidBatch (by kernel_rfl) si_spec_ValidBatch Try.func80 (by kernel_rfl) (by kernel_rfl) (fun c hc => by rw [show loopsIn (bodyOf Try.f80) = [co_spec_ValidBatch_5] from by kernel_rfl] at hc; simp only [List.mem_cons, List.not_mem_nil, or_false] at hc; rcases hc with rfl <;> first | exact lk_spec_ValidBatch_5) fun x r h => by
    obtain ⟨a0, ⟨⟩⟩ := x; rw [← h]; exact (en_spec_ValidBatch a0).trans (eq_spec_ValidBatch a0)
def m_spec_FormBatch (b : List Chg) : ByteArray := formB b
def sg_spec_FormBatch : Sig := ⟨[.rd (.sl (.pair .str (.pair .str (.pair .bool .unit))))], [none], [.rd .str], [none]⟩
noncomputable def sd_spec_FormBatch : SD := ⟨sg_spec_FormBatch, fun x => some (((m_spec_FormBatch x.1), ()), (()))⟩
noncomputable def ta_spec_FormBatch : Tb := Tb.of fun f => if f = 80 then some sd_spec_ValidBatch else none
def pa_spec_FormBatch : Nat → Pat × (Nat → Pat) := fun k => if k = 6 then (⟨[.sl 0 0 (.pair .str (.pair .str (.pair .bool .unit))), .row 3 0 5 (.int .u8)], [(0, .lf (.d (.sl (.pair .str (.pair .str (.pair .bool .unit)))))), (3, .lf (.row 0)), (4, .lf (.d (.int .i64)))], [.row 5 (.int .u8)]⟩, fun e => if e = 2 then ⟨[.row 3 0 5 (.int .u8)], [(3, .lf (.row 0))], [.row 5 (.int .u8)]⟩ else ⟨[], [], []⟩) else (⟨[], [], []⟩, fun _ => ⟨[], [], []⟩)
noncomputable def co_spec_FormBatch_6 : Code := (loopsIn (bodyOf Try.f29)).getD 0 .skip
def fu_spec_FormBatch_6 (v0 : List (ByteArray × ByteArray × Bool × Unit)) (v4 : Int) (r0 : List Int) : Nat := ((v0.length : Int) - v4).toNat + 1
noncomputable def tr_spec_FormBatch_6 {R : Type}  (NX : ((List (ByteArray × ByteArray × Bool × Unit)) × (Int) × (List Int) × Unit) → Option R) (X2 : ((List Int) × Unit) → Option R) (v0 : List (ByteArray × ByteArray × Bool × Unit)) (v4 : Int) (r0 : List Int) : Option R :=
  bif decide (v4 < nI (List.length v0)) then
    bif decide (0 ≤ v4) then
      bif decide (v4 < nI (List.length v0)) then
        bif (List.getD v0 (Int.toNat v4) (ByteArray.mk #[], ByteArray.mk #[], false, ())).snd.snd.fst then
          bif decide (0 ≤ v4) then
            bif decide (v4 < nI (List.length v0)) then
              bif
                  decide
                    ((List.length r0 + List.length [1, IntKind.wrap IntKind.u8 (nI (ByteArray.size (List.getD v0 (Int.toNat v4) (ByteArray.mk #[], ByteArray.mk #[], false, ())).fst))]) * 1 ≤
                      140737488355328) then
                bif decide (0 ≤ v4) then
                  bif decide (v4 < nI (List.length v0)) then
                    bif
                        decide
                          (List.length (r0 ++ [1, IntKind.wrap IntKind.u8 (nI (ByteArray.size (List.getD v0 (Int.toNat v4) (ByteArray.mk #[], ByteArray.mk #[], false, ())).fst))]) +
                              ByteArray.size (List.getD v0 (Int.toNat v4) (ByteArray.mk #[], ByteArray.mk #[], false, ())).fst ≤
                            140737488355328) then
                      NX
                        (v0, IntKind.wrap IntKind.i64 (v4 + 1),
                          r0 ++ [1, IntKind.wrap IntKind.u8 (nI (ByteArray.size (List.getD v0 (Int.toNat v4) (ByteArray.mk #[], ByteArray.mk #[], false, ())).fst))] ++
                            bytesOfStr (List.getD v0 (Int.toNat v4) (ByteArray.mk #[], ByteArray.mk #[], false, ())).fst,
                          ())
                    else none
                  else none
                else none
              else none
            else none
          else none
        else
          bif decide (0 ≤ v4) then
            bif decide (v4 < nI (List.length v0)) then
              bif
                  decide
                    ((List.length r0 + List.length [0, IntKind.wrap IntKind.u8 (nI (ByteArray.size (List.getD v0 (Int.toNat v4) (ByteArray.mk #[], ByteArray.mk #[], false, ())).fst))]) * 1 ≤
                      140737488355328) then
                bif decide (0 ≤ v4) then
                  bif decide (v4 < nI (List.length v0)) then
                    bif
                        decide
                          (List.length (r0 ++ [0, IntKind.wrap IntKind.u8 (nI (ByteArray.size (List.getD v0 (Int.toNat v4) (ByteArray.mk #[], ByteArray.mk #[], false, ())).fst))]) +
                              ByteArray.size (List.getD v0 (Int.toNat v4) (ByteArray.mk #[], ByteArray.mk #[], false, ())).fst ≤
                            140737488355328) then
                      bif decide (0 ≤ v4) then
                        bif decide (v4 < nI (List.length v0)) then
                          bif
                              decide
                                ((List.length
                                        (r0 ++ [0, IntKind.wrap IntKind.u8 (nI (ByteArray.size (List.getD v0 (Int.toNat v4) (ByteArray.mk #[], ByteArray.mk #[], false, ())).fst))] ++
                                          bytesOfStr (List.getD v0 (Int.toNat v4) (ByteArray.mk #[], ByteArray.mk #[], false, ())).fst) +
                                      List.length [IntKind.wrap IntKind.u8 (nI (ByteArray.size (List.getD v0 (Int.toNat v4) (ByteArray.mk #[], ByteArray.mk #[], false, ())).snd.fst))]) *
                                    1 ≤
                                  140737488355328) then
                            bif decide (0 ≤ v4) then
                              bif decide (v4 < nI (List.length v0)) then
                                bif
                                    decide
                                      (List.length
                                            (r0 ++ [0, IntKind.wrap IntKind.u8 (nI (ByteArray.size (List.getD v0 (Int.toNat v4) (ByteArray.mk #[], ByteArray.mk #[], false, ())).fst))] ++
                                                bytesOfStr (List.getD v0 (Int.toNat v4) (ByteArray.mk #[], ByteArray.mk #[], false, ())).fst ++
                                              [IntKind.wrap IntKind.u8 (nI (ByteArray.size (List.getD v0 (Int.toNat v4) (ByteArray.mk #[], ByteArray.mk #[], false, ())).snd.fst))]) +
                                          ByteArray.size (List.getD v0 (Int.toNat v4) (ByteArray.mk #[], ByteArray.mk #[], false, ())).snd.fst ≤
                                        140737488355328) then
                                  NX
                                    (v0, IntKind.wrap IntKind.i64 (v4 + 1),
                                      r0 ++ [0, IntKind.wrap IntKind.u8 (nI (ByteArray.size (List.getD v0 (Int.toNat v4) (ByteArray.mk #[], ByteArray.mk #[], false, ())).fst))] ++
                                            bytesOfStr (List.getD v0 (Int.toNat v4) (ByteArray.mk #[], ByteArray.mk #[], false, ())).fst ++
                                          [IntKind.wrap IntKind.u8 (nI (ByteArray.size (List.getD v0 (Int.toNat v4) (ByteArray.mk #[], ByteArray.mk #[], false, ())).snd.fst))] ++
                                        bytesOfStr (List.getD v0 (Int.toNat v4) (ByteArray.mk #[], ByteArray.mk #[], false, ())).snd.fst,
                                      ())
                                else none
                              else none
                            else none
                          else none
                        else none
                      else none
                    else none
                  else none
                else none
              else none
            else none
          else none
      else none
    else none
  else X2 (r0, ())
noncomputable def lo_spec_FormBatch_6 : Nat → (List (ByteArray × ByteArray × Bool × Unit)) → (Int) → (List Int) →  Option ((List Int) × Unit)
  | 0, _, _, _ => none
  | m + 1, v0, v4, r0 => tr_spec_FormBatch_6  (fun d => lo_spec_FormBatch_6 m d.1 d.2.1 d.2.2.1) (fun d => some (d)) v0 v4 r0
theorem na_spec_FormBatch_6 {R S : Type}  (NX : ((List (ByteArray × ByteArray × Bool × Unit)) × (Int) × (List Int) × Unit) → Option R) (X2 : ((List Int) × Unit) → Option R) (v0 : List (ByteArray × ByteArray × Bool × Unit)) (v4 : Int) (r0 : List Int) (f : R → Option S) : tr_spec_FormBatch_6  (fun d => (NX d).bind f) (fun d => (X2 d).bind f) v0 v4 r0 = (tr_spec_FormBatch_6  NX X2 v0 v4 r0).bind f := by
  unfold tr_spec_FormBatch_6
  simp only [cond_bind, ite_bind, onSum_bind, Option.bind_assoc, Option.bind_none, Option.bind_some]
noncomputable def de_spec_FormBatch (a0 : List (ByteArray × ByteArray × Bool × Unit)) : Option ((((ByteArray) × Unit) × (Unit))) :=
  bif !m_spec_ValidBatch a0 then some ((ByteArray.mk #[], ()), ()) else Option.bind ((fun d => lo_spec_FormBatch_6 (fu_spec_FormBatch_6 d.1 d.2.1 d.2.2.1) d.1 d.2.1 d.2.2.1) (a0, 0, [], ())) fun val => some ((strOfNums val.fst, ()), ())
theorem eq_spec_FormBatch (a0 : List (ByteArray × ByteArray × Bool × Unit)) : de_spec_FormBatch a0 = some ((m_spec_FormBatch a0, ()), (())) := by
  unfold de_spec_FormBatch m_spec_FormBatch formB
  show (bif !validBatch a0 then _ else _) = _
  cases hv : validBatch a0 with
  | false => rfl
  | true =>
    obtain ⟨hlen, hok⟩ := validBatch_at hv
    have hL := up_loop a0.length BatOk (fun i r => r ++ chgL (a0.getD i zC)) (g := fun m i r => lo_spec_FormBatch_6 m a0 i r) (ok := fun r => (r, ())) (fun m i r hi hr => by
      show lo_spec_FormBatch_6 (m + 1) a0 i r = _
      simp only [lo_spec_FormBatch_6, tr_spec_FormBatch_6]
      have hc := hok i hi
      obtain ⟨k1, k2, k3⟩ := okChg_len hc
      rw [cLt hi, cLe0, wI (show i < 4611686018427387904 by omega), Int.toNat_natCast]
      have hr1 := hr.1
      have eC : List.getD a0 i (ByteArray.mk #[], ByteArray.mk #[], false, ()) = a0.getD i zC := rfl
      rw [eC]
      generalize a0.getD i zC = c at *
      rw [wrap8 _ (show c.1.size < 256 by omega), wrap8 _ (show c.2.1.size < 256 by omega)]
      simp only [List.length_append, List.length_cons, List.length_nil, bytes_len]
      rw [decide_eq_true (show (r.length + (0 + 1 + 1)) * 1 ≤ 140737488355328 by omega), decide_eq_true (show r.length + (0 + 1 + 1) + c.1.size ≤ 140737488355328 by omega), decide_eq_true (show (r.length + (0 + 1 + 1) + c.1.size + (0 + 1)) * 1 ≤ 140737488355328 by omega), decide_eq_true (show r.length + (0 + 1 + 1) + c.1.size + (0 + 1) + c.2.1.size ≤ 140737488355328 by omega)]
      unfold chgL
      simp only [cond_true]
      cases c.2.2.1 <;> simp only [cond_true, cond_false, List.append_assoc]) (fun m r _ => by
      show lo_spec_FormBatch_6 (m + 1) a0 (a0.length : Int) r = _
      simp only [lo_spec_FormBatch_6, tr_spec_FormBatch_6]
      rw [cLtF]
      rfl) (fun i r hi hr => hr.step (hok i hi)) a0.length (fu_spec_FormBatch_6 a0 0 []) 0 [] (by omega) (by simp [fu_spec_FormBatch_6, nI]) ⟨by simp, rfl⟩
    rw [iter_cat chgL zC a0 a0.length 0 [] (by omega), List.nil_append, List.drop_zero] at hL
    refine bi_ hL ?_
    rfl
noncomputable def ou_spec_FormBatch_6 {R : Type} (k : Kt R) : ((List Int) × Unit) → Option R := (fun d => k (.exit 0) (((pa_spec_FormBatch 6).2 2).st d) (((pa_spec_FormBatch 6).2 2).nid))
noncomputable def L_spec_FormBatch {R : Type} : Lt R pa_spec_FormBatch := (addL (pat := pa_spec_FormBatch) 6 (fun d k => (lo_spec_FormBatch_6 (fu_spec_FormBatch_6 d.1 d.2.1 d.2.2.1) d.1 d.2.1 d.2.2.1).bind (ou_spec_FormBatch_6 k)) noL)
theorem rd_spec_FormBatch_6 {R : Type} (nx : (pa_spec_FormBatch 6).1.D → Kt R → Option R) (k : Kt R) (v0 : List (ByteArray × ByteArray × Bool × Unit)) (v4 : Int) (r0 : List Int) : ev Try.prog ⟨ta_spec_FormBatch, 0, 70, pa_spec_FormBatch⟩ L_spec_FormBatch co_spec_FormBatch_6 ((pa_spec_FormBatch 6).1.st (v0, v4, r0, ())) (pa_spec_FormBatch 6).1.nid (roundK 0 (pa_spec_FormBatch 6) nx k) = tr_spec_FormBatch_6  (fun d => nx d k) (fun d => k (.exit 0) (((pa_spec_FormBatch 6).2 2).st d) (((pa_spec_FormBatch 6).2 2).nid)) v0 v4 r0 := by kernel_rfl
theorem lp_spec_FormBatch_6 {R : Type} : ∀ (m : Nat) (d : (pa_spec_FormBatch 6).1.D) (k : Kt R), loopN 0 (pa_spec_FormBatch 6) (fun s nid k => ev Try.prog ⟨ta_spec_FormBatch, 0, 70, pa_spec_FormBatch⟩ L_spec_FormBatch co_spec_FormBatch_6 s nid k) m d k = (lo_spec_FormBatch_6 m d.1 d.2.1 d.2.2.1).bind (ou_spec_FormBatch_6 k)
  | 0, _, _ => rfl
  | m + 1, ⟨v0, v4, r0, ⟨⟩⟩, k => (rd_spec_FormBatch_6 _ k v0 v4 r0).trans ((congrArg (fun F => tr_spec_FormBatch_6  F (fun d => k (.exit 0) (((pa_spec_FormBatch 6).2 2).st d) (((pa_spec_FormBatch 6).2 2).nid)) v0 v4 r0) (funext fun d => lp_spec_FormBatch_6 m d k)).trans (na_spec_FormBatch_6 (f := ou_spec_FormBatch_6 k)  (fun d => lo_spec_FormBatch_6 m d.1 d.2.1 d.2.2.1) (fun d => some (d)) v0 v4 r0))
theorem en_spec_FormBatch (a0 : List (ByteArray × ByteArray × Bool × Unit)) : evalF Try.prog ta_spec_FormBatch pa_spec_FormBatch sg_spec_FormBatch Try.f29 L_spec_FormBatch (a0, ()) = de_spec_FormBatch a0 := by kernel_rfl
theorem si_spec_FormBatch : SigsOk Try.prog ta_spec_FormBatch := SigsOk.of fun f sd h => by
  try dsimp only [Tb.of, ta_spec_FormBatch] at h
  split at h
  · rename_i e; subst e; cases h; exact sn_spec_ValidBatch
  cases h
theorem lk_spec_FormBatch_6 {R : Type} : LoopOk Try.prog R 70 0 pa_spec_FormBatch L_spec_FormBatch co_spec_FormBatch_6 :=
  loop_key (cfg := ⟨ta_spec_FormBatch, 0, 70, pa_spec_FormBatch⟩) (key := 6) (by kernel_rfl) (by kernel_rfl) si_spec_FormBatch rfl rfl (fun d k r h => ⟨fu_spec_FormBatch_6 d.1 d.2.1 d.2.2.1, (lp_spec_FormBatch_6 _ d k).trans h⟩) (fun c hc => by rw [show loopsIn co_spec_FormBatch_6 = [] from by kernel_rfl] at hc; cases hc)
theorem sn_spec_FormBatch : Callable Try.prog 29 ∧ Sound Try.prog 29 sd_spec_FormBatch.sg sd_spec_FormBatch.den :=
  fn_loops (pat := pa_spec_FormBatch) L_spec_FormBatch (by kernel_rfl) si_spec_FormBatch Try.func29 (by kernel_rfl) (by kernel_rfl) (fun c hc => by rw [show loopsIn (bodyOf Try.f29) = [co_spec_FormBatch_6] from by kernel_rfl] at hc; simp only [List.mem_cons, List.not_mem_nil, or_false] at hc; rcases hc with rfl <;> first | exact lk_spec_FormBatch_6) fun x r h => by
    obtain ⟨a0, ⟨⟩⟩ := x; rw [← h]; exact (en_spec_FormBatch a0).trans (eq_spec_FormBatch a0)
def m_laws_toChange (a : ByteArray × ByteArray × Bool × Unit) : Option (ByteArray × ByteArray × Bool × Unit) := toM (.pair .str (.pair .str (.pair .bool .unit))) a
def sg_laws_toChange : Sig := ⟨[.rd (.pair .str (.pair .str (.pair .bool .unit)))], [some 3], [.rd (.pair .str (.pair .str (.pair .bool .unit)))], [some 3]⟩
noncomputable def sd_laws_toChange : SD := ⟨sg_laws_toChange, fun x => (m_laws_toChange x.1).bind fun r => some ((r, ()), (()))⟩
noncomputable def ta_laws_toChange : Tb := Tb.of fun f => none
def pa_laws_toChange : Nat → Pat × (Nat → Pat) := fun k => (⟨[], [], []⟩, fun _ => ⟨[], [], []⟩)
noncomputable def de_laws_toChange (a0 : ByteArray × ByteArray × Bool × Unit) : Option ((((ByteArray × ByteArray × Bool × Unit) × Unit) × (Unit))) :=
  some (((a0.fst, a0.snd.fst, a0.snd.snd.fst, ()), ()), ())
theorem eq_laws_toChange (a0 : ByteArray × ByteArray × Bool × Unit) r (h : m_laws_toChange a0 = some r) : de_laws_toChange a0 = some ((r, ()), (())) := by
  obtain ⟨hc, rfl⟩ := toM_some (t := (.pair .str (.pair .str (.pair .bool .unit)))) h
  · rfl
theorem en_laws_toChange (a0 : ByteArray × ByteArray × Bool × Unit) : evalF Try.prog ta_laws_toChange pa_laws_toChange sg_laws_toChange Try.f81 noL (a0, ()) = de_laws_toChange a0 := by kernel_rfl
theorem si_laws_toChange : SigsOk Try.prog ta_laws_toChange := SigsOk.of fun f sd h => by
  try dsimp only [Tb.of, ta_laws_toChange] at h
  cases h
theorem sn_laws_toChange : Callable Try.prog 81 ∧ Sound Try.prog 81 sd_laws_toChange.sg sd_laws_toChange.den :=
  fn_plain (pat := pa_laws_toChange) (by kernel_rfl) si_laws_toChange Try.func81 (by kernel_rfl) (by kernel_rfl) (by kernel_rfl) fun x r h => by
    obtain ⟨a0, ⟨⟩⟩ := x; obtain ⟨y, h1, h2⟩ := Option.bind_eq_some_iff.1 (show (m_laws_toChange a0).bind (fun r => some ((r, ()), (()))) = some r from h); cases h2; exact (en_laws_toChange a0).trans (eq_laws_toChange a0 _ h1)
def m_laws_toChangeS (a : List (ByteArray × ByteArray × Bool × Unit)) : Option (List (ByteArray × ByteArray × Bool × Unit)) := toM (.sl (.pair .str (.pair .str (.pair .bool .unit)))) a
def sg_laws_toChangeS : Sig := ⟨[.rd (.sl (.pair .str (.pair .str (.pair .bool .unit))))], [none], [.own 113 (.pair .str (.pair .str (.pair .bool .unit)))], [none]⟩
noncomputable def sd_laws_toChangeS : SD := ⟨sg_laws_toChangeS, fun x => (m_laws_toChangeS x.1).bind fun r => some ((r, ()), (()))⟩
noncomputable def ta_laws_toChangeS : Tb := Tb.of fun f => if f = 81 then some sd_laws_toChange else none
def pa_laws_toChangeS : Nat → Pat × (Nat → Pat) := fun k => if k = 4 then (⟨[.sl 0 0 (.pair .str (.pair .str (.pair .bool .unit))), .row 3 0 113 (.pair .str (.pair .str (.pair .bool .unit)))], [(0, .lf (.d (.sl (.pair .str (.pair .str (.pair .bool .unit)))))), (3, .lf (.row 0)), (4, .lf (.d (.int .i64)))], [.row 113 (.pair .str (.pair .str (.pair .bool .unit)))]⟩, fun e => if e = 2 then ⟨[.row 3 0 113 (.pair .str (.pair .str (.pair .bool .unit)))], [(3, .lf (.row 0))], [.row 113 (.pair .str (.pair .str (.pair .bool .unit)))]⟩ else ⟨[], [], []⟩) else (⟨[], [], []⟩, fun _ => ⟨[], [], []⟩)
noncomputable def co_laws_toChangeS_4 : Code := (loopsIn (bodyOf Try.f30)).getD 0 .skip
def fu_laws_toChangeS_4 (v0 : List (ByteArray × ByteArray × Bool × Unit)) (v4 : Int) (r0 : List (ByteArray × ByteArray × Bool × Unit)) : Nat := ((v0.length : Int) - v4).toNat + 1
noncomputable def tr_laws_toChangeS_4 {R : Type}  (NX : ((List (ByteArray × ByteArray × Bool × Unit)) × (Int) × (List (ByteArray × ByteArray × Bool × Unit)) × Unit) → Option R) (X2 : ((List (ByteArray × ByteArray × Bool × Unit)) × Unit) → Option R) (v0 : List (ByteArray × ByteArray × Bool × Unit)) (v4 : Int) (r0 : List (ByteArray × ByteArray × Bool × Unit)) : Option R :=
  bif decide (v4 < nI (List.length v0)) then
    bif decide (0 ≤ v4) then
      bif decide (v4 < nI (List.length v0)) then
        bif decide (0 ≤ v4) then
          bif decide (v4 < nI (List.length r0)) then
            bif decide (Int.toNat v4 < List.length r0) then
              NX
                (v0, IntKind.wrap IntKind.i64 (v4 + 1),
                  List.set r0 (Int.toNat v4)
                    ((List.getD v0 (Int.toNat v4) (ByteArray.mk #[], ByteArray.mk #[], false, ())).fst, (List.getD v0 (Int.toNat v4) (ByteArray.mk #[], ByteArray.mk #[], false, ())).snd.fst,
                      (List.getD v0 (Int.toNat v4) (ByteArray.mk #[], ByteArray.mk #[], false, ())).snd.snd.fst, ()),
                  ())
            else none
          else none
        else none
      else none
    else none
  else X2 (r0, ())
noncomputable def lo_laws_toChangeS_4 : Nat → (List (ByteArray × ByteArray × Bool × Unit)) → (Int) → (List (ByteArray × ByteArray × Bool × Unit)) →  Option ((List (ByteArray × ByteArray × Bool × Unit)) × Unit)
  | 0, _, _, _ => none
  | m + 1, v0, v4, r0 => tr_laws_toChangeS_4  (fun d => lo_laws_toChangeS_4 m d.1 d.2.1 d.2.2.1) (fun d => some (d)) v0 v4 r0
theorem na_laws_toChangeS_4 {R S : Type}  (NX : ((List (ByteArray × ByteArray × Bool × Unit)) × (Int) × (List (ByteArray × ByteArray × Bool × Unit)) × Unit) → Option R) (X2 : ((List (ByteArray × ByteArray × Bool × Unit)) × Unit) → Option R) (v0 : List (ByteArray × ByteArray × Bool × Unit)) (v4 : Int) (r0 : List (ByteArray × ByteArray × Bool × Unit)) (f : R → Option S) : tr_laws_toChangeS_4  (fun d => (NX d).bind f) (fun d => (X2 d).bind f) v0 v4 r0 = (tr_laws_toChangeS_4  NX X2 v0 v4 r0).bind f := by
  unfold tr_laws_toChangeS_4
  simp only [cond_bind, ite_bind, onSum_bind, Option.bind_assoc, Option.bind_none, Option.bind_some]
noncomputable def de_laws_toChangeS (a0 : List (ByteArray × ByteArray × Bool × Unit)) : Option ((((List (ByteArray × ByteArray × Bool × Unit)) × Unit) × (Unit))) :=
  bif decide (nI (List.length a0) = nI (List.length a0)) then
    bif decide (Int.toNat (nI (List.length a0)) * 40 ≤ 140737488355328) then
      Option.bind ((fun d => lo_laws_toChangeS_4 (fu_laws_toChangeS_4 d.1 d.2.1 d.2.2.1) d.1 d.2.1 d.2.2.1) (a0, 0, List.replicate (Int.toNat (nI (List.length a0))) (ByteArray.mk #[], ByteArray.mk #[], false, ()), ())) fun val => some ((val.fst, ()), ())
    else none
  else none
theorem eq_laws_toChangeS (a0 : List (ByteArray × ByteArray × Bool × Unit)) r (h : m_laws_toChangeS a0 = some r) : de_laws_toChangeS a0 = some ((r, ()), (())) := by
  obtain ⟨hc, rfl⟩ := toM_some (t := .sl (.pair .str (.pair .str (.pair .bool .unit)))) h
  obtain ⟨hl0, hall⟩ := smallB_sl hc
  have hl : a0.length ≤ 1048576 := hl0
  clear hl0 hc h
  · unfold de_laws_toChangeS
    have e : Int.toNat (nI a0.length) = a0.length := by simp [nI]
    have hL := to_loop (xs := a0) ((ByteArray.mk #[]), (ByteArray.mk #[]), false, ()) (g := fun m i r => lo_laws_toChangeS_4 m a0 i r) (ok := fun r => (r, ())) (fun m i r hi hr => by
      show lo_laws_toChangeS_4 (m + 1) a0 i r = _
      simp only [lo_laws_toChangeS_4, tr_laws_toChangeS_4]
      have hir : i < r.length := by omega
      rw [cLt hi, cLe0, cLt hir, wI (by omega)]
      simp only [cond_true, Int.toNat_natCast]
      rw [cLtN hir]
      rfl) (fun m r => by
      show lo_laws_toChangeS_4 (m + 1) a0 a0.length r = _
      simp only [lo_laws_toChangeS_4, tr_laws_toChangeS_4]
      rw [cLtF]
      rfl) (fu_laws_toChangeS_4 a0 0 (List.replicate a0.length ((ByteArray.mk #[]), (ByteArray.mk #[]), false, ()))) 0 (List.replicate a0.length ((ByteArray.mk #[]), (ByteArray.mk #[]), false, ())) (by omega) (by simp [fu_laws_toChangeS_4]) (by simp)
    have c1 : decide (Int.toNat (nI a0.length) * 40 ≤ 140737488355328) = true := by rw [e]; simp; omega
    rw [c1, decide_eq_true rfl, e]
    have hL' : lo_laws_toChangeS_4 (fu_laws_toChangeS_4 a0 0 (List.replicate a0.length ((ByteArray.mk #[]), (ByteArray.mk #[]), false, ()))) a0 0 (List.replicate a0.length ((ByteArray.mk #[]), (ByteArray.mk #[]), false, ())) = _ := hL
    show (lo_laws_toChangeS_4 (fu_laws_toChangeS_4 a0 0 (List.replicate a0.length ((ByteArray.mk #[]), (ByteArray.mk #[]), false, ()))) a0 0 (List.replicate a0.length ((ByteArray.mk #[]), (ByteArray.mk #[]), false, ()))).bind _ = _
    rw [hL']
    rfl
noncomputable def ou_laws_toChangeS_4 {R : Type} (k : Kt R) : ((List (ByteArray × ByteArray × Bool × Unit)) × Unit) → Option R := (fun d => k (.exit 0) (((pa_laws_toChangeS 4).2 2).st d) (((pa_laws_toChangeS 4).2 2).nid))
noncomputable def L_laws_toChangeS {R : Type} : Lt R pa_laws_toChangeS := (addL (pat := pa_laws_toChangeS) 4 (fun d k => (lo_laws_toChangeS_4 (fu_laws_toChangeS_4 d.1 d.2.1 d.2.2.1) d.1 d.2.1 d.2.2.1).bind (ou_laws_toChangeS_4 k)) noL)
theorem rd_laws_toChangeS_4 {R : Type} (nx : (pa_laws_toChangeS 4).1.D → Kt R → Option R) (k : Kt R) (v0 : List (ByteArray × ByteArray × Bool × Unit)) (v4 : Int) (r0 : List (ByteArray × ByteArray × Bool × Unit)) : ev Try.prog ⟨ta_laws_toChangeS, 0, 23, pa_laws_toChangeS⟩ L_laws_toChangeS co_laws_toChangeS_4 ((pa_laws_toChangeS 4).1.st (v0, v4, r0, ())) (pa_laws_toChangeS 4).1.nid (roundK 0 (pa_laws_toChangeS 4) nx k) = tr_laws_toChangeS_4  (fun d => nx d k) (fun d => k (.exit 0) (((pa_laws_toChangeS 4).2 2).st d) (((pa_laws_toChangeS 4).2 2).nid)) v0 v4 r0 := by kernel_rfl
theorem lp_laws_toChangeS_4 {R : Type} : ∀ (m : Nat) (d : (pa_laws_toChangeS 4).1.D) (k : Kt R), loopN 0 (pa_laws_toChangeS 4) (fun s nid k => ev Try.prog ⟨ta_laws_toChangeS, 0, 23, pa_laws_toChangeS⟩ L_laws_toChangeS co_laws_toChangeS_4 s nid k) m d k = (lo_laws_toChangeS_4 m d.1 d.2.1 d.2.2.1).bind (ou_laws_toChangeS_4 k)
  | 0, _, _ => rfl
  | m + 1, ⟨v0, v4, r0, ⟨⟩⟩, k => (rd_laws_toChangeS_4 _ k v0 v4 r0).trans ((congrArg (fun F => tr_laws_toChangeS_4  F (fun d => k (.exit 0) (((pa_laws_toChangeS 4).2 2).st d) (((pa_laws_toChangeS 4).2 2).nid)) v0 v4 r0) (funext fun d => lp_laws_toChangeS_4 m d k)).trans (na_laws_toChangeS_4 (f := ou_laws_toChangeS_4 k)  (fun d => lo_laws_toChangeS_4 m d.1 d.2.1 d.2.2.1) (fun d => some (d)) v0 v4 r0))
theorem en_laws_toChangeS (a0 : List (ByteArray × ByteArray × Bool × Unit)) : evalF Try.prog ta_laws_toChangeS pa_laws_toChangeS sg_laws_toChangeS Try.f30 L_laws_toChangeS (a0, ()) = de_laws_toChangeS a0 := by kernel_rfl
theorem si_laws_toChangeS : SigsOk Try.prog ta_laws_toChangeS := SigsOk.of fun f sd h => by
  try dsimp only [Tb.of, ta_laws_toChangeS] at h
  split at h
  · rename_i e; subst e; cases h; exact sn_laws_toChange
  cases h
theorem lk_laws_toChangeS_4 {R : Type} : LoopOk Try.prog R 23 0 pa_laws_toChangeS L_laws_toChangeS co_laws_toChangeS_4 :=
  loop_key (cfg := ⟨ta_laws_toChangeS, 0, 23, pa_laws_toChangeS⟩) (key := 4) (by kernel_rfl) (by kernel_rfl) si_laws_toChangeS rfl rfl (fun d k r h => ⟨fu_laws_toChangeS_4 d.1 d.2.1 d.2.2.1, (lp_laws_toChangeS_4 _ d k).trans h⟩) (fun c hc => by rw [show loopsIn co_laws_toChangeS_4 = [] from by kernel_rfl] at hc; cases hc)
theorem sn_laws_toChangeS : Callable Try.prog 30 ∧ Sound Try.prog 30 sd_laws_toChangeS.sg sd_laws_toChangeS.den :=
  fn_loops (pat := pa_laws_toChangeS) L_laws_toChangeS (by kernel_rfl) si_laws_toChangeS Try.func30 (by kernel_rfl) (by kernel_rfl) (fun c hc => by rw [show loopsIn (bodyOf Try.f30) = [co_laws_toChangeS_4] from by kernel_rfl] at hc; simp only [List.mem_cons, List.not_mem_nil, or_false] at hc; rcases hc with rfl <;> first | exact lk_laws_toChangeS_4) fun x r h => by
    obtain ⟨a0, ⟨⟩⟩ := x; obtain ⟨y, h1, h2⟩ := Option.bind_eq_some_iff.1 (show (m_laws_toChangeS a0).bind (fun r => some ((r, ()), (()))) = some r from h); cases h2; exact (en_laws_toChangeS a0).trans (eq_laws_toChangeS a0 _ h1)
def m_impl_in (v lo hi : Int) : Bool := inB v lo hi
def sg_impl_in : Sig := ⟨[.rd (.int .i64), .rd (.int .i64), .rd (.int .i64)], [none, none, none], [.rd .bool], [none]⟩
noncomputable def sd_impl_in : SD := ⟨sg_impl_in, fun x => some (((m_impl_in x.1 x.2.1 x.2.2.1), ()), (()))⟩
noncomputable def ta_impl_in : Tb := Tb.of fun f => none
def pa_impl_in : Nat → Pat × (Nat → Pat) := fun k => (⟨[], [], []⟩, fun _ => ⟨[], [], []⟩)
noncomputable def de_impl_in (a0 : Int) (a1 : Int) (a2 : Int) : Option ((((Bool) × Unit) × (Unit))) :=
  bif decide (a0 ≥ a1) then some ((decide (a0 ≤ a2), ()), ()) else some ((false, ()), ())
theorem eq_impl_in (a0 a1 a2 : Int) : de_impl_in a0 a1 a2 = some ((m_impl_in a0 a1 a2, ()), ()) := by
  unfold de_impl_in m_impl_in inB
  by_cases h : a0 ≥ a1
  · have : decide (a1 ≤ a0) = true := by simpa using h
    simp [h, this]
  · have : decide (a1 ≤ a0) = false := by simpa using h
    simp [h, this]
theorem en_impl_in (a0 : Int) (a1 : Int) (a2 : Int) : evalF Try.prog ta_impl_in pa_impl_in sg_impl_in Try.f76 noL (a0, a1, a2, ()) = de_impl_in a0 a1 a2 := by kernel_rfl
theorem si_impl_in : SigsOk Try.prog ta_impl_in := SigsOk.of fun f sd h => by
  try dsimp only [Tb.of, ta_impl_in] at h
  cases h
theorem sn_impl_in : Callable Try.prog 76 ∧ Sound Try.prog 76 sd_impl_in.sg sd_impl_in.den :=
  fn_plain (pat := pa_impl_in) (by kernel_rfl) si_impl_in Try.func76 (by kernel_rfl) (by kernel_rfl) (by kernel_rfl) fun x r h => by
    obtain ⟨a0, a1, a2, ⟨⟩⟩ := x; rw [← h]; exact (en_impl_in a0 a1 a2).trans (eq_impl_in a0 a1 a2)
def m_impl_goodKey (k : ByteArray) : Bool := keyOk k
def sg_impl_goodKey : Sig := ⟨[.rd .str], [none], [.rd .bool], [none]⟩
noncomputable def sd_impl_goodKey : SD := ⟨sg_impl_goodKey, fun x => some (((m_impl_goodKey x.1), ()), (()))⟩
noncomputable def ta_impl_goodKey : Tb := Tb.of fun f => if f = 76 then some sd_impl_in else none
def pa_impl_goodKey : Nat → Pat × (Nat → Pat) := fun k => (⟨[], [], []⟩, fun _ => ⟨[], [], []⟩)
noncomputable def de_impl_goodKey (a0 : ByteArray) : Option ((((Bool) × Unit) × (Unit))) :=
  some ((m_impl_in (nI (ByteArray.size a0)) 1 20, ()), ())
theorem eq_impl_goodKey (a0 : ByteArray) : de_impl_goodKey a0 = some ((m_impl_goodKey a0, ()), ()) := rfl
theorem en_impl_goodKey (a0 : ByteArray) : evalF Try.prog ta_impl_goodKey pa_impl_goodKey sg_impl_goodKey Try.f69 noL (a0, ()) = de_impl_goodKey a0 := by kernel_rfl
theorem si_impl_goodKey : SigsOk Try.prog ta_impl_goodKey := SigsOk.of fun f sd h => by
  try dsimp only [Tb.of, ta_impl_goodKey] at h
  split at h
  · rename_i e; subst e; cases h; exact sn_impl_in
  cases h
theorem sn_impl_goodKey : Callable Try.prog 69 ∧ Sound Try.prog 69 sd_impl_goodKey.sg sd_impl_goodKey.den :=
  fn_plain (pat := pa_impl_goodKey) (by kernel_rfl) si_impl_goodKey Try.func69 (by kernel_rfl) (by kernel_rfl) (by kernel_rfl) fun x r h => by
    obtain ⟨a0, ⟨⟩⟩ := x; rw [← h]; exact (en_impl_goodKey a0).trans (eq_impl_goodKey a0)
def m_impl_ValidBatch (b : List Chg) : Bool := validBatch b
def sg_impl_ValidBatch : Sig := ⟨[.rd (.sl (.pair .str (.pair .str (.pair .bool .unit))))], [none], [.rd .bool], [none]⟩
noncomputable def sd_impl_ValidBatch : SD := ⟨sg_impl_ValidBatch, fun x => some (((m_impl_ValidBatch x.1), ()), (()))⟩
noncomputable def ta_impl_ValidBatch : Tb := Tb.of fun f => if f = 69 then some sd_impl_goodKey else if f = 76 then some sd_impl_in else none
def pa_impl_ValidBatch : Nat → Pat × (Nat → Pat) := fun k => if k = 5 then (⟨[.sl 9 0 (.pair .str (.pair .str (.pair .bool .unit)))], [(9, .lf (.d (.sl (.pair .str (.pair .str (.pair .bool .unit)))))), (10, .lf (.d (.int .i64))), (11, .lf (.d (.int .i64)))], []⟩, fun e => if e = 1 then ⟨[], [(2, .lf (.d .bool))], []⟩ else if e = 2 then ⟨[], [], []⟩ else ⟨[], [], []⟩) else (⟨[], [], []⟩, fun _ => ⟨[], [], []⟩)
noncomputable def co_impl_ValidBatch_5 : Code := (loopsIn (bodyOf Try.f82)).getD 0 .skip
def fu_impl_ValidBatch_5 (v9 : List (ByteArray × ByteArray × Bool × Unit)) (v10 : Int) (v11 : Int) : Nat := (v10 - v11).toNat + 1
noncomputable def tr_impl_ValidBatch_5 {R : Type}  (NX : ((List (ByteArray × ByteArray × Bool × Unit)) × (Int) × (Int) × Unit) → Option R) (X2 : (Unit) → Option R) (X1 : ((Bool) × Unit) → Option R) (v9 : List (ByteArray × ByteArray × Bool × Unit)) (v10 : Int) (v11 : Int) : Option R :=
  bif decide (v11 < v10) then
    bif decide (0 ≤ v11) then
      bif decide (v11 < nI (List.length v9)) then
        bif !m_impl_goodKey (List.getD v9 (Int.toNat v11) (ByteArray.mk #[], ByteArray.mk #[], false, ())).fst then X1 (false, ())
        else
          bif decide (nI (ByteArray.size (List.getD v9 (Int.toNat v11) (ByteArray.mk #[], ByteArray.mk #[], false, ())).snd.fst) > 100) then X1 (false, ())
          else
            bif (List.getD v9 (Int.toNat v11) (ByteArray.mk #[], ByteArray.mk #[], false, ())).snd.snd.fst then
              bif !ByteArray.toList (List.getD v9 (Int.toNat v11) (ByteArray.mk #[], ByteArray.mk #[], false, ())).snd.fst == ByteArray.toList (ByteArray.mk #[]) then X1 (false, ())
              else NX (v9, v10, IntKind.wrap IntKind.i64 (v11 + 1), ())
            else NX (v9, v10, IntKind.wrap IntKind.i64 (v11 + 1), ())
      else none
    else none
  else X2 PUnit.unit
noncomputable def lo_impl_ValidBatch_5 : Nat → (List (ByteArray × ByteArray × Bool × Unit)) → (Int) → (Int) →  Option ((Unit) ⊕ ((Bool) × Unit))
  | 0, _, _, _ => none
  | m + 1, v9, v10, v11 => tr_impl_ValidBatch_5  (fun d => lo_impl_ValidBatch_5 m d.1 d.2.1 d.2.2.1) (fun d => some (.inl (d))) (fun d => some (.inr (d))) v9 v10 v11
theorem na_impl_ValidBatch_5 {R S : Type}  (NX : ((List (ByteArray × ByteArray × Bool × Unit)) × (Int) × (Int) × Unit) → Option R) (X2 : (Unit) → Option R) (X1 : ((Bool) × Unit) → Option R) (v9 : List (ByteArray × ByteArray × Bool × Unit)) (v10 : Int) (v11 : Int) (f : R → Option S) : tr_impl_ValidBatch_5  (fun d => (NX d).bind f) (fun d => (X2 d).bind f) (fun d => (X1 d).bind f) v9 v10 v11 = (tr_impl_ValidBatch_5  NX X2 X1 v9 v10 v11).bind f := by
  unfold tr_impl_ValidBatch_5
  simp only [cond_bind, ite_bind, onSum_bind, Option.bind_assoc, Option.bind_none, Option.bind_some]
noncomputable def de_impl_ValidBatch (a0 : List (ByteArray × ByteArray × Bool × Unit)) : Option ((((Bool) × Unit) × (Unit))) :=
  bif !m_impl_in (nI (List.length a0)) 1 20 then some ((false, ()), ())
  else Option.bind ((fun d => lo_impl_ValidBatch_5 (fu_impl_ValidBatch_5 d.1 d.2.1 d.2.2.1) d.1 d.2.1 d.2.2.1) (a0, nI (List.length a0), 0, ())) fun val => onSum (fun val => some ((true, ()), ())) (fun val => some ((val.fst, ()), ())) val
theorem eq_impl_ValidBatch (a0 : List (ByteArray × ByteArray × Bool × Unit)) : de_impl_ValidBatch a0 = some (((m_impl_ValidBatch a0), ()), (())) := by
  unfold de_impl_ValidBatch m_impl_ValidBatch validBatch
  have tl : ByteArray.toList (ByteArray.mk #[]) = [] := by decide +kernel
  show (bif !inB (a0.length : Int) 1 20 then _ else _) = _
  cases hin : inB (a0.length : Int) 1 20 with
  | false => rfl
  | true =>
    have hlen : a0.length ≤ 20 := by have := (inB_r hin).2; omega
    have hL := all_loop (n := a0.length) (fun i => okChg (a0.getD i zC)) (g := fun m i => lo_impl_ValidBatch_5 m a0 (nI a0.length) i) (ok := .inl ()) (bad := .inr (false, ())) (fun m i hi => by
      show lo_impl_ValidBatch_5 (m + 1) a0 (nI a0.length) i = _
      simp only [lo_impl_ValidBatch_5, tr_impl_ValidBatch_5]
      rw [tl, cLt hi, cLe0, wI (show i < 4611686018427387904 by omega), Int.toNat_natCast]
      have g1 : decide (nI (ByteArray.size (List.getD a0 i (ByteArray.mk #[], ByteArray.mk #[], false, ())).2.1) > 100) = !decide ((a0.getD i zC).2.1.size ≤ 100) := gt100 _ 100
      rw [g1]
      show (bif !keyOk (a0.getD i zC).1 then _ else (bif _ then _ else (bif (a0.getD i zC).2.2.1 then (bif !((a0.getD i zC).2.1.toList == []) then _ else _) else _))) = _
      unfold okChg
      cases keyOk (a0.getD i zC).1 <;> cases decide ((a0.getD i zC).2.1.size ≤ 100) <;> cases (a0.getD i zC).2.2.1 <;> cases ((a0.getD i zC).2.1.toList == []) <;> rfl) (fun m => by
      show lo_impl_ValidBatch_5 (m + 1) a0 (nI a0.length) (a0.length : Int) = _
      simp only [lo_impl_ValidBatch_5, tr_impl_ValidBatch_5]
      rw [cLtF]
      rfl) (fu_impl_ValidBatch_5 a0 (nI a0.length) 0) 0 (by omega) (by simp [fu_impl_ValidBatch_5, nI])
    refine bi_ hL ?_
    rw [Nat.sub_zero]
    cases (List.range' 0 a0.length).all (fun i => okChg (a0.getD i zC)) <;> rfl
noncomputable def ou_impl_ValidBatch_5 {R : Type} (k : Kt R) : ((Unit) ⊕ ((Bool) × Unit)) → Option R := (onSum (fun d => k (.exit 0) (((pa_impl_ValidBatch 5).2 2).st d) (((pa_impl_ValidBatch 5).2 2).nid)) (fun d => k .ret (((pa_impl_ValidBatch 5).2 1).st d) (((pa_impl_ValidBatch 5).2 1).nid)))
noncomputable def L_impl_ValidBatch {R : Type} : Lt R pa_impl_ValidBatch := (addL (pat := pa_impl_ValidBatch) 5 (fun d k => (lo_impl_ValidBatch_5 (fu_impl_ValidBatch_5 d.1 d.2.1 d.2.2.1) d.1 d.2.1 d.2.2.1).bind (ou_impl_ValidBatch_5 k)) noL)
theorem rd_impl_ValidBatch_5 {R : Type} (nx : (pa_impl_ValidBatch 5).1.D → Kt R → Option R) (k : Kt R) (v9 : List (ByteArray × ByteArray × Bool × Unit)) (v10 : Int) (v11 : Int) : ev Try.prog ⟨ta_impl_ValidBatch, 0, 35, pa_impl_ValidBatch⟩ L_impl_ValidBatch co_impl_ValidBatch_5 ((pa_impl_ValidBatch 5).1.st (v9, v10, v11, ())) (pa_impl_ValidBatch 5).1.nid (roundK 0 (pa_impl_ValidBatch 5) nx k) = tr_impl_ValidBatch_5  (fun d => nx d k) (fun d => k (.exit 0) (((pa_impl_ValidBatch 5).2 2).st d) (((pa_impl_ValidBatch 5).2 2).nid)) (fun d => k .ret (((pa_impl_ValidBatch 5).2 1).st d) (((pa_impl_ValidBatch 5).2 1).nid)) v9 v10 v11 := by kernel_rfl
theorem lp_impl_ValidBatch_5 {R : Type} : ∀ (m : Nat) (d : (pa_impl_ValidBatch 5).1.D) (k : Kt R), loopN 0 (pa_impl_ValidBatch 5) (fun s nid k => ev Try.prog ⟨ta_impl_ValidBatch, 0, 35, pa_impl_ValidBatch⟩ L_impl_ValidBatch co_impl_ValidBatch_5 s nid k) m d k = (lo_impl_ValidBatch_5 m d.1 d.2.1 d.2.2.1).bind (ou_impl_ValidBatch_5 k)
  | 0, _, _ => rfl
  | m + 1, ⟨v9, v10, v11, ⟨⟩⟩, k => (rd_impl_ValidBatch_5 _ k v9 v10 v11).trans ((congrArg (fun F => tr_impl_ValidBatch_5  F (fun d => k (.exit 0) (((pa_impl_ValidBatch 5).2 2).st d) (((pa_impl_ValidBatch 5).2 2).nid)) (fun d => k .ret (((pa_impl_ValidBatch 5).2 1).st d) (((pa_impl_ValidBatch 5).2 1).nid)) v9 v10 v11) (funext fun d => lp_impl_ValidBatch_5 m d k)).trans (na_impl_ValidBatch_5 (f := ou_impl_ValidBatch_5 k)  (fun d => lo_impl_ValidBatch_5 m d.1 d.2.1 d.2.2.1) (fun d => some (.inl (d))) (fun d => some (.inr (d))) v9 v10 v11))
theorem en_impl_ValidBatch (a0 : List (ByteArray × ByteArray × Bool × Unit)) : evalF Try.prog ta_impl_ValidBatch pa_impl_ValidBatch sg_impl_ValidBatch Try.f82 L_impl_ValidBatch (a0, ()) = de_impl_ValidBatch a0 := by kernel_rfl
theorem si_impl_ValidBatch : SigsOk Try.prog ta_impl_ValidBatch := SigsOk.of fun f sd h => by
  try dsimp only [Tb.of, ta_impl_ValidBatch] at h
  split at h
  · rename_i e; subst e; cases h; exact sn_impl_goodKey
  split at h
  · rename_i e; subst e; cases h; exact sn_impl_in
  cases h
theorem lk_impl_ValidBatch_5 {R : Type} : LoopOk Try.prog R 35 0 pa_impl_ValidBatch L_impl_ValidBatch co_impl_ValidBatch_5 :=
  loop_key (cfg := ⟨ta_impl_ValidBatch, 0, 35, pa_impl_ValidBatch⟩) (key := 5) (by kernel_rfl) (by kernel_rfl) si_impl_ValidBatch rfl rfl (fun d k r h => ⟨fu_impl_ValidBatch_5 d.1 d.2.1 d.2.2.1, (lp_impl_ValidBatch_5 _ d k).trans h⟩) (fun c hc => by rw [show loopsIn co_impl_ValidBatch_5 = [] from by kernel_rfl] at hc; cases hc)
theorem sn_impl_ValidBatch : Callable Try.prog 82 ∧ Sound Try.prog 82 sd_impl_ValidBatch.sg sd_impl_ValidBatch.den :=
  fn_loops (pat := pa_impl_ValidBatch) L_impl_ValidBatch (by kernel_rfl) si_impl_ValidBatch Try.func82 (by kernel_rfl) (by kernel_rfl) (fun c hc => by rw [show loopsIn (bodyOf Try.f82) = [co_impl_ValidBatch_5] from by kernel_rfl] at hc; simp only [List.mem_cons, List.not_mem_nil, or_false] at hc; rcases hc with rfl <;> first | exact lk_impl_ValidBatch_5) fun x r h => by
    obtain ⟨a0, ⟨⟩⟩ := x; rw [← h]; exact (en_impl_ValidBatch a0).trans (eq_impl_ValidBatch a0)
def m_impl_be (v n : Int) : Option ByteArray := if 0 ≤ n ∧ n ≤ 1000 then some (beS v n.toNat) else none
def fu_impl_be_4 (v0 v6 : Int) (r0 : List Int) : Nat := v6.toNat + 2
def sg_impl_be : Sig := ⟨[.rd (.int .i64), .rd (.int .i64)], [none, none], [.rd .str], [none]⟩
noncomputable def sd_impl_be : SD := ⟨sg_impl_be, fun x => (m_impl_be x.1 x.2.1).bind fun r => some ((r, ()), (()))⟩
noncomputable def ta_impl_be : Tb := Tb.of fun f => none
def pa_impl_be : Nat → Pat × (Nat → Pat) := fun k => if k = 4 then (⟨[.row 5 0 5 (.int .u8)], [(0, .lf (.d (.int .i64))), (5, .lf (.row 0)), (6, .lf (.d (.int .i64)))], [.row 5 (.int .u8)]⟩, fun e => if e = 2 then ⟨[.row 5 0 5 (.int .u8)], [(5, .lf (.row 0))], [.row 5 (.int .u8)]⟩ else ⟨[], [], []⟩) else (⟨[], [], []⟩, fun _ => ⟨[], [], []⟩)
noncomputable def co_impl_be_4 : Code := (loopsIn (bodyOf Try.f84)).getD 0 .skip
noncomputable def tr_impl_be_4 {R : Type}  (NX : ((Int) × (Int) × (List Int) × Unit) → Option R) (X2 : ((List Int) × Unit) → Option R) (v0 : Int) (v6 : Int) (r0 : List Int) : Option R :=
  bif decide (v6 ≥ 0) then
    bif decide (0 ≤ v6) then
      bif decide (v6 < nI (List.length r0)) then
        bif decide (Int.toNat v6 < List.length r0) then NX (Int.fdiv v0 (2 ^ min (Int.toNat 8) 64), IntKind.wrap IntKind.i64 (v6 - 1), List.set r0 (Int.toNat v6) (IntKind.wrap IntKind.u8 v0), ())
        else none
      else none
    else none
  else X2 (r0, ())
noncomputable def lo_impl_be_4 : Nat → (Int) → (Int) → (List Int) →  Option ((List Int) × Unit)
  | 0, _, _, _ => none
  | m + 1, v0, v6, r0 => tr_impl_be_4  (fun d => lo_impl_be_4 m d.1 d.2.1 d.2.2.1) (fun d => some (d)) v0 v6 r0
theorem na_impl_be_4 {R S : Type}  (NX : ((Int) × (Int) × (List Int) × Unit) → Option R) (X2 : ((List Int) × Unit) → Option R) (v0 : Int) (v6 : Int) (r0 : List Int) (f : R → Option S) : tr_impl_be_4  (fun d => (NX d).bind f) (fun d => (X2 d).bind f) v0 v6 r0 = (tr_impl_be_4  NX X2 v0 v6 r0).bind f := by
  unfold tr_impl_be_4
  simp only [cond_bind, ite_bind, onSum_bind, Option.bind_assoc, Option.bind_none, Option.bind_some]
noncomputable def de_impl_be (a0 : Int) (a1 : Int) : Option ((((ByteArray) × Unit) × (Unit))) :=
  bif decide (a1 = a1) then
    bif decide (0 ≤ a1) then
      bif decide (Int.toNat a1 * 1 ≤ 140737488355328) then Option.bind ((fun d => lo_impl_be_4 (fu_impl_be_4 d.1 d.2.1 d.2.2.1) d.1 d.2.1 d.2.2.1) (a0, IntKind.wrap IntKind.i64 (a1 - 1), List.replicate (Int.toNat a1) 0, ())) fun val => some ((strOfNums val.fst, ()), ())
      else none
    else none
  else none
theorem be_loop : ∀ (k m : Nat) (v : Int) (l t : List Int), l.length = k → k ≤ 1000 → k < m → lo_impl_be_4 m v ((k : Int) - 1) (l ++ t) = some (digL v k ++ t, ())
  | 0, m + 1, v, l, t, hl, hk, hm => by
    obtain rfl : l = [] := List.length_eq_zero_iff.1 hl
    simp only [lo_impl_be_4, tr_impl_be_4]
    rw [decide_eq_false (by omega)]
    rfl
  | k + 1, m + 1, v, l, t, hl, hk, hm => by
    have e : (((k + 1 : Nat) : Int) - 1) = (k : Int) := by omega
    rw [e]
    simp only [lo_impl_be_4, tr_impl_be_4]
    have hlen : (l ++ t).length = k + 1 + t.length := by rw [List.length_append, hl]
    rw [decide_eq_true (show (k : Int) ≥ 0 by omega), decide_eq_true (show (k : Int) < nI (l ++ t).length by simp only [nI, hlen]; omega), decide_eq_true (show Int.toNat (k : Int) < (l ++ t).length by rw [hlen]; omega), wrap_ok (by omega) (by omega)]
    simp only [cond_true, Int.toNat_natCast]
    obtain ⟨l', x, rfl⟩ : ∃ l' x, l = l' ++ [x] := ⟨l.dropLast, l.getLast (by intro h; subst h; simp at hl), (List.dropLast_concat_getLast _).symm⟩
    have hl' : l'.length = k := by simpa using hl
    have hs : ((l' ++ [x]) ++ t).set k (IntKind.wrap IntKind.u8 v) = l' ++ (v % 256 :: t) := by
      rw [List.append_assoc, List.set_append_right _ _ (by omega), hl']
      simp only [Nat.sub_self, List.singleton_append, List.set_cons_zero]
      rfl
    rw [hs]
    have := be_loop k m (v / 256) l' (v % 256 :: t) hl' (by omega) (by omega)
    have e2 : Int.fdiv v (2 ^ min (Int.toNat 8) 64) = v / 256 := by
      show Int.fdiv v 256 = v / 256
      exact Int.fdiv_eq_ediv_of_nonneg _ (by omega)
    rw [e2, this]
    simp only [digL, List.append_assoc, List.singleton_append]
theorem eq_impl_be (a0 : Int) (a1 : Int) r (h : m_impl_be a0 a1 = some r) : de_impl_be a0 a1 = some ((r, ()), (())) := by
  unfold m_impl_be at h
  split at h
  · rename_i hc
    cases h
    obtain ⟨n, rfl⟩ : ∃ n : Nat, a1 = (n : Int) := ⟨a1.toNat, by omega⟩
    unfold de_impl_be
    rw [decide_eq_true rfl, decide_eq_true hc.1, decide_eq_true (show Int.toNat (n : Int) * 1 ≤ 140737488355328 by omega), wrap_ok (by omega) (by omega)]
    have hL := be_loop n (fu_impl_be_4 a0 ((n : Int) - 1) (List.replicate n 0)) a0 (List.replicate n 0) [] (by simp) (by omega) (by simp only [fu_impl_be_4]; omega)
    rw [List.append_nil, List.append_nil] at hL
    exact bi_ hL rfl
  · cases h
noncomputable def ou_impl_be_4 {R : Type} (k : Kt R) : ((List Int) × Unit) → Option R := (fun d => k (.exit 0) (((pa_impl_be 4).2 2).st d) (((pa_impl_be 4).2 2).nid))
noncomputable def L_impl_be {R : Type} : Lt R pa_impl_be := (addL (pat := pa_impl_be) 4 (fun d k => (lo_impl_be_4 (fu_impl_be_4 d.1 d.2.1 d.2.2.1) d.1 d.2.1 d.2.2.1).bind (ou_impl_be_4 k)) noL)
theorem rd_impl_be_4 {R : Type} (nx : (pa_impl_be 4).1.D → Kt R → Option R) (k : Kt R) (v0 : Int) (v6 : Int) (r0 : List Int) : ev Try.prog ⟨ta_impl_be, 0, 24, pa_impl_be⟩ L_impl_be co_impl_be_4 ((pa_impl_be 4).1.st (v0, v6, r0, ())) (pa_impl_be 4).1.nid (roundK 0 (pa_impl_be 4) nx k) = tr_impl_be_4  (fun d => nx d k) (fun d => k (.exit 0) (((pa_impl_be 4).2 2).st d) (((pa_impl_be 4).2 2).nid)) v0 v6 r0 := by kernel_rfl
theorem lp_impl_be_4 {R : Type} : ∀ (m : Nat) (d : (pa_impl_be 4).1.D) (k : Kt R), loopN 0 (pa_impl_be 4) (fun s nid k => ev Try.prog ⟨ta_impl_be, 0, 24, pa_impl_be⟩ L_impl_be co_impl_be_4 s nid k) m d k = (lo_impl_be_4 m d.1 d.2.1 d.2.2.1).bind (ou_impl_be_4 k)
  | 0, _, _ => rfl
  | m + 1, ⟨v0, v6, r0, ⟨⟩⟩, k => (rd_impl_be_4 _ k v0 v6 r0).trans ((congrArg (fun F => tr_impl_be_4  F (fun d => k (.exit 0) (((pa_impl_be 4).2 2).st d) (((pa_impl_be 4).2 2).nid)) v0 v6 r0) (funext fun d => lp_impl_be_4 m d k)).trans (na_impl_be_4 (f := ou_impl_be_4 k)  (fun d => lo_impl_be_4 m d.1 d.2.1 d.2.2.1) (fun d => some (d)) v0 v6 r0))
theorem en_impl_be (a0 : Int) (a1 : Int) : evalF Try.prog ta_impl_be pa_impl_be sg_impl_be Try.f84 L_impl_be (a0, a1, ()) = de_impl_be a0 a1 := by kernel_rfl
theorem si_impl_be : SigsOk Try.prog ta_impl_be := SigsOk.of fun f sd h => by
  try dsimp only [Tb.of, ta_impl_be] at h
  cases h
theorem lk_impl_be_4 {R : Type} : LoopOk Try.prog R 24 0 pa_impl_be L_impl_be co_impl_be_4 :=
  loop_key (cfg := ⟨ta_impl_be, 0, 24, pa_impl_be⟩) (key := 4) (by kernel_rfl) (by kernel_rfl) si_impl_be rfl rfl (fun d k r h => ⟨fu_impl_be_4 d.1 d.2.1 d.2.2.1, (lp_impl_be_4 _ d k).trans h⟩) (fun c hc => by rw [show loopsIn co_impl_be_4 = [] from by kernel_rfl] at hc; cases hc)
theorem sn_impl_be : Callable Try.prog 84 ∧ Sound Try.prog 84 sd_impl_be.sg sd_impl_be.den :=
  fn_loops (pat := pa_impl_be) L_impl_be (by kernel_rfl) si_impl_be Try.func84 (by kernel_rfl) (by kernel_rfl) (fun c hc => by rw [show loopsIn (bodyOf Try.f84) = [co_impl_be_4] from by kernel_rfl] at hc; simp only [List.mem_cons, List.not_mem_nil, or_false] at hc; rcases hc with rfl <;> first | exact lk_impl_be_4) fun x r h => by
    obtain ⟨a0, a1, ⟨⟩⟩ := x; obtain ⟨y, h1, h2⟩ := Option.bind_eq_some_iff.1 (show (m_impl_be a0 a1).bind (fun r => some ((r, ()), (()))) = some r from h); cases h2; exact (en_impl_be a0 a1).trans (eq_impl_be a0 a1 _ h1)
def m_impl_FormBatch (b : List Chg) : ByteArray := formB b
def sg_impl_FormBatch : Sig := ⟨[.rd (.sl (.pair .str (.pair .str (.pair .bool .unit))))], [none], [.rd .str], [none]⟩
noncomputable def sd_impl_FormBatch : SD := ⟨sg_impl_FormBatch, fun x => some (((m_impl_FormBatch x.1), ()), (()))⟩
noncomputable def ta_impl_FormBatch : Tb := ⟨fun f => if f = 82 then some sd_impl_ValidBatch else if f = 84 then some sd_impl_be else none, fun f => if f = 83 then some Try.f83 else none, some (119, 117), some (85, 117, 5)⟩
def pa_impl_FormBatch : Nat → Pat × (Nat → Pat) := fun k => if k = 6 then (⟨[.sl 9 0 (.pair .str (.pair .str (.pair .bool .unit))), .self 3 0, .boxRow 3 1 5 (.int .u8)], [(3, .lf (.ptr 0 0)), (9, .lf (.d (.sl (.pair .str (.pair .str (.pair .bool .unit)))))), (10, .lf (.d (.int .i64))), (11, .lf (.d (.int .i64)))], [.box 117 [.sp 0, .row 1], .row 5 (.int .u8)]⟩, fun e => if e = 2 then ⟨[.self 3 0, .boxRow 3 1 5 (.int .u8)], [(3, .lf (.ptr 0 0))], [.box 117 [.sp 0, .row 1], .row 5 (.int .u8)]⟩ else ⟨[], [], []⟩) else (⟨[], [], []⟩, fun _ => ⟨[], [], []⟩)
noncomputable def co_impl_FormBatch_6 : Code := (loopsIn (bodyOf Try.f31)).getD 0 .skip
def fu_impl_FormBatch_6 (v9 : List (ByteArray × ByteArray × Bool × Unit)) (v10 : Int) (v11 : Int) (r1 : List Int) : Nat := (v10 - v11).toNat + 1
noncomputable def tr_impl_FormBatch_6 {R : Type}  (NX : ((List (ByteArray × ByteArray × Bool × Unit)) × (Int) × (Int) × (List Int) × Unit) → Option R) (X2 : ((List Int) × Unit) → Option R) (v9 : List (ByteArray × ByteArray × Bool × Unit)) (v10 : Int) (v11 : Int) (r1 : List Int) : Option R :=
  bif decide (v11 < v10) then
    bif decide (0 ≤ v11) then
      bif decide (v11 < nI (List.length v9)) then
        bif (List.getD v9 (Int.toNat v11) (ByteArray.mk #[], ByteArray.mk #[], false, ())).snd.snd.fst then
          bif
              decide
                (ByteArray.size (ByteArray.mk #[1] ++ beS (nI (ByteArray.size (List.getD v9 (Int.toNat v11) (ByteArray.mk #[], ByteArray.mk #[], false, ())).fst)) (Int.toNat 1)) +
                    ByteArray.size (List.getD v9 (Int.toNat v11) (ByteArray.mk #[], ByteArray.mk #[], false, ())).fst ≤
                  9223372036854775807) then
            bif
                decide
                  (List.length r1 +
                      ByteArray.size
                        (ByteArray.mk #[1] ++ beS (nI (ByteArray.size (List.getD v9 (Int.toNat v11) (ByteArray.mk #[], ByteArray.mk #[], false, ())).fst)) (Int.toNat 1) ++
                          (List.getD v9 (Int.toNat v11) (ByteArray.mk #[], ByteArray.mk #[], false, ())).fst) ≤
                    140737488355328) then
              NX
                (v9, v10, IntKind.wrap IntKind.i64 (v11 + 1),
                  r1 ++
                    bytesOfStr
                      (ByteArray.mk #[1] ++ beS (nI (ByteArray.size (List.getD v9 (Int.toNat v11) (ByteArray.mk #[], ByteArray.mk #[], false, ())).fst)) (Int.toNat 1) ++
                        (List.getD v9 (Int.toNat v11) (ByteArray.mk #[], ByteArray.mk #[], false, ())).fst),
                  ())
            else none
          else none
        else
          bif
              decide
                (ByteArray.size (ByteArray.mk #[0] ++ beS (nI (ByteArray.size (List.getD v9 (Int.toNat v11) (ByteArray.mk #[], ByteArray.mk #[], false, ())).fst)) (Int.toNat 1)) +
                    ByteArray.size (List.getD v9 (Int.toNat v11) (ByteArray.mk #[], ByteArray.mk #[], false, ())).fst ≤
                  9223372036854775807) then
            bif
                decide
                  (ByteArray.size
                        (ByteArray.mk #[0] ++ beS (nI (ByteArray.size (List.getD v9 (Int.toNat v11) (ByteArray.mk #[], ByteArray.mk #[], false, ())).fst)) (Int.toNat 1) ++
                          (List.getD v9 (Int.toNat v11) (ByteArray.mk #[], ByteArray.mk #[], false, ())).fst) +
                      ByteArray.size (beS (nI (ByteArray.size (List.getD v9 (Int.toNat v11) (ByteArray.mk #[], ByteArray.mk #[], false, ())).snd.fst)) (Int.toNat 1)) ≤
                    9223372036854775807) then
              bif
                  decide
                    (ByteArray.size
                          (ByteArray.mk #[0] ++ beS (nI (ByteArray.size (List.getD v9 (Int.toNat v11) (ByteArray.mk #[], ByteArray.mk #[], false, ())).fst)) (Int.toNat 1) ++
                              (List.getD v9 (Int.toNat v11) (ByteArray.mk #[], ByteArray.mk #[], false, ())).fst ++
                            beS (nI (ByteArray.size (List.getD v9 (Int.toNat v11) (ByteArray.mk #[], ByteArray.mk #[], false, ())).snd.fst)) (Int.toNat 1)) +
                        ByteArray.size (List.getD v9 (Int.toNat v11) (ByteArray.mk #[], ByteArray.mk #[], false, ())).snd.fst ≤
                      9223372036854775807) then
                bif
                    decide
                      (List.length r1 +
                          ByteArray.size
                            (ByteArray.mk #[0] ++ beS (nI (ByteArray.size (List.getD v9 (Int.toNat v11) (ByteArray.mk #[], ByteArray.mk #[], false, ())).fst)) (Int.toNat 1) ++
                                  (List.getD v9 (Int.toNat v11) (ByteArray.mk #[], ByteArray.mk #[], false, ())).fst ++
                                beS (nI (ByteArray.size (List.getD v9 (Int.toNat v11) (ByteArray.mk #[], ByteArray.mk #[], false, ())).snd.fst)) (Int.toNat 1) ++
                              (List.getD v9 (Int.toNat v11) (ByteArray.mk #[], ByteArray.mk #[], false, ())).snd.fst) ≤
                        140737488355328) then
                  NX
                    (v9, v10, IntKind.wrap IntKind.i64 (v11 + 1),
                      r1 ++
                        bytesOfStr
                          (ByteArray.mk #[0] ++ beS (nI (ByteArray.size (List.getD v9 (Int.toNat v11) (ByteArray.mk #[], ByteArray.mk #[], false, ())).fst)) (Int.toNat 1) ++
                                (List.getD v9 (Int.toNat v11) (ByteArray.mk #[], ByteArray.mk #[], false, ())).fst ++
                              beS (nI (ByteArray.size (List.getD v9 (Int.toNat v11) (ByteArray.mk #[], ByteArray.mk #[], false, ())).snd.fst)) (Int.toNat 1) ++
                            (List.getD v9 (Int.toNat v11) (ByteArray.mk #[], ByteArray.mk #[], false, ())).snd.fst),
                      ())
                else none
              else none
            else none
          else none
      else none
    else none
  else X2 (r1, ())
noncomputable def lo_impl_FormBatch_6 : Nat → (List (ByteArray × ByteArray × Bool × Unit)) → (Int) → (Int) → (List Int) →  Option ((List Int) × Unit)
  | 0, _, _, _, _ => none
  | m + 1, v9, v10, v11, r1 => tr_impl_FormBatch_6  (fun d => lo_impl_FormBatch_6 m d.1 d.2.1 d.2.2.1 d.2.2.2.1) (fun d => some (d)) v9 v10 v11 r1
theorem na_impl_FormBatch_6 {R S : Type}  (NX : ((List (ByteArray × ByteArray × Bool × Unit)) × (Int) × (Int) × (List Int) × Unit) → Option R) (X2 : ((List Int) × Unit) → Option R) (v9 : List (ByteArray × ByteArray × Bool × Unit)) (v10 : Int) (v11 : Int) (r1 : List Int) (f : R → Option S) : tr_impl_FormBatch_6  (fun d => (NX d).bind f) (fun d => (X2 d).bind f) v9 v10 v11 r1 = (tr_impl_FormBatch_6  NX X2 v9 v10 v11 r1).bind f := by
  unfold tr_impl_FormBatch_6
  simp only [cond_bind, ite_bind, onSum_bind, Option.bind_assoc, Option.bind_none, Option.bind_some]
noncomputable def de_impl_FormBatch (a0 : List (ByteArray × ByteArray × Bool × Unit)) : Option ((((ByteArray) × Unit) × (Unit))) :=
  bif !m_impl_ValidBatch a0 then some ((ByteArray.mk #[], ()), ())
  else Option.bind ((fun d => lo_impl_FormBatch_6 (fu_impl_FormBatch_6 d.1 d.2.1 d.2.2.1 d.2.2.2.1) d.1 d.2.1 d.2.2.1 d.2.2.2.1) (a0, nI (List.length a0), 0, [], ())) fun val => bif allBytes val.fst then some ((strOfNums val.fst, ()), ()) else none
theorem eq_impl_FormBatch (a0 : List (ByteArray × ByteArray × Bool × Unit)) : de_impl_FormBatch a0 = some ((m_impl_FormBatch a0, ()), (())) := by
  unfold de_impl_FormBatch m_impl_FormBatch formB
  show (bif !validBatch a0 then _ else _) = _
  cases hv : validBatch a0 with
  | false => rfl
  | true =>
    obtain ⟨hlen, hok⟩ := validBatch_at hv
    have hL := up_loop a0.length BatOk (fun i r => r ++ chgL (a0.getD i zC)) (g := fun m i r => lo_impl_FormBatch_6 m a0 (nI a0.length) i r) (ok := fun r => (r, ())) (fun m i r hi hr => by
      show lo_impl_FormBatch_6 (m + 1) a0 (nI a0.length) i r = _
      simp only [lo_impl_FormBatch_6, tr_impl_FormBatch_6]
      have hc := hok i hi
      obtain ⟨k1, k2, k3⟩ := okChg_len hc
      rw [cLt hi, cLe0, wI (show i < 4611686018427387904 by omega), Int.toNat_natCast]
      show (bif (a0.getD i zC).2.2.1 then (bif decide (ByteArray.size (ByteArray.mk #[1] ++ beS (nI (ByteArray.size (a0.getD i zC).1)) 1) + ByteArray.size (a0.getD i zC).1 ≤ 9223372036854775807) then (bif decide (List.length r + ByteArray.size (ByteArray.mk #[1] ++ beS (nI (ByteArray.size (a0.getD i zC).1)) 1 ++ (a0.getD i zC).1) ≤ 140737488355328) then lo_impl_FormBatch_6 m a0 (nI a0.length) ((i + 1 : Nat) : Int) (r ++ bytesOfStr (ByteArray.mk #[1] ++ beS (nI (ByteArray.size (a0.getD i zC).1)) 1 ++ (a0.getD i zC).1)) else none) else none) else (bif decide (ByteArray.size (ByteArray.mk #[0] ++ beS (nI (ByteArray.size (a0.getD i zC).1)) 1) + ByteArray.size (a0.getD i zC).1 ≤ 9223372036854775807) then (bif decide (ByteArray.size (ByteArray.mk #[0] ++ beS (nI (ByteArray.size (a0.getD i zC).1)) 1 ++ (a0.getD i zC).1) + ByteArray.size (beS (nI (ByteArray.size (a0.getD i zC).2.1)) 1) ≤ 9223372036854775807) then (bif decide (ByteArray.size (ByteArray.mk #[0] ++ beS (nI (ByteArray.size (a0.getD i zC).1)) 1 ++ (a0.getD i zC).1 ++ beS (nI (ByteArray.size (a0.getD i zC).2.1)) 1) + ByteArray.size (a0.getD i zC).2.1 ≤ 9223372036854775807) then (bif decide (List.length r + ByteArray.size (ByteArray.mk #[0] ++ beS (nI (ByteArray.size (a0.getD i zC).1)) 1 ++ (a0.getD i zC).1 ++ beS (nI (ByteArray.size (a0.getD i zC).2.1)) 1 ++ (a0.getD i zC).2.1) ≤ 140737488355328) then lo_impl_FormBatch_6 m a0 (nI a0.length) ((i + 1 : Nat) : Int) (r ++ bytesOfStr (ByteArray.mk #[0] ++ beS (nI (ByteArray.size (a0.getD i zC).1)) 1 ++ (a0.getD i zC).1 ++ beS (nI (ByteArray.size (a0.getD i zC).2.1)) 1 ++ (a0.getD i zC).2.1)) else none) else none) else none) else none)) = lo_impl_FormBatch_6 m a0 (nI a0.length) ((i + 1 : Nat) : Int) (r ++ chgL (a0.getD i zC))
      have hr1 := hr.1
      generalize a0.getD i zC = c at *
      have o1 : bytesOfStr (ByteArray.mk #[1]) = [1] := rfl
      have o0 : bytesOfStr (ByteArray.mk #[0]) = [0] := rfl
      have s1 : ByteArray.size (ByteArray.mk #[1]) = 1 := rfl
      have s0 : ByteArray.size (ByteArray.mk #[0]) = 1 := rfl
      simp only [bytes_app, bytes_be _ (show c.1.size < 256 by omega), bytes_be _ (show c.2.1.size < 256 by omega), o1, o0, ByteArray.size_append, beS_size, s1, s0]
      rw [decide_eq_true (show 1 + 1 + c.1.size ≤ 9223372036854775807 by omega), decide_eq_true (show r.length + (1 + 1 + c.1.size) ≤ 140737488355328 by omega), decide_eq_true (show 1 + 1 + c.1.size + 1 ≤ 9223372036854775807 by omega), decide_eq_true (show 1 + 1 + c.1.size + 1 + c.2.1.size ≤ 9223372036854775807 by omega), decide_eq_true (show r.length + (1 + 1 + c.1.size + 1 + c.2.1.size) ≤ 140737488355328 by omega)]
      unfold chgL
      cases c.2.2.1 <;> rfl) (fun m r _ => by
      show lo_impl_FormBatch_6 (m + 1) a0 (nI a0.length) (a0.length : Int) r = _
      simp only [lo_impl_FormBatch_6, tr_impl_FormBatch_6]
      rw [cLtF]
      rfl) (fun i r hi hr => hr.step (hok i hi)) a0.length (fu_impl_FormBatch_6 a0 (nI a0.length) 0 []) 0 [] (by omega) (by simp [fu_impl_FormBatch_6, nI]) ⟨by simp, rfl⟩
    have hB := iter_bat hok a0.length 0 [] (by omega) ⟨by simp, rfl⟩
    rw [iter_cat chgL zC a0 a0.length 0 [] (by omega), List.nil_append, List.drop_zero] at hL hB
    refine bi_ hL ?_
    show (bif allBytes (batchL a0) then some ((strOfNums (batchL a0), ()), ()) else none) = _
    have : allBytes (batchL a0) = true := hB.2
    rw [this]
    rfl
noncomputable def ou_impl_FormBatch_6 {R : Type} (k : Kt R) : ((List Int) × Unit) → Option R := (fun d => k (.exit 0) (((pa_impl_FormBatch 6).2 2).st d) (((pa_impl_FormBatch 6).2 2).nid))
noncomputable def L_impl_FormBatch {R : Type} : Lt R pa_impl_FormBatch := (addL (pat := pa_impl_FormBatch) 6 (fun d k => (lo_impl_FormBatch_6 (fu_impl_FormBatch_6 d.1 d.2.1 d.2.2.1 d.2.2.2.1) d.1 d.2.1 d.2.2.1 d.2.2.2.1).bind (ou_impl_FormBatch_6 k)) noL)
theorem rd_impl_FormBatch_6 {R : Type} (nx : (pa_impl_FormBatch 6).1.D → Kt R → Option R) (k : Kt R) (v9 : List (ByteArray × ByteArray × Bool × Unit)) (v10 : Int) (v11 : Int) (r1 : List Int) : ev Try.prog ⟨ta_impl_FormBatch, 0, 45, pa_impl_FormBatch⟩ L_impl_FormBatch co_impl_FormBatch_6 ((pa_impl_FormBatch 6).1.st (v9, v10, v11, r1, ())) (pa_impl_FormBatch 6).1.nid (roundK 0 (pa_impl_FormBatch 6) nx k) = tr_impl_FormBatch_6  (fun d => nx d k) (fun d => k (.exit 0) (((pa_impl_FormBatch 6).2 2).st d) (((pa_impl_FormBatch 6).2 2).nid)) v9 v10 v11 r1 := by kernel_rfl
theorem lp_impl_FormBatch_6 {R : Type} : ∀ (m : Nat) (d : (pa_impl_FormBatch 6).1.D) (k : Kt R), loopN 0 (pa_impl_FormBatch 6) (fun s nid k => ev Try.prog ⟨ta_impl_FormBatch, 0, 45, pa_impl_FormBatch⟩ L_impl_FormBatch co_impl_FormBatch_6 s nid k) m d k = (lo_impl_FormBatch_6 m d.1 d.2.1 d.2.2.1 d.2.2.2.1).bind (ou_impl_FormBatch_6 k)
  | 0, _, _ => rfl
  | m + 1, ⟨v9, v10, v11, r1, ⟨⟩⟩, k => (rd_impl_FormBatch_6 _ k v9 v10 v11 r1).trans ((congrArg (fun F => tr_impl_FormBatch_6  F (fun d => k (.exit 0) (((pa_impl_FormBatch 6).2 2).st d) (((pa_impl_FormBatch 6).2 2).nid)) v9 v10 v11 r1) (funext fun d => lp_impl_FormBatch_6 m d k)).trans (na_impl_FormBatch_6 (f := ou_impl_FormBatch_6 k)  (fun d => lo_impl_FormBatch_6 m d.1 d.2.1 d.2.2.1 d.2.2.2.1) (fun d => some (d)) v9 v10 v11 r1))
theorem en_impl_FormBatch (a0 : List (ByteArray × ByteArray × Bool × Unit)) : evalF Try.prog ta_impl_FormBatch pa_impl_FormBatch sg_impl_FormBatch Try.f31 L_impl_FormBatch (a0, ()) = de_impl_FormBatch a0 := by kernel_rfl
theorem si_impl_FormBatch : SigsOk Try.prog ta_impl_FormBatch where
  sd := fun f sd h => by
    try dsimp only [Tb.of, ta_impl_FormBatch] at h
    split at h
    · rename_i e; subst e; cases h; exact sn_impl_ValidBatch
    split at h
    · rename_i e; subst e; cases h; exact sn_impl_be
    cases h
  inl := fun f fn h => by
    simp only [ta_impl_FormBatch] at h
    split at h
    · rename_i e; subst e; cases h; exact ⟨Try.func83, by kernel_rfl, by kernel_rfl⟩
    cases h
  cc := fun f BT h => by cases h; exact ⟨⟨_, Try.func119, by kernel_rfl, by kernel_rfl⟩, cc_seat⟩
  st := fun f BT e h => by cases h; exact ⟨⟨_, Try.func85, by kernel_rfl, by kernel_rfl⟩, st_seat⟩
theorem lk_impl_FormBatch_6 {R : Type} : LoopOk Try.prog R 45 0 pa_impl_FormBatch L_impl_FormBatch co_impl_FormBatch_6 :=
  loop_key (cfg := ⟨ta_impl_FormBatch, 0, 45, pa_impl_FormBatch⟩) (key := 6) (by kernel_rfl) (by kernel_rfl) si_impl_FormBatch rfl rfl (fun d k r h => ⟨fu_impl_FormBatch_6 d.1 d.2.1 d.2.2.1 d.2.2.2.1, (lp_impl_FormBatch_6 _ d k).trans h⟩) (fun c hc => by rw [show loopsIn co_impl_FormBatch_6 = [] from by kernel_rfl] at hc; cases hc)
theorem sn_impl_FormBatch : Callable Try.prog 31 ∧ Sound Try.prog 31 sd_impl_FormBatch.sg sd_impl_FormBatch.den :=
  fn_loops (pat := pa_impl_FormBatch) L_impl_FormBatch (by kernel_rfl) si_impl_FormBatch Try.func31 (by kernel_rfl) (by kernel_rfl) (fun c hc => by rw [show loopsIn (bodyOf Try.f31) = [co_impl_FormBatch_6] from by kernel_rfl] at hc; simp only [List.mem_cons, List.not_mem_nil, or_false] at hc; rcases hc with rfl <;> first | exact lk_impl_FormBatch_6) fun x r h => by
    obtain ⟨a0, ⟨⟩⟩ := x; rw [← h]; exact (en_impl_FormBatch a0).trans (eq_impl_FormBatch a0)
def m_laws_eqChange (a b : ByteArray × ByteArray × Bool × Unit) : Option Bool := eqM (.pair .str (.pair .str (.pair .bool .unit))) a b
def sg_laws_eqChange : Sig := ⟨[.rd (.pair .str (.pair .str (.pair .bool .unit))), .rd (.pair .str (.pair .str (.pair .bool .unit)))], [some 3, some 3], [.rd .bool], [none]⟩
noncomputable def sd_laws_eqChange : SD := ⟨sg_laws_eqChange, fun x => (m_laws_eqChange x.1 x.2.1).bind fun r => some ((r, ()), (()))⟩
noncomputable def ta_laws_eqChange : Tb := Tb.of fun f => none
def pa_laws_eqChange : Nat → Pat × (Nat → Pat) := fun k => (⟨[], [], []⟩, fun _ => ⟨[], [], []⟩)
noncomputable def de_laws_eqChange (a0 : ByteArray × ByteArray × Bool × Unit) (a1 : ByteArray × ByteArray × Bool × Unit) : Option ((((Bool) × Unit) × (Unit))) :=
  bif !ByteArray.toList a0.fst == ByteArray.toList a1.fst then some ((false, ()), ())
  else bif !ByteArray.toList a0.snd.fst == ByteArray.toList a1.snd.fst then some ((false, ()), ()) else bif !a0.snd.snd.fst == a1.snd.snd.fst then some ((false, ()), ()) else some ((true, ()), ())
theorem eq_laws_eqChange (a0 : ByteArray × ByteArray × Bool × Unit) (a1 : ByteArray × ByteArray × Bool × Unit) r (h : m_laws_eqChange a0 a1 = some r) : de_laws_eqChange a0 a1 = some ((r, ()), (())) := by
  obtain ⟨hc, hd, rfl⟩ := eqM_some (t := (.pair .str (.pair .str (.pair .bool .unit)))) h
  obtain ⟨hc0, hc1, hc2, _⟩ : fineB .str a0.1 = true ∧ fineB .str a0.2.1 = true ∧ fineB .bool a0.2.2.1 = true ∧ True := by
    have s := hc
    obtain ⟨h0, s⟩ := fineB_pair s
    obtain ⟨h1, s⟩ := fineB_pair s
    obtain ⟨h2, s⟩ := fineB_pair s
    exact ⟨h0, h1, h2, trivial⟩
  obtain ⟨hd0, hd1, hd2, _⟩ : fineB .str a1.1 = true ∧ fineB .str a1.2.1 = true ∧ fineB .bool a1.2.2.1 = true ∧ True := by
    have s := hd
    obtain ⟨h0, s⟩ := fineB_pair s
    obtain ⟨h1, s⟩ := fineB_pair s
    obtain ⟨h2, s⟩ := fineB_pair s
    exact ⟨h0, h1, h2, trivial⟩
  unfold de_laws_eqChange
  have e0 : (!(ByteArray.toList a0.1 == ByteArray.toList a1.1)) = !eqS a0.1 a1.1 := rfl
  have e1 : (!(ByteArray.toList a0.2.1 == ByteArray.toList a1.2.1)) = !eqS a0.2.1 a1.2.1 := rfl
  have e2 : (!(a0.2.2.1 == a1.2.2.1)) = !eqO a0.2.2.1 a1.2.2.1 := rfl
  simp only [e0, e1, e2, Option.bind_some]
  show _ = some (((eqS a0.1 a1.1 && (eqS a0.2.1 a1.2.1 && (eqO a0.2.2.1 a1.2.2.1 && true))), ()), ())
  generalize eqS a0.1 a1.1 = p0
  generalize eqS a0.2.1 a1.2.1 = p1
  generalize eqO a0.2.2.1 a1.2.2.1 = p2
  cases p0 <;> cases p1 <;> cases p2 <;> rfl
theorem en_laws_eqChange (a0 : ByteArray × ByteArray × Bool × Unit) (a1 : ByteArray × ByteArray × Bool × Unit) : evalF Try.prog ta_laws_eqChange pa_laws_eqChange sg_laws_eqChange Try.f86 noL (a0, a1, ()) = de_laws_eqChange a0 a1 := by kernel_rfl
theorem si_laws_eqChange : SigsOk Try.prog ta_laws_eqChange := SigsOk.of fun f sd h => by
  try dsimp only [Tb.of, ta_laws_eqChange] at h
  cases h
theorem sn_laws_eqChange : Callable Try.prog 86 ∧ Sound Try.prog 86 sd_laws_eqChange.sg sd_laws_eqChange.den :=
  fn_plain (pat := pa_laws_eqChange) (by kernel_rfl) si_laws_eqChange Try.func86 (by kernel_rfl) (by kernel_rfl) (by kernel_rfl) fun x r h => by
    obtain ⟨a0, a1, ⟨⟩⟩ := x; obtain ⟨y, h1, h2⟩ := Option.bind_eq_some_iff.1 (show (m_laws_eqChange a0 a1).bind (fun r => some ((r, ()), (()))) = some r from h); cases h2; exact (en_laws_eqChange a0 a1).trans (eq_laws_eqChange a0 a1 _ h1)
def m_laws_eqChangeS (a b : List (ByteArray × ByteArray × Bool × Unit)) : Option Bool := eqM (.sl (.pair .str (.pair .str (.pair .bool .unit)))) a b
def sg_laws_eqChangeS : Sig := ⟨[.rd (.sl (.pair .str (.pair .str (.pair .bool .unit)))), .rd (.sl (.pair .str (.pair .str (.pair .bool .unit))))], [none, none], [.rd .bool], [none]⟩
noncomputable def sd_laws_eqChangeS : SD := ⟨sg_laws_eqChangeS, fun x => (m_laws_eqChangeS x.1 x.2.1).bind fun r => some ((r, ()), (()))⟩
noncomputable def ta_laws_eqChangeS : Tb := Tb.of fun f => if f = 86 then some sd_laws_eqChange else none
def pa_laws_eqChangeS : Nat → Pat × (Nat → Pat) := fun k => if k = 5 then (⟨[.sl 0 0 (.pair .str (.pair .str (.pair .bool .unit))), .sl 1 0 (.pair .str (.pair .str (.pair .bool .unit)))], [(0, .lf (.d (.sl (.pair .str (.pair .str (.pair .bool .unit)))))), (1, .lf (.d (.sl (.pair .str (.pair .str (.pair .bool .unit)))))), (5, .lf (.d (.int .i64)))], []⟩, fun e => if e = 1 then ⟨[], [(4, .lf (.d .bool))], []⟩ else if e = 2 then ⟨[], [], []⟩ else ⟨[], [], []⟩) else (⟨[], [], []⟩, fun _ => ⟨[], [], []⟩)
noncomputable def co_laws_eqChangeS_5 : Code := (loopsIn (bodyOf Try.f32)).getD 0 .skip
def fu_laws_eqChangeS_5 (v0 : List (ByteArray × ByteArray × Bool × Unit)) (v1 : List (ByteArray × ByteArray × Bool × Unit)) (v5 : Int) : Nat := ((v0.length : Int) - v5).toNat + 1
noncomputable def tr_laws_eqChangeS_5 {R : Type}  (NX : ((List (ByteArray × ByteArray × Bool × Unit)) × (List (ByteArray × ByteArray × Bool × Unit)) × (Int) × Unit) → Option R) (X2 : (Unit) → Option R) (X1 : ((Bool) × Unit) → Option R) (v0 : List (ByteArray × ByteArray × Bool × Unit)) (v1 : List (ByteArray × ByteArray × Bool × Unit)) (v5 : Int) : Option R :=
  bif decide (v5 < nI (List.length v0)) then
    bif decide (0 ≤ v5) then
      bif decide (v5 < nI (List.length v0)) then
        bif decide (0 ≤ v5) then
          bif decide (v5 < nI (List.length v1)) then
            Option.bind
              (Option.bind
                (m_laws_eqChange
                  ((List.getD v0 (Int.toNat v5) (ByteArray.mk #[], ByteArray.mk #[], false, ())).fst, (List.getD v0 (Int.toNat v5) (ByteArray.mk #[], ByteArray.mk #[], false, ())).snd.fst,
                    (List.getD v0 (Int.toNat v5) (ByteArray.mk #[], ByteArray.mk #[], false, ())).snd.snd.fst, ())
                  ((List.getD v1 (Int.toNat v5) (ByteArray.mk #[], ByteArray.mk #[], false, ())).fst, (List.getD v1 (Int.toNat v5) (ByteArray.mk #[], ByteArray.mk #[], false, ())).snd.fst,
                    (List.getD v1 (Int.toNat v5) (ByteArray.mk #[], ByteArray.mk #[], false, ())).snd.snd.fst, ()))
                fun val => some ((val, ()), ()))
              fun val => bif !val.fst.fst then X1 (false, ()) else NX (v0, v1, IntKind.wrap IntKind.i64 (v5 + 1), ())
          else none
        else none
      else none
    else none
  else X2 PUnit.unit
noncomputable def lo_laws_eqChangeS_5 : Nat → (List (ByteArray × ByteArray × Bool × Unit)) → (List (ByteArray × ByteArray × Bool × Unit)) → (Int) →  Option ((Unit) ⊕ ((Bool) × Unit))
  | 0, _, _, _ => none
  | m + 1, v0, v1, v5 => tr_laws_eqChangeS_5  (fun d => lo_laws_eqChangeS_5 m d.1 d.2.1 d.2.2.1) (fun d => some (.inl (d))) (fun d => some (.inr (d))) v0 v1 v5
theorem na_laws_eqChangeS_5 {R S : Type}  (NX : ((List (ByteArray × ByteArray × Bool × Unit)) × (List (ByteArray × ByteArray × Bool × Unit)) × (Int) × Unit) → Option R) (X2 : (Unit) → Option R) (X1 : ((Bool) × Unit) → Option R) (v0 : List (ByteArray × ByteArray × Bool × Unit)) (v1 : List (ByteArray × ByteArray × Bool × Unit)) (v5 : Int) (f : R → Option S) : tr_laws_eqChangeS_5  (fun d => (NX d).bind f) (fun d => (X2 d).bind f) (fun d => (X1 d).bind f) v0 v1 v5 = (tr_laws_eqChangeS_5  NX X2 X1 v0 v1 v5).bind f := by
  unfold tr_laws_eqChangeS_5
  simp only [cond_bind, ite_bind, onSum_bind, Option.bind_assoc, Option.bind_none, Option.bind_some]
noncomputable def de_laws_eqChangeS (a0 : List (ByteArray × ByteArray × Bool × Unit)) (a1 : List (ByteArray × ByteArray × Bool × Unit)) : Option ((((Bool) × Unit) × (Unit))) :=
  bif nI (List.length a0) != nI (List.length a1) then some ((false, ()), ())
  else Option.bind ((fun d => lo_laws_eqChangeS_5 (fu_laws_eqChangeS_5 d.1 d.2.1 d.2.2.1) d.1 d.2.1 d.2.2.1) (a0, a1, 0, ())) fun val => onSum (fun val => some ((true, ()), ())) (fun val => some ((val.fst, ()), ())) val
theorem eq_laws_eqChangeS (a0 : List (ByteArray × ByteArray × Bool × Unit)) (a1 : List (ByteArray × ByteArray × Bool × Unit)) r (h : m_laws_eqChangeS a0 a1 = some r) : de_laws_eqChangeS a0 a1 = some ((r, ()), (())) := by
  obtain ⟨hc, hd, rfl⟩ := eqM_some (t := .sl (.pair .str (.pair .str (.pair .bool .unit)))) h
  obtain ⟨hlx0, hx⟩ := fineB_sl hc
  obtain ⟨hly0, hy⟩ := fineB_sl hd
  have hlx : a0.length < 1152921504606846976 := hlx0
  have hly : a1.length < 1152921504606846976 := hly0
  clear hlx0 hly0 hc hd h
  · unfold de_laws_eqChangeS
    by_cases hl : a1.length = a0.length
    · have c1 : (nI a0.length != nI a1.length) = false := by simp [nI, hl]
      have hL := eq_loop (xs := a0) (ys := a1) ((ByteArray.mk #[]), (ByteArray.mk #[]), false, ()) (fun x y : ByteArray × ByteArray × Bool × Unit => eqB (.pair .str (.pair .str (.pair .bool .unit))) x y) (g := fun m i => lo_laws_eqChangeS_5 m a0 a1 i) (ok := .inl ()) (bad := .inr (false, ())) hl (fun m i hi => by
        show lo_laws_eqChangeS_5 (m + 1) a0 a1 i = _
        simp only [lo_laws_eqChangeS_5, tr_laws_eqChangeS_5]
        rw [cLt hi, cLe0, cLt (show i < a1.length by omega), wI (by omega)]
        simp only [cond_true, Int.toNat_natCast]
        have f1 : fineB (.pair .str (.pair .str (.pair .bool .unit))) (List.getD (α := ByteArray × ByteArray × Bool × Unit) a0 i ((ByteArray.mk #[]), (ByteArray.mk #[]), false, ())) = true := hx _ (getD_mem ((ByteArray.mk #[]), (ByteArray.mk #[]), false, ()) hi)
        have f2 : fineB (.pair .str (.pair .str (.pair .bool .unit))) (List.getD (α := ByteArray × ByteArray × Bool × Unit) a1 i ((ByteArray.mk #[]), (ByteArray.mk #[]), false, ())) = true := hy _ (getD_mem ((ByteArray.mk #[]), (ByteArray.mk #[]), false, ()) (by omega))
        have hE : m_laws_eqChange ((List.getD (α := ByteArray × ByteArray × Bool × Unit) a0 i ((ByteArray.mk #[]), (ByteArray.mk #[]), false, ())).fst, (List.getD (α := ByteArray × ByteArray × Bool × Unit) a0 i ((ByteArray.mk #[]), (ByteArray.mk #[]), false, ())).snd.fst, (List.getD (α := ByteArray × ByteArray × Bool × Unit) a0 i ((ByteArray.mk #[]), (ByteArray.mk #[]), false, ())).snd.snd.fst, ()) ((List.getD (α := ByteArray × ByteArray × Bool × Unit) a1 i ((ByteArray.mk #[]), (ByteArray.mk #[]), false, ())).fst, (List.getD (α := ByteArray × ByteArray × Bool × Unit) a1 i ((ByteArray.mk #[]), (ByteArray.mk #[]), false, ())).snd.fst, (List.getD (α := ByteArray × ByteArray × Bool × Unit) a1 i ((ByteArray.mk #[]), (ByteArray.mk #[]), false, ())).snd.snd.fst, ()) = some (eqB (.pair .str (.pair .str (.pair .bool .unit))) (List.getD (α := ByteArray × ByteArray × Bool × Unit) a0 i ((ByteArray.mk #[]), (ByteArray.mk #[]), false, ())) (List.getD (α := ByteArray × ByteArray × Bool × Unit) a1 i ((ByteArray.mk #[]), (ByteArray.mk #[]), false, ()))) := by
          exact eqM_is (t := (.pair .str (.pair .str (.pair .bool .unit)))) (x := (List.getD (α := ByteArray × ByteArray × Bool × Unit) a0 i ((ByteArray.mk #[]), (ByteArray.mk #[]), false, ()))) (y := (List.getD (α := ByteArray × ByteArray × Bool × Unit) a1 i ((ByteArray.mk #[]), (ByteArray.mk #[]), false, ()))) f1 f2
        rw [hE]
        cases q : eqB (.pair .str (.pair .str (.pair .bool .unit))) (List.getD (α := ByteArray × ByteArray × Bool × Unit) a0 i ((ByteArray.mk #[]), (ByteArray.mk #[]), false, ())) (List.getD (α := ByteArray × ByteArray × Bool × Unit) a1 i ((ByteArray.mk #[]), (ByteArray.mk #[]), false, ())) <;> simp only [Option.bind_some, q] <;> rfl) (fun m => by
        show lo_laws_eqChangeS_5 (m + 1) a0 a1 a0.length = _
        simp only [lo_laws_eqChangeS_5, tr_laws_eqChangeS_5]
        rw [cLtF]
        rfl) (fu_laws_eqChangeS_5 a0 a1 0) 0 (by omega) (by simp [fu_laws_eqChangeS_5])
      rw [c1]
      have hL' : lo_laws_eqChangeS_5 (fu_laws_eqChangeS_5 a0 a1 0) a0 a1 0 = _ := hL
      show (lo_laws_eqChangeS_5 (fu_laws_eqChangeS_5 a0 a1 0) a0 a1 0).bind _ = some ((eqL (α := ByteArray × ByteArray × Bool × Unit) (fun x y : ByteArray × ByteArray × Bool × Unit => eqB (.pair .str (.pair .str (.pair .bool .unit))) x y) a0 a1, ()), ())
      rw [hL', List.drop_zero, List.drop_zero]
      cases eqL (α := ByteArray × ByteArray × Bool × Unit) (fun x y : ByteArray × ByteArray × Bool × Unit => eqB (.pair .str (.pair .str (.pair .bool .unit))) x y) a0 a1 <;> rfl
    · have c1 : (nI a0.length != nI a1.length) = true := by simp [nI]; omega
      rw [c1]
      show _ = some ((eqL (α := ByteArray × ByteArray × Bool × Unit) (fun x y : ByteArray × ByteArray × Bool × Unit => eqB (.pair .str (.pair .str (.pair .bool .unit))) x y) a0 a1, ()), ())
      rw [eqL_len (fun q => hl q.symm)]
      rfl
noncomputable def ou_laws_eqChangeS_5 {R : Type} (k : Kt R) : ((Unit) ⊕ ((Bool) × Unit)) → Option R := (onSum (fun d => k (.exit 0) (((pa_laws_eqChangeS 5).2 2).st d) (((pa_laws_eqChangeS 5).2 2).nid)) (fun d => k .ret (((pa_laws_eqChangeS 5).2 1).st d) (((pa_laws_eqChangeS 5).2 1).nid)))
noncomputable def L_laws_eqChangeS {R : Type} : Lt R pa_laws_eqChangeS := (addL (pat := pa_laws_eqChangeS) 5 (fun d k => (lo_laws_eqChangeS_5 (fu_laws_eqChangeS_5 d.1 d.2.1 d.2.2.1) d.1 d.2.1 d.2.2.1).bind (ou_laws_eqChangeS_5 k)) noL)
theorem rd_laws_eqChangeS_5 {R : Type} (nx : (pa_laws_eqChangeS 5).1.D → Kt R → Option R) (k : Kt R) (v0 : List (ByteArray × ByteArray × Bool × Unit)) (v1 : List (ByteArray × ByteArray × Bool × Unit)) (v5 : Int) : ev Try.prog ⟨ta_laws_eqChangeS, 0, 27, pa_laws_eqChangeS⟩ L_laws_eqChangeS co_laws_eqChangeS_5 ((pa_laws_eqChangeS 5).1.st (v0, v1, v5, ())) (pa_laws_eqChangeS 5).1.nid (roundK 0 (pa_laws_eqChangeS 5) nx k) = tr_laws_eqChangeS_5  (fun d => nx d k) (fun d => k (.exit 0) (((pa_laws_eqChangeS 5).2 2).st d) (((pa_laws_eqChangeS 5).2 2).nid)) (fun d => k .ret (((pa_laws_eqChangeS 5).2 1).st d) (((pa_laws_eqChangeS 5).2 1).nid)) v0 v1 v5 := by kernel_rfl
theorem lp_laws_eqChangeS_5 {R : Type} : ∀ (m : Nat) (d : (pa_laws_eqChangeS 5).1.D) (k : Kt R), loopN 0 (pa_laws_eqChangeS 5) (fun s nid k => ev Try.prog ⟨ta_laws_eqChangeS, 0, 27, pa_laws_eqChangeS⟩ L_laws_eqChangeS co_laws_eqChangeS_5 s nid k) m d k = (lo_laws_eqChangeS_5 m d.1 d.2.1 d.2.2.1).bind (ou_laws_eqChangeS_5 k)
  | 0, _, _ => rfl
  | m + 1, ⟨v0, v1, v5, ⟨⟩⟩, k => (rd_laws_eqChangeS_5 _ k v0 v1 v5).trans ((congrArg (fun F => tr_laws_eqChangeS_5  F (fun d => k (.exit 0) (((pa_laws_eqChangeS 5).2 2).st d) (((pa_laws_eqChangeS 5).2 2).nid)) (fun d => k .ret (((pa_laws_eqChangeS 5).2 1).st d) (((pa_laws_eqChangeS 5).2 1).nid)) v0 v1 v5) (funext fun d => lp_laws_eqChangeS_5 m d k)).trans (na_laws_eqChangeS_5 (f := ou_laws_eqChangeS_5 k)  (fun d => lo_laws_eqChangeS_5 m d.1 d.2.1 d.2.2.1) (fun d => some (.inl (d))) (fun d => some (.inr (d))) v0 v1 v5))
theorem en_laws_eqChangeS (a0 : List (ByteArray × ByteArray × Bool × Unit)) (a1 : List (ByteArray × ByteArray × Bool × Unit)) : evalF Try.prog ta_laws_eqChangeS pa_laws_eqChangeS sg_laws_eqChangeS Try.f32 L_laws_eqChangeS (a0, a1, ()) = de_laws_eqChangeS a0 a1 := by kernel_rfl
theorem si_laws_eqChangeS : SigsOk Try.prog ta_laws_eqChangeS := SigsOk.of fun f sd h => by
  try dsimp only [Tb.of, ta_laws_eqChangeS] at h
  split at h
  · rename_i e; subst e; cases h; exact sn_laws_eqChange
  cases h
theorem lk_laws_eqChangeS_5 {R : Type} : LoopOk Try.prog R 27 0 pa_laws_eqChangeS L_laws_eqChangeS co_laws_eqChangeS_5 :=
  loop_key (cfg := ⟨ta_laws_eqChangeS, 0, 27, pa_laws_eqChangeS⟩) (key := 5) (by kernel_rfl) (by kernel_rfl) si_laws_eqChangeS rfl rfl (fun d k r h => ⟨fu_laws_eqChangeS_5 d.1 d.2.1 d.2.2.1, (lp_laws_eqChangeS_5 _ d k).trans h⟩) (fun c hc => by rw [show loopsIn co_laws_eqChangeS_5 = [] from by kernel_rfl] at hc; cases hc)
theorem sn_laws_eqChangeS : Callable Try.prog 32 ∧ Sound Try.prog 32 sd_laws_eqChangeS.sg sd_laws_eqChangeS.den :=
  fn_loops (pat := pa_laws_eqChangeS) L_laws_eqChangeS (by kernel_rfl) si_laws_eqChangeS Try.func32 (by kernel_rfl) (by kernel_rfl) (fun c hc => by rw [show loopsIn (bodyOf Try.f32) = [co_laws_eqChangeS_5] from by kernel_rfl] at hc; simp only [List.mem_cons, List.not_mem_nil, or_false] at hc; rcases hc with rfl <;> first | exact lk_laws_eqChangeS_5) fun x r h => by
    obtain ⟨a0, a1, ⟨⟩⟩ := x; obtain ⟨y, h1, h2⟩ := Option.bind_eq_some_iff.1 (show (m_laws_eqChangeS a0 a1).bind (fun r => some ((r, ()), (()))) = some r from h); cases h2; exact (en_laws_eqChangeS a0 a1).trans (eq_laws_eqChangeS a0 a1 _ h1)
def sg_laws_FnExactFormBatch : Sig := ⟨[.rd (.sl (.pair .str (.pair .str (.pair .bool .unit))))], [none], [.rd .bool], [none]⟩
noncomputable def ta_laws_FnExactFormBatch : Tb := Tb.of fun f => if f = 28 then some sd_laws_szChangeS else if f = 29 then some sd_spec_FormBatch else if f = 30 then some sd_laws_toChangeS else if f = 31 then some sd_impl_FormBatch else if f = 32 then some sd_laws_eqChangeS else none
def pa_laws_FnExactFormBatch : Nat → Pat × (Nat → Pat) := fun k => (⟨[], [], []⟩, fun _ => ⟨[], [], []⟩)
noncomputable def de_laws_FnExactFormBatch (a0 : List (ByteArray × ByteArray × Bool × Unit)) : Option ((((Bool) × Unit) × (Unit))) :=
  Option.bind (Option.bind (m_laws_szChangeS a0 1048576) fun val => some ((val, ()), ())) fun val =>
    bif decide (val.fst.fst < 0) then some ((true, ()), ())
    else
      Option.bind (Option.bind (m_laws_toChangeS a0) fun val => some ((val, ()), ())) fun val =>
        Option.bind (Option.bind (m_laws_toChangeS a0) fun val => some ((val, ()), ())) fun val_1 =>
          bif !ByteArray.toList (m_impl_FormBatch val_1.fst.fst) == ByteArray.toList (m_spec_FormBatch val.fst.fst) then some ((false, ()), ())
          else
            Option.bind (Option.bind (m_laws_toChangeS a0) fun val => some ((val, ()), ())) fun val =>
              Option.bind (Option.bind (m_laws_eqChangeS val_1.fst.fst val.fst.fst) fun val => some ((val, ()), ())) fun val => bif !val.fst.fst then some ((false, ()), ()) else some ((true, ()), ())
noncomputable def sd_laws_FnExactFormBatch : SD := ⟨sg_laws_FnExactFormBatch, fun x => de_laws_FnExactFormBatch x.1⟩
theorem law_FnExactFormBatch (a0 : List (ByteArray × ByteArray × Bool × Unit)) (h0 : FineD (.sl (.pair .str (.pair .str (.pair .bool .unit)))) a0) : de_laws_FnExactFormBatch a0 = some ((true, ()), ()) := by
  have hf0 := fine_of h0
  unfold de_laws_FnExactFormBatch
  rcases sz_cases (l0 := 1048576) hf0 (by first | decide | assumption) (by first | decide | assumption) (m := m_laws_szChangeS a0 1048576) rfl with e0 | ⟨l0, e0, g0, k0, s0, q0⟩
  · simp only [e0, Option.bind_some, lt_m1, cond_true]
  · skip
    have t0 : m_laws_toChangeS a0 = some a0 := toM_is (t := (.sl (.pair .str (.pair .str (.pair .bool .unit))))) (x := a0) s0
    have u0 : m_laws_eqChangeS a0 a0 = some true := eqM_self (t := (.sl (.pair .str (.pair .str (.pair .bool .unit))))) (x := a0) hf0
    simp only [e0, q0, t0, u0, Option.bind_some, cond_false, cond_true, beq_self_eq_true, Bool.not_true, Bool.or_self, m_impl_FormBatch, m_spec_FormBatch]
theorem en_laws_FnExactFormBatch (a0 : List (ByteArray × ByteArray × Bool × Unit)) : evalF Try.prog ta_laws_FnExactFormBatch pa_laws_FnExactFormBatch sg_laws_FnExactFormBatch Try.f6 noL (a0, ()) = de_laws_FnExactFormBatch a0 := by kernel_rfl
theorem si_laws_FnExactFormBatch : SigsOk Try.prog ta_laws_FnExactFormBatch := SigsOk.of fun f sd h => by
  try dsimp only [Tb.of, ta_laws_FnExactFormBatch] at h
  split at h
  · rename_i e; subst e; cases h; exact sn_laws_szChangeS
  split at h
  · rename_i e; subst e; cases h; exact sn_spec_FormBatch
  split at h
  · rename_i e; subst e; cases h; exact sn_laws_toChangeS
  split at h
  · rename_i e; subst e; cases h; exact sn_impl_FormBatch
  split at h
  · rename_i e; subst e; cases h; exact sn_laws_eqChangeS
  cases h
theorem sn_laws_FnExactFormBatch : Callable Try.prog 6 ∧ Sound Try.prog 6 sd_laws_FnExactFormBatch.sg sd_laws_FnExactFormBatch.den :=
  fn_plain (pat := pa_laws_FnExactFormBatch) (by kernel_rfl) si_laws_FnExactFormBatch Try.func6 (by kernel_rfl) (by kernel_rfl) (by kernel_rfl) fun x r h => by
    obtain ⟨a0, ⟨⟩⟩ := x; exact (en_laws_FnExactFormBatch a0).trans h
end Go.Proofs.Ytmhjcfgkheihdaa.V
