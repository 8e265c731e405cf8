/- What the functions that FnExactCompact reaches come to: part 2. No condition. -/
import Derived.Test.YteaoabdlcefkhaaVFnExactCompacta
import Derived.KernelRfl
namespace Go.Proofs.Yteaoabdlcefkhaa.V
open Go Go.Proofs.Yteaoabdlcefkhaa.R Go.Proofs
set_option maxRecDepth 100000
set_option linter.unusedVariables false
set_option linter.unusedSimpArgs false
def m_impl_ValidState (s : Stt) : Bool := validState s
def sg_impl_ValidState : Sig := ⟨[.rd (.pair (.sl (.pair .str (.pair .str .unit))) .unit)], [some 1], [.rd .bool], [none]⟩
noncomputable def sd_impl_ValidState : SD := ⟨sg_impl_ValidState, fun x => some (((m_impl_ValidState x.1), ()), (()))⟩
noncomputable def ta_impl_ValidState : Tb := Tb.of fun f => if f = 112 then some sd_impl_goodKey else none
def pa_impl_ValidState : Nat → Pat × (Nat → Pat) := fun k => if k = 5 then (⟨[.sl 10 0 (.pair .str (.pair .str .unit)), .boxSl 1 0 (.pair .str (.pair .str .unit))], [(1, .lf (.ptr 0 0)), (10, .lf (.d (.sl (.pair .str (.pair .str .unit))))), (11, .lf (.d (.int .i64))), (12, .lf (.d (.int .i64)))], [.box 33 [.d (.sl (.pair .str (.pair .str .unit)))]]⟩, fun e => if e = 1 then ⟨[], [(2, .lf (.d .bool))], []⟩ else if e = 2 then ⟨[], [], []⟩ else ⟨[], [], []⟩) else (⟨[], [], []⟩, fun _ => ⟨[], [], []⟩)
noncomputable def co_impl_ValidState_5 : Code := (loopsIn (bodyOf Try.f46)).getD 0 .skip
def fu_impl_ValidState_5 (v10 : List (ByteArray × ByteArray × Unit)) (v11 : Int) (v12 : Int) (b0_0 : List (ByteArray × ByteArray × Unit)) : Nat := (v11 - v12).toNat + 1
noncomputable def tr_impl_ValidState_5 {R : Type}  (NX : ((List (ByteArray × ByteArray × Unit)) × (Int) × (Int) × (List (ByteArray × ByteArray × Unit)) × Unit) → Option R) (X2 : (Unit) → Option R) (X1 : ((Bool) × Unit) → Option R) (v10 : List (ByteArray × ByteArray × Unit)) (v11 : Int) (v12 : Int) (b0_0 : List (ByteArray × ByteArray × Unit)) : Option R :=
  bif decide (v12 < v11) then
    bif decide (0 ≤ v12) then
      bif decide (v12 < nI (List.length v10)) then
        bif !m_impl_goodKey (List.getD v10 (Int.toNat v12) (ByteArray.mk #[], ByteArray.mk #[], ())).fst then X1 (false, ())
        else
          bif decide (nI (ByteArray.size (List.getD v10 (Int.toNat v12) (ByteArray.mk #[], ByteArray.mk #[], ())).snd.fst) > 100) then X1 (false, ())
          else
            bif decide (v12 > 0) then
              bif decide (0 ≤ IntKind.wrap IntKind.i64 (v12 - 1)) then
                bif decide (IntKind.wrap IntKind.i64 (v12 - 1) < nI (List.length b0_0)) then
                  bif
                      !Op.bytesLess (ByteArray.toList (List.getD b0_0 (Int.toNat (IntKind.wrap IntKind.i64 (v12 - 1))) (ByteArray.mk #[], ByteArray.mk #[], ())).fst)
                          (ByteArray.toList (List.getD v10 (Int.toNat v12) (ByteArray.mk #[], ByteArray.mk #[], ())).fst) then
                    X1 (false, ())
                  else NX (v10, v11, IntKind.wrap IntKind.i64 (v12 + 1), b0_0, ())
                else none
              else none
            else NX (v10, v11, IntKind.wrap IntKind.i64 (v12 + 1), b0_0, ())
      else none
    else none
  else X2 PUnit.unit
noncomputable def lo_impl_ValidState_5 : Nat → (List (ByteArray × ByteArray × Unit)) → (Int) → (Int) → (List (ByteArray × ByteArray × Unit)) →  Option ((Unit) ⊕ ((Bool) × Unit))
  | 0, _, _, _, _ => none
  | m + 1, v10, v11, v12, b0_0 => tr_impl_ValidState_5  (fun d => lo_impl_ValidState_5 m d.1 d.2.1 d.2.2.1 d.2.2.2.1) (fun d => some (.inl (d))) (fun d => some (.inr (d))) v10 v11 v12 b0_0
theorem na_impl_ValidState_5 {R S : Type}  (NX : ((List (ByteArray × ByteArray × Unit)) × (Int) × (Int) × (List (ByteArray × ByteArray × Unit)) × Unit) → Option R) (X2 : (Unit) → Option R) (X1 : ((Bool) × Unit) → Option R) (v10 : List (ByteArray × ByteArray × Unit)) (v11 : Int) (v12 : Int) (b0_0 : List (ByteArray × ByteArray × Unit)) (f : R → Option S) : tr_impl_ValidState_5  (fun d => (NX d).bind f) (fun d => (X2 d).bind f) (fun d => (X1 d).bind f) v10 v11 v12 b0_0 = (tr_impl_ValidState_5  NX X2 X1 v10 v11 v12 b0_0).bind f := by
  unfold tr_impl_ValidState_5
  simp only [cond_bind, ite_bind, onSum_bind, Option.bind_assoc, Option.bind_none, Option.bind_some]
noncomputable def de_impl_ValidState (a0 : (List (ByteArray × ByteArray × Unit)) × Unit) : Option ((((Bool) × Unit) × (Unit))) :=
  bif decide (nI (List.length a0.fst) > 100) then some ((false, ()), ())
  else Option.bind ((fun d => lo_impl_ValidState_5 (fu_impl_ValidState_5 d.1 d.2.1 d.2.2.1 d.2.2.2.1) d.1 d.2.1 d.2.2.1 d.2.2.2.1) (a0.fst, nI (List.length a0.fst), 0, a0.fst, ())) fun val => onSum (fun val => some ((true, ()), ())) (fun val => some ((val.fst, ()), ())) val
theorem eq_impl_ValidState (a0 : Stt) : de_impl_ValidState a0 = some ((m_impl_ValidState a0, ()), ()) := by
  unfold de_impl_ValidState m_impl_ValidState validState
  have c1 : decide (nI a0.1.length > 100) = !decide (a0.1.length ≤ 100) := gt100 _ 100
  by_cases hl : a0.1.length ≤ 100
  · have hL := all_loop (n := a0.1.length) (okPairAt a0.1) (g := fun m i => lo_impl_ValidState_5 m a0.1 (nI a0.1.length) i a0.1) (ok := .inl ()) (bad := .inr (false, ())) (fun m i hi => by
      show lo_impl_ValidState_5 (m + 1) a0.1 (nI a0.1.length) i a0.1 = _
      simp only [lo_impl_ValidState_5, tr_impl_ValidState_5]
      have g1 : decide (nI (ByteArray.size (List.getD a0.1 i (ByteArray.mk #[], ByteArray.mk #[], ())).2.1) > 100) = !decide (ByteArray.size (List.getD a0.1 i zP).2.1 ≤ 100) := gt100 _ 100
      rw [cLt hi, cLe0, wI (show i < 4611686018427387904 by omega), Int.toNat_natCast, gt0, g1]
      simp only [cond_true]
      unfold okPairAt bl
      show (bif !keyOk (List.getD a0.1 i zP).1 then _ else _) = _
      cases i with
      | zero =>
        show (bif !keyOk (List.getD a0.1 0 zP).1 then _ else bif !decide (ByteArray.size (List.getD a0.1 0 zP).2.1 ≤ 100) then _ else _) = _
        cases keyOk (List.getD a0.1 0 zP).1 <;> cases decide (ByteArray.size (List.getD a0.1 0 zP).2.1 ≤ 100) <;> rfl
      | succ j =>
        rw [wP j (by omega), cLe0, cLt (show j < a0.1.length by omega)]
        show (bif !keyOk (List.getD a0.1 (j + 1) zP).1 then _ else bif !decide (ByteArray.size (List.getD a0.1 (j + 1) zP).2.1 ≤ 100) then _ else bif !Op.bytesLess (ByteArray.toList (List.getD a0.1 j zP).1) (ByteArray.toList (List.getD a0.1 (j + 1) zP).1) then _ else _) = _
        rw [Nat.add_sub_cancel]
        cases keyOk (List.getD a0.1 (j + 1) zP).1 <;> cases decide (ByteArray.size (List.getD a0.1 (j + 1) zP).2.1 ≤ 100) <;> cases Op.bytesLess (ByteArray.toList (List.getD a0.1 j zP).1) (ByteArray.toList (List.getD a0.1 (j + 1) zP).1) <;> rfl) (fun m => by
      show lo_impl_ValidState_5 (m + 1) a0.1 (nI a0.1.length) (a0.1.length : Int) a0.1 = _
      simp only [lo_impl_ValidState_5, tr_impl_ValidState_5]
      rw [cLtF]
      rfl) (fu_impl_ValidState_5 a0.1 (nI a0.1.length) 0 a0.1) 0 (by omega) (by simp [fu_impl_ValidState_5, nI])
    have hL' : lo_impl_ValidState_5 (fu_impl_ValidState_5 a0.1 (nI a0.1.length) 0 a0.1) a0.1 (nI a0.1.length) 0 a0.1 = _ := hL
    rw [c1, decide_eq_true hl]
    show (lo_impl_ValidState_5 (fu_impl_ValidState_5 a0.1 (nI a0.1.length) 0 a0.1) a0.1 (nI a0.1.length) 0 a0.1).bind _ = _
    rw [hL']
    cases (List.range' 0 (a0.1.length - 0)).all (okPairAt a0.1) <;> rfl
  · rw [c1, decide_eq_false hl]
    rfl
noncomputable def ou_impl_ValidState_5 {R : Type} (k : Kt R) : ((Unit) ⊕ ((Bool) × Unit)) → Option R := (onSum (fun d => k (.exit 0) (((pa_impl_ValidState 5).2 2).st d) (((pa_impl_ValidState 5).2 2).nid)) (fun d => k .ret (((pa_impl_ValidState 5).2 1).st d) (((pa_impl_ValidState 5).2 1).nid)))
noncomputable def L_impl_ValidState {R : Type} : Lt R pa_impl_ValidState := (addL (pat := pa_impl_ValidState) 5 (fun d k => (lo_impl_ValidState_5 (fu_impl_ValidState_5 d.1 d.2.1 d.2.2.1 d.2.2.2.1) d.1 d.2.1 d.2.2.1 d.2.2.2.1).bind (ou_impl_ValidState_5 k)) noL)
theorem rd_impl_ValidState_5 {R : Type} (nx : (pa_impl_ValidState 5).1.D → Kt R → Option R) (k : Kt R) (v10 : List (ByteArray × ByteArray × Unit)) (v11 : Int) (v12 : Int) (b0_0 : List (ByteArray × ByteArray × Unit)) : ev Try.prog ⟨ta_impl_ValidState, 0, 44, pa_impl_ValidState⟩ L_impl_ValidState co_impl_ValidState_5 ((pa_impl_ValidState 5).1.st (v10, v11, v12, b0_0, ())) (pa_impl_ValidState 5).1.nid (roundK 0 (pa_impl_ValidState 5) nx k) = tr_impl_ValidState_5  (fun d => nx d k) (fun d => k (.exit 0) (((pa_impl_ValidState 5).2 2).st d) (((pa_impl_ValidState 5).2 2).nid)) (fun d => k .ret (((pa_impl_ValidState 5).2 1).st d) (((pa_impl_ValidState 5).2 1).nid)) v10 v11 v12 b0_0 := by kernel_rfl
theorem lp_impl_ValidState_5 {R : Type} : ∀ (m : Nat) (d : (pa_impl_ValidState 5).1.D) (k : Kt R), loopN 0 (pa_impl_ValidState 5) (fun s nid k => ev Try.prog ⟨ta_impl_ValidState, 0, 44, pa_impl_ValidState⟩ L_impl_ValidState co_impl_ValidState_5 s nid k) m d k = (lo_impl_ValidState_5 m d.1 d.2.1 d.2.2.1 d.2.2.2.1).bind (ou_impl_ValidState_5 k)
  | 0, _, _ => rfl
  | m + 1, ⟨v10, v11, v12, b0_0, ⟨⟩⟩, k => (rd_impl_ValidState_5 _ k v10 v11 v12 b0_0).trans ((congrArg (fun F => tr_impl_ValidState_5  F (fun d => k (.exit 0) (((pa_impl_ValidState 5).2 2).st d) (((pa_impl_ValidState 5).2 2).nid)) (fun d => k .ret (((pa_impl_ValidState 5).2 1).st d) (((pa_impl_ValidState 5).2 1).nid)) v10 v11 v12 b0_0) (funext fun d => lp_impl_ValidState_5 m d k)).trans (na_impl_ValidState_5 (f := ou_impl_ValidState_5 k)  (fun d => lo_impl_ValidState_5 m d.1 d.2.1 d.2.2.1 d.2.2.2.1) (fun d => some (.inl (d))) (fun d => some (.inr (d))) v10 v11 v12 b0_0))
theorem en_impl_ValidState (a0 : (List (ByteArray × ByteArray × Unit)) × Unit) : evalF Try.prog ta_impl_ValidState pa_impl_ValidState sg_impl_ValidState Try.f46 L_impl_ValidState (a0, ()) = de_impl_ValidState a0 := by kernel_rfl
theorem si_impl_ValidState : SigsOk Try.prog ta_impl_ValidState := SigsOk.of fun f sd h => by
  try dsimp only [Tb.of, ta_impl_ValidState] at h
  split at h
  · rename_i e; subst e; cases h; exact sn_impl_goodKey
  cases h
theorem lk_impl_ValidState_5 {R : Type} : LoopOk Try.prog R 44 0 pa_impl_ValidState L_impl_ValidState co_impl_ValidState_5 :=
  loop_key (cfg := ⟨ta_impl_ValidState, 0, 44, pa_impl_ValidState⟩) (key := 5) (by kernel_rfl) (by kernel_rfl) si_impl_ValidState rfl rfl (fun d k r h => ⟨fu_impl_ValidState_5 d.1 d.2.1 d.2.2.1 d.2.2.2.1, (lp_impl_ValidState_5 _ d k).trans h⟩) (fun c hc => by rw [show loopsIn co_impl_ValidState_5 = [] from by kernel_rfl] at hc; cases hc)
theorem sn_impl_ValidState : Callable Try.prog 46 ∧ Sound Try.prog 46 sd_impl_ValidState.sg sd_impl_ValidState.den :=
  fn_loops (pat := pa_impl_ValidState) L_impl_ValidState (by kernel_rfl) si_impl_ValidState Try.func46 (by kernel_rfl) (by kernel_rfl) (fun c hc => by rw [show loopsIn (bodyOf Try.f46) = [co_impl_ValidState_5] from by kernel_rfl] at hc; simp only [List.mem_cons, List.not_mem_nil, or_false] at hc; rcases hc with rfl <;> first | exact lk_impl_ValidState_5) fun x r h => by
    obtain ⟨a0, ⟨⟩⟩ := x; rw [← h]; exact (en_impl_ValidState a0).trans (eq_impl_ValidState a0)
def m_impl_Snapshot (s : Stt) : List (List Chg) := snapS s
def sg_impl_Snapshot : Sig := ⟨[.rd (.pair (.sl (.pair .str (.pair .str .unit))) .unit)], [some 1], [.rd (.sl (.sl (.pair .str (.pair .str (.pair .bool .unit)))))], [none]⟩
noncomputable def sd_impl_Snapshot : SD := ⟨sg_impl_Snapshot, fun x => some (((m_impl_Snapshot x.1), ()), (()))⟩
noncomputable def ta_impl_Snapshot : Tb := Tb.of fun f => if f = 46 then some sd_impl_ValidState else none
def pa_impl_Snapshot : Nat → Pat × (Nat → Pat) := fun k => if k = 6 then (⟨[.last 3 90 (.pair .str (.pair .str (.pair .bool .unit))), .sl 10 0 (.pair .str (.pair .str .unit))], [(3, .lf (.row 0)), (10, .lf (.d (.sl (.pair .str (.pair .str .unit))))), (11, .lf (.d (.int .i64))), (12, .lf (.d (.int .i64)))], [.last 83 (.pair .str (.pair .str (.pair .bool .unit))) 1, .row 90 (.pair .str (.pair .str (.pair .bool .unit)))]⟩, fun e => if e = 2 then ⟨[.last 3 90 (.pair .str (.pair .str (.pair .bool .unit)))], [(3, .lf (.row 0))], [.last 83 (.pair .str (.pair .str (.pair .bool .unit))) 1, .row 90 (.pair .str (.pair .str (.pair .bool .unit)))]⟩ else ⟨[], [], []⟩) else (⟨[], [], []⟩, fun _ => ⟨[], [], []⟩)
noncomputable def co_impl_Snapshot_6 : Code := (loopsIn (bodyOf Try.f42)).getD 0 .skip
def fu_impl_Snapshot_6 (v10 : List (ByteArray × ByteArray × Unit)) (v11 : Int) (v12 : Int) (r0 : List (List (ByteArray × ByteArray × Bool × Unit))) (c0 : Bool) (r1 : List (ByteArray × ByteArray × Bool × Unit)) : Nat := (v11 - v12).toNat + 1
noncomputable def tr_impl_Snapshot_6 {R : Type}  (NX : ((List (ByteArray × ByteArray × Unit)) × (Int) × (Int) × (List (List (ByteArray × ByteArray × Bool × Unit))) × (Bool) × (List (ByteArray × ByteArray × Bool × Unit)) × Unit) → Option R) (X2 : ((List (List (ByteArray × ByteArray × Bool × Unit))) × (Bool) × (List (ByteArray × ByteArray × Bool × Unit)) × Unit) → Option R) (v10 : List (ByteArray × ByteArray × Unit)) (v11 : Int) (v12 : Int) (r0 : List (List (ByteArray × ByteArray × Bool × Unit))) (c0 : Bool) (r1 : List (ByteArray × ByteArray × Bool × Unit)) : Option R :=
  bif decide (v12 < v11) then
    bif decide (0 ≤ v12) then
      bif decide (v12 < nI (List.length v10)) then
        bif Int.tmod v12 20 == 0 then
          bif decide ((List.length r0 + Bool.toNat c0 + 1) * 24 ≤ 140737488355328) then
            bif decide (0 ≤ IntKind.wrap IntKind.i64 (nI (List.length (bif c0 then r0 ++ [r1] else r0) + Bool.toNat true) - 1)) then
              bif decide (IntKind.wrap IntKind.i64 (nI (List.length (bif c0 then r0 ++ [r1] else r0) + Bool.toNat true) - 1) < nI (List.length (bif c0 then r0 ++ [r1] else r0) + Bool.toNat true)) then
                bif decide (Int.toNat (IntKind.wrap IntKind.i64 (nI (List.length (bif c0 then r0 ++ [r1] else r0) + Bool.toNat true) - 1)) = List.length (bif c0 then r0 ++ [r1] else r0)) then
                  bif decide (0 ≤ IntKind.wrap IntKind.i64 (nI (List.length (bif c0 then r0 ++ [r1] else r0) + Bool.toNat true) - 1)) then
                    bif
                        decide
                          (IntKind.wrap IntKind.i64 (nI (List.length (bif c0 then r0 ++ [r1] else r0) + Bool.toNat true) - 1) < nI (List.length (bif c0 then r0 ++ [r1] else r0) + Bool.toNat true)) then
                      bif decide (Int.toNat (IntKind.wrap IntKind.i64 (nI (List.length (bif c0 then r0 ++ [r1] else r0) + Bool.toNat true) - 1)) = List.length (bif c0 then r0 ++ [r1] else r0)) then
                        NX
                          (v10, v11, IntKind.wrap IntKind.i64 (v12 + 1), bif c0 then r0 ++ [r1] else r0, true,
                            [] ++
                              [((List.getD v10 (Int.toNat v12) (ByteArray.mk #[], ByteArray.mk #[], ())).fst, (List.getD v10 (Int.toNat v12) (ByteArray.mk #[], ByteArray.mk #[], ())).snd.fst, false,
                                  ())],
                            ())
                      else none
                    else none
                  else none
                else none
              else none
            else none
          else none
        else
          bif decide (0 ≤ IntKind.wrap IntKind.i64 (nI (List.length r0 + Bool.toNat c0) - 1)) then
            bif decide (IntKind.wrap IntKind.i64 (nI (List.length r0 + Bool.toNat c0) - 1) < nI (List.length r0 + Bool.toNat c0)) then
              bif c0 then
                bif decide (Int.toNat (IntKind.wrap IntKind.i64 (nI (List.length r0 + Bool.toNat c0) - 1)) = List.length r0) then
                  bif
                      decide
                        ((List.length r1 +
                              List.length
                                [((List.getD v10 (Int.toNat v12) (ByteArray.mk #[], ByteArray.mk #[], ())).fst, (List.getD v10 (Int.toNat v12) (ByteArray.mk #[], ByteArray.mk #[], ())).snd.fst, false,
                                    ())]) *
                            40 ≤
                          140737488355328) then
                    bif decide (0 ≤ IntKind.wrap IntKind.i64 (nI (List.length r0 + Bool.toNat c0) - 1)) then
                      bif decide (IntKind.wrap IntKind.i64 (nI (List.length r0 + Bool.toNat c0) - 1) < nI (List.length r0 + Bool.toNat c0)) then
                        bif c0 then
                          bif decide (Int.toNat (IntKind.wrap IntKind.i64 (nI (List.length r0 + Bool.toNat c0) - 1)) = List.length r0) then
                            NX
                              (v10, v11, IntKind.wrap IntKind.i64 (v12 + 1), r0, c0,
                                r1 ++
                                  [((List.getD v10 (Int.toNat v12) (ByteArray.mk #[], ByteArray.mk #[], ())).fst, (List.getD v10 (Int.toNat v12) (ByteArray.mk #[], ByteArray.mk #[], ())).snd.fst, false,
                                      ())],
                                ())
                          else none
                        else none
                      else none
                    else none
                  else none
                else none
              else none
            else none
          else none
      else none
    else none
  else X2 (r0, c0, r1, ())
noncomputable def lo_impl_Snapshot_6 : Nat → (List (ByteArray × ByteArray × Unit)) → (Int) → (Int) → (List (List (ByteArray × ByteArray × Bool × Unit))) → (Bool) → (List (ByteArray × ByteArray × Bool × Unit)) →  Option ((List (List (ByteArray × ByteArray × Bool × Unit))) × (Bool) × (List (ByteArray × ByteArray × Bool × Unit)) × Unit)
  | 0, _, _, _, _, _, _ => none
  | m + 1, v10, v11, v12, r0, c0, r1 => tr_impl_Snapshot_6  (fun d => lo_impl_Snapshot_6 m d.1 d.2.1 d.2.2.1 d.2.2.2.1 d.2.2.2.2.1 d.2.2.2.2.2.1) (fun d => some (d)) v10 v11 v12 r0 c0 r1
theorem na_impl_Snapshot_6 {R S : Type}  (NX : ((List (ByteArray × ByteArray × Unit)) × (Int) × (Int) × (List (List (ByteArray × ByteArray × Bool × Unit))) × (Bool) × (List (ByteArray × ByteArray × Bool × Unit)) × Unit) → Option R) (X2 : ((List (List (ByteArray × ByteArray × Bool × Unit))) × (Bool) × (List (ByteArray × ByteArray × Bool × Unit)) × Unit) → Option R) (v10 : List (ByteArray × ByteArray × Unit)) (v11 : Int) (v12 : Int) (r0 : List (List (ByteArray × ByteArray × Bool × Unit))) (c0 : Bool) (r1 : List (ByteArray × ByteArray × Bool × Unit)) (f : R → Option S) : tr_impl_Snapshot_6  (fun d => (NX d).bind f) (fun d => (X2 d).bind f) v10 v11 v12 r0 c0 r1 = (tr_impl_Snapshot_6  NX X2 v10 v11 v12 r0 c0 r1).bind f := by
  unfold tr_impl_Snapshot_6
  simp only [cond_bind, ite_bind, onSum_bind, Option.bind_assoc, Option.bind_none, Option.bind_some]
noncomputable def de_impl_Snapshot (a0 : (List (ByteArray × ByteArray × Unit)) × Unit) : Option ((((List (List (ByteArray × ByteArray × Bool × Unit))) × Unit) × (Unit))) :=
  bif !m_impl_ValidState (a0.fst, ()) then some (([], ()), ())
  else Option.bind ((fun d => lo_impl_Snapshot_6 (fu_impl_Snapshot_6 d.1 d.2.1 d.2.2.1 d.2.2.2.1 d.2.2.2.2.1 d.2.2.2.2.2.1) d.1 d.2.1 d.2.2.1 d.2.2.2.1 d.2.2.2.2.1 d.2.2.2.2.2.1) (a0.fst, nI (List.length a0.fst), 0, [], false, [], ())) fun val => some ((bif val.snd.fst then val.fst ++ [val.snd.snd.fst] else val.fst, ()), ())
theorem eq_impl_Snapshot (a0 : Stt) : de_impl_Snapshot a0 = some (((m_impl_Snapshot a0), ()), (())) := by
  unfold de_impl_Snapshot m_impl_Snapshot snapS
  show (bif !validState a0 then _ else _) = _
  cases hv : validState a0 with
  | false => rfl
  | true =>
    have hl := validState_len hv
    have hL := foldi_loop (xs := a0.1) zP SnapI snapStep (g := fun m i s => lo_impl_Snapshot_6 m a0.1 (nI a0.1.length) i s.1 s.2.1 s.2.2) (ok := fun s => (s.1, s.2.1, s.2.2, ())) (fun m i s hi hI => by
      show lo_impl_Snapshot_6 (m + 1) a0.1 (nI a0.1.length) i s.1 s.2.1 s.2.2 = _
      obtain ⟨r0, c0, r1⟩ := s
      obtain ⟨h1, h2, h3, h4⟩ := hI
      simp only at h2 h3 h4 ⊢
      simp only [lo_impl_Snapshot_6, tr_impl_Snapshot_6]
      rw [cLt hi, cLe0, wI (show i < 4611686018427387904 by omega), Int.toNat_natCast, tmod20]
      unfold snapStep
      cases hc : (i % 20 == 0)
      · have hp : 0 < i := Nat.pos_of_ne_zero fun q => by subst q; cases hc
        have hc0 := h3 hp
        subst hc0
        have e1 := lastIx r0.length (by omega)
        have e2 : decide ((r0.length : Int) < nI (r0.length + 1)) = true := cLt (Nat.lt_succ_self _)
        have e3 : decide ((r1.length + 1) * 40 ≤ 140737488355328) = true := decide_eq_true (by omega)
        simp only [Bool.toNat_true, List.length_singleton, cond_true, cond_false, e1, e2, e3, cLe0, Int.toNat_natCast, decide_true]
        rfl
      · have hL : List.length (bif c0 then r0 ++ [r1] else r0) ≤ i + 1 := by cases c0 <;> simp <;> omega
        have e1 := lastIx (List.length (bif c0 then r0 ++ [r1] else r0)) (by omega)
        have e2 : decide (((List.length (bif c0 then r0 ++ [r1] else r0) : Nat) : Int) < nI (List.length (bif c0 then r0 ++ [r1] else r0) + 1)) = true := cLt (Nat.lt_succ_self _)
        have e3 : decide ((r0.length + Bool.toNat c0 + 1) * 24 ≤ 140737488355328) = true := decide_eq_true (by cases c0 <;> simp <;> omega)
        simp only [Bool.toNat_true, cond_true, e1, e2, e3, cLe0, Int.toNat_natCast, decide_true]
        rfl) (fun i s hi hI => hI.step (by omega) _) (fun m s hI => by
      show lo_impl_Snapshot_6 (m + 1) a0.1 (nI a0.1.length) (a0.1.length : Int) s.1 s.2.1 s.2.2 = _
      simp only [lo_impl_Snapshot_6, tr_impl_Snapshot_6]
      rw [cLtF]
      rfl) (fu_impl_Snapshot_6 a0.1 (nI a0.1.length) 0 [] false []) 0 ([], false, []) (by omega) (by simp [fu_impl_Snapshot_6, nI]) ⟨by omega, by simp, fun q => by omega, by simp⟩
    have hL' : lo_impl_Snapshot_6 (fu_impl_Snapshot_6 a0.1 (nI a0.1.length) 0 [] false []) a0.1 (nI a0.1.length) 0 [] false [] = _ := hL
    show (lo_impl_Snapshot_6 (fu_impl_Snapshot_6 a0.1 (nI a0.1.length) 0 [] false []) a0.1 (nI a0.1.length) 0 [] false []).bind _ = _
    rw [hL']
    rfl
noncomputable def ou_impl_Snapshot_6 {R : Type} (k : Kt R) : ((List (List (ByteArray × ByteArray × Bool × Unit))) × (Bool) × (List (ByteArray × ByteArray × Bool × Unit)) × Unit) → Option R := (fun d => k (.exit 0) (((pa_impl_Snapshot 6).2 2).st d) (((pa_impl_Snapshot 6).2 2).nid))
noncomputable def L_impl_Snapshot {R : Type} : Lt R pa_impl_Snapshot := (addL (pat := pa_impl_Snapshot) 6 (fun d k => (lo_impl_Snapshot_6 (fu_impl_Snapshot_6 d.1 d.2.1 d.2.2.1 d.2.2.2.1 d.2.2.2.2.1 d.2.2.2.2.2.1) d.1 d.2.1 d.2.2.1 d.2.2.2.1 d.2.2.2.2.1 d.2.2.2.2.2.1).bind (ou_impl_Snapshot_6 k)) noL)
theorem rd_impl_Snapshot_6 {R : Type} (nx : (pa_impl_Snapshot 6).1.D → Kt R → Option R) (k : Kt R) (v10 : List (ByteArray × ByteArray × Unit)) (v11 : Int) (v12 : Int) (r0 : List (List (ByteArray × ByteArray × Bool × Unit))) (c0 : Bool) (r1 : List (ByteArray × ByteArray × Bool × Unit)) : ev Try.prog ⟨ta_impl_Snapshot, 0, 43, pa_impl_Snapshot⟩ L_impl_Snapshot co_impl_Snapshot_6 ((pa_impl_Snapshot 6).1.st (v10, v11, v12, r0, c0, r1, ())) (pa_impl_Snapshot 6).1.nid (roundK 0 (pa_impl_Snapshot 6) nx k) = tr_impl_Snapshot_6  (fun d => nx d k) (fun d => k (.exit 0) (((pa_impl_Snapshot 6).2 2).st d) (((pa_impl_Snapshot 6).2 2).nid)) v10 v11 v12 r0 c0 r1 := by kernel_rfl
theorem lp_impl_Snapshot_6 {R : Type} : ∀ (m : Nat) (d : (pa_impl_Snapshot 6).1.D) (k : Kt R), loopN 0 (pa_impl_Snapshot 6) (fun s nid k => ev Try.prog ⟨ta_impl_Snapshot, 0, 43, pa_impl_Snapshot⟩ L_impl_Snapshot co_impl_Snapshot_6 s nid k) m d k = (lo_impl_Snapshot_6 m d.1 d.2.1 d.2.2.1 d.2.2.2.1 d.2.2.2.2.1 d.2.2.2.2.2.1).bind (ou_impl_Snapshot_6 k)
  | 0, _, _ => rfl
  | m + 1, ⟨v10, v11, v12, r0, c0, r1, ⟨⟩⟩, k => (rd_impl_Snapshot_6 _ k v10 v11 v12 r0 c0 r1).trans ((congrArg (fun F => tr_impl_Snapshot_6  F (fun d => k (.exit 0) (((pa_impl_Snapshot 6).2 2).st d) (((pa_impl_Snapshot 6).2 2).nid)) v10 v11 v12 r0 c0 r1) (funext fun d => lp_impl_Snapshot_6 m d k)).trans (na_impl_Snapshot_6 (f := ou_impl_Snapshot_6 k)  (fun d => lo_impl_Snapshot_6 m d.1 d.2.1 d.2.2.1 d.2.2.2.1 d.2.2.2.2.1 d.2.2.2.2.2.1) (fun d => some (d)) v10 v11 v12 r0 c0 r1))
theorem en_impl_Snapshot (a0 : (List (ByteArray × ByteArray × Unit)) × Unit) : evalF Try.prog ta_impl_Snapshot pa_impl_Snapshot sg_impl_Snapshot Try.f42 L_impl_Snapshot (a0, ()) = de_impl_Snapshot a0 := by kernel_rfl
theorem si_impl_Snapshot : SigsOk Try.prog ta_impl_Snapshot := SigsOk.of fun f sd h => by
  try dsimp only [Tb.of, ta_impl_Snapshot] at h
  split at h
  · rename_i e; subst e; cases h; exact sn_impl_ValidState
  cases h
theorem lk_impl_Snapshot_6 {R : Type} : LoopOk Try.prog R 43 0 pa_impl_Snapshot L_impl_Snapshot co_impl_Snapshot_6 :=
  loop_key (cfg := ⟨ta_impl_Snapshot, 0, 43, pa_impl_Snapshot⟩) (key := 6) (by kernel_rfl) (by kernel_rfl) si_impl_Snapshot rfl rfl (fun d k r h => ⟨fu_impl_Snapshot_6 d.1 d.2.1 d.2.2.1 d.2.2.2.1 d.2.2.2.2.1 d.2.2.2.2.2.1, (lp_impl_Snapshot_6 _ d k).trans h⟩) (fun c hc => by rw [show loopsIn co_impl_Snapshot_6 = [] from by kernel_rfl] at hc; cases hc)
theorem sn_impl_Snapshot : Callable Try.prog 42 ∧ Sound Try.prog 42 sd_impl_Snapshot.sg sd_impl_Snapshot.den :=
  fn_loops (pat := pa_impl_Snapshot) L_impl_Snapshot (by kernel_rfl) si_impl_Snapshot Try.func42 (by kernel_rfl) (by kernel_rfl) (fun c hc => by rw [show loopsIn (bodyOf Try.f42) = [co_impl_Snapshot_6] from by kernel_rfl] at hc; simp only [List.mem_cons, List.not_mem_nil, or_false] at hc; rcases hc with rfl <;> first | exact lk_impl_Snapshot_6) fun x r h => by
    obtain ⟨a0, ⟨⟩⟩ := x; rw [← h]; exact (en_impl_Snapshot a0).trans (eq_impl_Snapshot a0)
def sg_impl_room : Sig := ⟨[.rd (.int .i64)], [none], [.rd (.int .i64)], [none]⟩
noncomputable def ta_impl_room : Tb := Tb.of fun f => none
def pa_impl_room : Nat → Pat × (Nat → Pat) := fun k => (⟨[], [], []⟩, fun _ => ⟨[], [], []⟩)
noncomputable def de_impl_room (a0 : Int) : Option ((((Int) × Unit) × (Unit))) :=
  some ((IntKind.wrap IntKind.i64 (IntKind.wrap IntKind.i64 (64 - a0) - 8), ()), ())
noncomputable def sd_impl_room : SD := ⟨sg_impl_room, fun x => de_impl_room x.1⟩
theorem en_impl_room (a0 : Int) : evalF Try.prog ta_impl_room pa_impl_room sg_impl_room Try.f109 noL (a0, ()) = de_impl_room a0 := by kernel_rfl
theorem si_impl_room : SigsOk Try.prog ta_impl_room := SigsOk.of fun f sd h => by
  try dsimp only [Tb.of, ta_impl_room] at h
  cases h
theorem sn_impl_room : Callable Try.prog 109 ∧ Sound Try.prog 109 sd_impl_room.sg sd_impl_room.den :=
  fn_plain (pat := pa_impl_room) (by kernel_rfl) si_impl_room Try.func109 (by kernel_rfl) (by kernel_rfl) (by kernel_rfl) fun x r h => by
    obtain ⟨a0, ⟨⟩⟩ := x; exact (en_impl_room a0).trans h
def m_impl_Pages (s : ByteArray) (w : Int) : Option Int := if s.size ≤ 1099511627776 then some (pagesN s.size w) else none
def sg_impl_Pages : Sig := ⟨[.rd .str, .rd (.int .i64)], [none, none], [.rd (.int .i64)], [none]⟩
noncomputable def sd_impl_Pages : SD := ⟨sg_impl_Pages, fun x => (m_impl_Pages x.1 x.2.1).bind fun r => some ((r, ()), (()))⟩
noncomputable def ta_impl_Pages : Tb := Tb.of fun f => if f = 67 then some sd_impl_in else if f = 109 then some sd_impl_room else none
def pa_impl_Pages : Nat → Pat × (Nat → Pat) := fun k => (⟨[], [], []⟩, fun _ => ⟨[], [], []⟩)
noncomputable def de_impl_Pages (a0 : ByteArray) (a1 : Int) : Option ((((Int) × Unit) × (Unit))) :=
  bif !m_impl_in a1 1 8 then some ((0, ()), ())
  else
    bif !decide (IntKind.wrap IntKind.i64 (IntKind.wrap IntKind.i64 (64 - a1) - 8) = 0) then
      some
        ((if
                IntKind.wrap IntKind.i64
                    (Int.tdiv (IntKind.wrap IntKind.i64 (IntKind.wrap IntKind.i64 (nI (ByteArray.size a0) + IntKind.wrap IntKind.i64 (IntKind.wrap IntKind.i64 (64 - a1) - 8)) - 1))
                      (IntKind.wrap IntKind.i64 (IntKind.wrap IntKind.i64 (64 - a1) - 8))) >
                  1 then
              IntKind.wrap IntKind.i64
                (Int.tdiv (IntKind.wrap IntKind.i64 (IntKind.wrap IntKind.i64 (nI (ByteArray.size a0) + IntKind.wrap IntKind.i64 (IntKind.wrap IntKind.i64 (64 - a1) - 8)) - 1))
                  (IntKind.wrap IntKind.i64 (IntKind.wrap IntKind.i64 (64 - a1) - 8)))
            else 1,
            ()),
          ())
    else none
theorem eq_impl_Pages (a0 : ByteArray) (a1 : Int) r (h : m_impl_Pages a0 a1 = some r) : de_impl_Pages a0 a1 = some ((r, ()), (())) := by
  unfold m_impl_Pages at h
  split at h
  · rename_i hc
    cases h
    unfold de_impl_Pages pagesN
    show (bif !inB a1 1 8 then _ else _) = _
    cases hw : inB a1 1 8 with
    | false => rfl
    | true =>
      have k1 := (inB_r hw).1
      have k2 := (inB_r hw).2
      have hq : 0 ≤ ((a0.size : Int) + (56 - a1) - 1) / (56 - a1) := Int.ediv_nonneg (by omega) (by omega)
      have hq2 : ((a0.size : Int) + (56 - a1) - 1) / (56 - a1) ≤ (a0.size : Int) + (56 - a1) - 1 := Int.ediv_le_self _ (by omega)
      rw [wrap_ok (n := 64 - a1) (by omega) (by omega), wrap_ok (n := 64 - a1 - 8) (by omega) (by omega), show 64 - a1 - 8 = 56 - a1 by omega]
      simp only [nI]
      rw [wrap_ok (n := (a0.size : Int) + (56 - a1)) (by omega) (by omega), wrap_ok (n := (a0.size : Int) + (56 - a1) - 1) (by omega) (by omega), Int.tdiv_eq_ediv_of_nonneg (by omega), wrap_ok (n := ((a0.size : Int) + (56 - a1) - 1) / (56 - a1)) (by omega) (by omega), decide_eq_false (show ¬ (56 - a1 = 0) by omega)]
      rfl
  · cases h
theorem en_impl_Pages (a0 : ByteArray) (a1 : Int) : evalF Try.prog ta_impl_Pages pa_impl_Pages sg_impl_Pages Try.f43 noL (a0, a1, ()) = de_impl_Pages a0 a1 := by kernel_rfl
theorem si_impl_Pages : SigsOk Try.prog ta_impl_Pages := SigsOk.of fun f sd h => by
  try dsimp only [Tb.of, ta_impl_Pages] at h
  split at h
  · rename_i e; subst e; cases h; exact sn_impl_in
  split at h
  · rename_i e; subst e; cases h; exact sn_impl_room
  cases h
theorem sn_impl_Pages : Callable Try.prog 43 ∧ Sound Try.prog 43 sd_impl_Pages.sg sd_impl_Pages.den :=
  fn_plain (pat := pa_impl_Pages) (by kernel_rfl) si_impl_Pages Try.func43 (by kernel_rfl) (by kernel_rfl) (by kernel_rfl) fun x r h => by
    obtain ⟨a0, a1, ⟨⟩⟩ := x; obtain ⟨y, h1, h2⟩ := Option.bind_eq_some_iff.1 (show (m_impl_Pages a0 a1).bind (fun r => some ((r, ()), (()))) = some r from h); cases h2; exact (en_impl_Pages a0 a1).trans (eq_impl_Pages a0 a1 _ h1)
def m_impl_be (v n : Int) : Option ByteArray := if 0 ≤ n ∧ n ≤ 1000 then some (beS v n.toNat) else none
def fu_impl_be_4 (v0 v6 : Int) (r0 : List Int) : Nat := v6.toNat + 2
def sg_impl_be : Sig := ⟨[.rd (.int .i64), .rd (.int .i64)], [none, none], [.rd .str], [none]⟩
noncomputable def sd_impl_be : SD := ⟨sg_impl_be, fun x => (m_impl_be x.1 x.2.1).bind fun r => some ((r, ()), (()))⟩
noncomputable def ta_impl_be : Tb := Tb.of fun f => none
def pa_impl_be : Nat → Pat × (Nat → Pat) := fun k => if k = 4 then (⟨[.row 5 0 5 (.int .u8)], [(0, .lf (.d (.int .i64))), (5, .lf (.row 0)), (6, .lf (.d (.int .i64)))], [.row 5 (.int .u8)]⟩, fun e => if e = 2 then ⟨[.row 5 0 5 (.int .u8)], [(5, .lf (.row 0))], [.row 5 (.int .u8)]⟩ else ⟨[], [], []⟩) else (⟨[], [], []⟩, fun _ => ⟨[], [], []⟩)
noncomputable def co_impl_be_4 : Code := (loopsIn (bodyOf Try.f90)).getD 0 .skip
noncomputable def tr_impl_be_4 {R : Type}  (NX : ((Int) × (Int) × (List Int) × Unit) → Option R) (X2 : ((List Int) × Unit) → Option R) (v0 : Int) (v6 : Int) (r0 : List Int) : Option R :=
  bif decide (v6 ≥ 0) then
    bif decide (0 ≤ v6) then
      bif decide (v6 < nI (List.length r0)) then
        bif decide (Int.toNat v6 < List.length r0) then NX (Int.fdiv v0 (2 ^ min (Int.toNat 8) 64), IntKind.wrap IntKind.i64 (v6 - 1), List.set r0 (Int.toNat v6) (IntKind.wrap IntKind.u8 v0), ())
        else none
      else none
    else none
  else X2 (r0, ())
noncomputable def lo_impl_be_4 : Nat → (Int) → (Int) → (List Int) →  Option ((List Int) × Unit)
  | 0, _, _, _ => none
  | m + 1, v0, v6, r0 => tr_impl_be_4  (fun d => lo_impl_be_4 m d.1 d.2.1 d.2.2.1) (fun d => some (d)) v0 v6 r0
theorem na_impl_be_4 {R S : Type}  (NX : ((Int) × (Int) × (List Int) × Unit) → Option R) (X2 : ((List Int) × Unit) → Option R) (v0 : Int) (v6 : Int) (r0 : List Int) (f : R → Option S) : tr_impl_be_4  (fun d => (NX d).bind f) (fun d => (X2 d).bind f) v0 v6 r0 = (tr_impl_be_4  NX X2 v0 v6 r0).bind f := by
  unfold tr_impl_be_4
  simp only [cond_bind, ite_bind, onSum_bind, Option.bind_assoc, Option.bind_none, Option.bind_some]
noncomputable def de_impl_be (a0 : Int) (a1 : Int) : Option ((((ByteArray) × Unit) × (Unit))) :=
  bif decide (a1 = a1) then
    bif decide (0 ≤ a1) then
      bif decide (Int.toNat a1 * 1 ≤ 140737488355328) then Option.bind ((fun d => lo_impl_be_4 (fu_impl_be_4 d.1 d.2.1 d.2.2.1) d.1 d.2.1 d.2.2.1) (a0, IntKind.wrap IntKind.i64 (a1 - 1), List.replicate (Int.toNat a1) 0, ())) fun val => some ((strOfNums val.fst, ()), ())
      else none
    else none
  else none
theorem be_loop : ∀ (k m : Nat) (v : Int) (l t : List Int), l.length = k → k ≤ 1000 → k < m → lo_impl_be_4 m v ((k : Int) - 1) (l ++ t) = some (digL v k ++ t, ())
  | 0, m + 1, v, l, t, hl, hk, hm => by
    obtain rfl : l = [] := List.length_eq_zero_iff.1 hl
    simp only [lo_impl_be_4, tr_impl_be_4]
    rw [decide_eq_false (by omega)]
    rfl
  | k + 1, m + 1, v, l, t, hl, hk, hm => by
    have e : (((k + 1 : Nat) : Int) - 1) = (k : Int) := by omega
    rw [e]
    simp only [lo_impl_be_4, tr_impl_be_4]
    have hlen : (l ++ t).length = k + 1 + t.length := by rw [List.length_append, hl]
    rw [decide_eq_true (show (k : Int) ≥ 0 by omega), decide_eq_true (show (k : Int) < nI (l ++ t).length by simp only [nI, hlen]; omega), decide_eq_true (show Int.toNat (k : Int) < (l ++ t).length by rw [hlen]; omega), wrap_ok (by omega) (by omega)]
    simp only [cond_true, Int.toNat_natCast]
    obtain ⟨l', x, rfl⟩ : ∃ l' x, l = l' ++ [x] := ⟨l.dropLast, l.getLast (by intro h; subst h; simp at hl), (List.dropLast_concat_getLast _).symm⟩
    have hl' : l'.length = k := by simpa using hl
    have hs : ((l' ++ [x]) ++ t).set k (IntKind.wrap IntKind.u8 v) = l' ++ (v % 256 :: t) := by
      rw [List.append_assoc, List.set_append_right _ _ (by omega), hl']
      simp only [Nat.sub_self, List.singleton_append, List.set_cons_zero]
      rfl
    rw [hs]
    have := be_loop k m (v / 256) l' (v % 256 :: t) hl' (by omega) (by omega)
    have e2 : Int.fdiv v (2 ^ min (Int.toNat 8) 64) = v / 256 := by
      show Int.fdiv v 256 = v / 256
      exact Int.fdiv_eq_ediv_of_nonneg _ (by omega)
    rw [e2, this]
    simp only [digL, List.append_assoc, List.singleton_append]
theorem eq_impl_be (a0 : Int) (a1 : Int) r (h : m_impl_be a0 a1 = some r) : de_impl_be a0 a1 = some ((r, ()), (())) := by
  unfold m_impl_be at h
  split at h
  · rename_i hc
    cases h
    obtain ⟨n, rfl⟩ : ∃ n : Nat, a1 = (n : Int) := ⟨a1.toNat, by omega⟩
    unfold de_impl_be
    rw [decide_eq_true rfl, decide_eq_true hc.1, decide_eq_true (show Int.toNat (n : Int) * 1 ≤ 140737488355328 by omega), wrap_ok (by omega) (by omega)]
    have hL := be_loop n (fu_impl_be_4 a0 ((n : Int) - 1) (List.replicate n 0)) a0 (List.replicate n 0) [] (by simp) (by omega) (by simp only [fu_impl_be_4]; omega)
    rw [List.append_nil, List.append_nil] at hL
    exact bi_ hL rfl
  · cases h
noncomputable def ou_impl_be_4 {R : Type} (k : Kt R) : ((List Int) × Unit) → Option R := (fun d => k (.exit 0) (((pa_impl_be 4).2 2).st d) (((pa_impl_be 4).2 2).nid))
noncomputable def L_impl_be {R : Type} : Lt R pa_impl_be := (addL (pat := pa_impl_be) 4 (fun d k => (lo_impl_be_4 (fu_impl_be_4 d.1 d.2.1 d.2.2.1) d.1 d.2.1 d.2.2.1).bind (ou_impl_be_4 k)) noL)
theorem rd_impl_be_4 {R : Type} (nx : (pa_impl_be 4).1.D → Kt R → Option R) (k : Kt R) (v0 : Int) (v6 : Int) (r0 : List Int) : ev Try.prog ⟨ta_impl_be, 0, 24, pa_impl_be⟩ L_impl_be co_impl_be_4 ((pa_impl_be 4).1.st (v0, v6, r0, ())) (pa_impl_be 4).1.nid (roundK 0 (pa_impl_be 4) nx k) = tr_impl_be_4  (fun d => nx d k) (fun d => k (.exit 0) (((pa_impl_be 4).2 2).st d) (((pa_impl_be 4).2 2).nid)) v0 v6 r0 := by kernel_rfl
theorem lp_impl_be_4 {R : Type} : ∀ (m : Nat) (d : (pa_impl_be 4).1.D) (k : Kt R), loopN 0 (pa_impl_be 4) (fun s nid k => ev Try.prog ⟨ta_impl_be, 0, 24, pa_impl_be⟩ L_impl_be co_impl_be_4 s nid k) m d k = (lo_impl_be_4 m d.1 d.2.1 d.2.2.1).bind (ou_impl_be_4 k)
  | 0, _, _ => rfl
  | m + 1, ⟨v0, v6, r0, ⟨⟩⟩, k => (rd_impl_be_4 _ k v0 v6 r0).trans ((congrArg (fun F => tr_impl_be_4  F (fun d => k (.exit 0) (((pa_impl_be 4).2 2).st d) (((pa_impl_be 4).2 2).nid)) v0 v6 r0) (funext fun d => lp_impl_be_4 m d k)).trans (na_impl_be_4 (f := ou_impl_be_4 k)  (fun d => lo_impl_be_4 m d.1 d.2.1 d.2.2.1) (fun d => some (d)) v0 v6 r0))
theorem en_impl_be (a0 : Int) (a1 : Int) : evalF Try.prog ta_impl_be pa_impl_be sg_impl_be Try.f90 L_impl_be (a0, a1, ()) = de_impl_be a0 a1 := by kernel_rfl
theorem si_impl_be : SigsOk Try.prog ta_impl_be := SigsOk.of fun f sd h => by
  try dsimp only [Tb.of, ta_impl_be] at h
  cases h
theorem lk_impl_be_4 {R : Type} : LoopOk Try.prog R 24 0 pa_impl_be L_impl_be co_impl_be_4 :=
  loop_key (cfg := ⟨ta_impl_be, 0, 24, pa_impl_be⟩) (key := 4) (by kernel_rfl) (by kernel_rfl) si_impl_be rfl rfl (fun d k r h => ⟨fu_impl_be_4 d.1 d.2.1 d.2.2.1, (lp_impl_be_4 _ d k).trans h⟩) (fun c hc => by rw [show loopsIn co_impl_be_4 = [] from by kernel_rfl] at hc; cases hc)
theorem sn_impl_be : Callable Try.prog 90 ∧ Sound Try.prog 90 sd_impl_be.sg sd_impl_be.den :=
  fn_loops (pat := pa_impl_be) L_impl_be (by kernel_rfl) si_impl_be Try.func90 (by kernel_rfl) (by kernel_rfl) (fun c hc => by rw [show loopsIn (bodyOf Try.f90) = [co_impl_be_4] from by kernel_rfl] at hc; simp only [List.mem_cons, List.not_mem_nil, or_false] at hc; rcases hc with rfl <;> first | exact lk_impl_be_4) fun x r h => by
    obtain ⟨a0, a1, ⟨⟩⟩ := x; obtain ⟨y, h1, h2⟩ := Option.bind_eq_some_iff.1 (show (m_impl_be a0 a1).bind (fun r => some ((r, ()), (()))) = some r from h); cases h2; exact (en_impl_be a0 a1).trans (eq_impl_be a0 a1 _ h1)
def m_impl_ValidBatch (b : List Chg) : Bool := validBatch b
def sg_impl_ValidBatch : Sig := ⟨[.rd (.sl (.pair .str (.pair .str (.pair .bool .unit))))], [none], [.rd .bool], [none]⟩
noncomputable def sd_impl_ValidBatch : SD := ⟨sg_impl_ValidBatch, fun x => some (((m_impl_ValidBatch x.1), ()), (()))⟩
noncomputable def ta_impl_ValidBatch : Tb := Tb.of fun f => if f = 67 then some sd_impl_in else if f = 112 then some sd_impl_goodKey else none
def pa_impl_ValidBatch : Nat → Pat × (Nat → Pat) := fun k => if k = 5 then (⟨[.sl 9 0 (.pair .str (.pair .str (.pair .bool .unit)))], [(9, .lf (.d (.sl (.pair .str (.pair .str (.pair .bool .unit)))))), (10, .lf (.d (.int .i64))), (11, .lf (.d (.int .i64)))], []⟩, fun e => if e = 1 then ⟨[], [(2, .lf (.d .bool))], []⟩ else if e = 2 then ⟨[], [], []⟩ else ⟨[], [], []⟩) else (⟨[], [], []⟩, fun _ => ⟨[], [], []⟩)
noncomputable def co_impl_ValidBatch_5 : Code := (loopsIn (bodyOf Try.f102)).getD 0 .skip
def fu_impl_ValidBatch_5 (v9 : List (ByteArray × ByteArray × Bool × Unit)) (v10 : Int) (v11 : Int) : Nat := (v10 - v11).toNat + 1
noncomputable def tr_impl_ValidBatch_5 {R : Type}  (NX : ((List (ByteArray × ByteArray × Bool × Unit)) × (Int) × (Int) × Unit) → Option R) (X2 : (Unit) → Option R) (X1 : ((Bool) × Unit) → Option R) (v9 : List (ByteArray × ByteArray × Bool × Unit)) (v10 : Int) (v11 : Int) : Option R :=
  bif decide (v11 < v10) then
    bif decide (0 ≤ v11) then
      bif decide (v11 < nI (List.length v9)) then
        bif !m_impl_goodKey (List.getD v9 (Int.toNat v11) (ByteArray.mk #[], ByteArray.mk #[], false, ())).fst then X1 (false, ())
        else
          bif decide (nI (ByteArray.size (List.getD v9 (Int.toNat v11) (ByteArray.mk #[], ByteArray.mk #[], false, ())).snd.fst) > 100) then X1 (false, ())
          else
            bif (List.getD v9 (Int.toNat v11) (ByteArray.mk #[], ByteArray.mk #[], false, ())).snd.snd.fst then
              bif !ByteArray.toList (List.getD v9 (Int.toNat v11) (ByteArray.mk #[], ByteArray.mk #[], false, ())).snd.fst == ByteArray.toList (ByteArray.mk #[]) then X1 (false, ())
              else NX (v9, v10, IntKind.wrap IntKind.i64 (v11 + 1), ())
            else NX (v9, v10, IntKind.wrap IntKind.i64 (v11 + 1), ())
      else none
    else none
  else X2 PUnit.unit
noncomputable def lo_impl_ValidBatch_5 : Nat → (List (ByteArray × ByteArray × Bool × Unit)) → (Int) → (Int) →  Option ((Unit) ⊕ ((Bool) × Unit))
  | 0, _, _, _ => none
  | m + 1, v9, v10, v11 => tr_impl_ValidBatch_5  (fun d => lo_impl_ValidBatch_5 m d.1 d.2.1 d.2.2.1) (fun d => some (.inl (d))) (fun d => some (.inr (d))) v9 v10 v11
theorem na_impl_ValidBatch_5 {R S : Type}  (NX : ((List (ByteArray × ByteArray × Bool × Unit)) × (Int) × (Int) × Unit) → Option R) (X2 : (Unit) → Option R) (X1 : ((Bool) × Unit) → Option R) (v9 : List (ByteArray × ByteArray × Bool × Unit)) (v10 : Int) (v11 : Int) (f : R → Option S) : tr_impl_ValidBatch_5  (fun d => (NX d).bind f) (fun d => (X2 d).bind f) (fun d => (X1 d).bind f) v9 v10 v11 = (tr_impl_ValidBatch_5  NX X2 X1 v9 v10 v11).bind f := by
  unfold tr_impl_ValidBatch_5
  simp only [cond_bind, ite_bind, onSum_bind, Option.bind_assoc, Option.bind_none, Option.bind_some]
noncomputable def de_impl_ValidBatch (a0 : List (ByteArray × ByteArray × Bool × Unit)) : Option ((((Bool) × Unit) × (Unit))) :=
  bif !m_impl_in (nI (List.length a0)) 1 20 then some ((false, ()), ())
  else Option.bind ((fun d => lo_impl_ValidBatch_5 (fu_impl_ValidBatch_5 d.1 d.2.1 d.2.2.1) d.1 d.2.1 d.2.2.1) (a0, nI (List.length a0), 0, ())) fun val => onSum (fun val => some ((true, ()), ())) (fun val => some ((val.fst, ()), ())) val
theorem eq_impl_ValidBatch (a0 : List (ByteArray × ByteArray × Bool × Unit)) : de_impl_ValidBatch a0 = some (((m_impl_ValidBatch a0), ()), (())) := by
  unfold de_impl_ValidBatch m_impl_ValidBatch validBatch
  have tl : ByteArray.toList (ByteArray.mk #[]) = [] := by decide +kernel
  show (bif !inB (a0.length : Int) 1 20 then _ else _) = _
  cases hin : inB (a0.length : Int) 1 20 with
  | false => rfl
  | true =>
    have hlen : a0.length ≤ 20 := by have := (inB_r hin).2; omega
    have hL := all_loop (n := a0.length) (fun i => okChg (a0.getD i zC)) (g := fun m i => lo_impl_ValidBatch_5 m a0 (nI a0.length) i) (ok := .inl ()) (bad := .inr (false, ())) (fun m i hi => by
      show lo_impl_ValidBatch_5 (m + 1) a0 (nI a0.length) i = _
      simp only [lo_impl_ValidBatch_5, tr_impl_ValidBatch_5]
      rw [tl, cLt hi, cLe0, wI (show i < 4611686018427387904 by omega), Int.toNat_natCast]
      have g1 : decide (nI (ByteArray.size (List.getD a0 i (ByteArray.mk #[], ByteArray.mk #[], false, ())).2.1) > 100) = !decide ((a0.getD i zC).2.1.size ≤ 100) := gt100 _ 100
      rw [g1]
      show (bif !keyOk (a0.getD i zC).1 then _ else (bif _ then _ else (bif (a0.getD i zC).2.2.1 then (bif !((a0.getD i zC).2.1.toList == []) then _ else _) else _))) = _
      unfold okChg
      cases keyOk (a0.getD i zC).1 <;> cases decide ((a0.getD i zC).2.1.size ≤ 100) <;> cases (a0.getD i zC).2.2.1 <;> cases ((a0.getD i zC).2.1.toList == []) <;> rfl) (fun m => by
      show lo_impl_ValidBatch_5 (m + 1) a0 (nI a0.length) (a0.length : Int) = _
      simp only [lo_impl_ValidBatch_5, tr_impl_ValidBatch_5]
      rw [cLtF]
      rfl) (fu_impl_ValidBatch_5 a0 (nI a0.length) 0) 0 (by omega) (by simp [fu_impl_ValidBatch_5, nI])
    refine bi_ hL ?_
    rw [Nat.sub_zero]
    cases (List.range' 0 a0.length).all (fun i => okChg (a0.getD i zC)) <;> rfl
noncomputable def ou_impl_ValidBatch_5 {R : Type} (k : Kt R) : ((Unit) ⊕ ((Bool) × Unit)) → Option R := (onSum (fun d => k (.exit 0) (((pa_impl_ValidBatch 5).2 2).st d) (((pa_impl_ValidBatch 5).2 2).nid)) (fun d => k .ret (((pa_impl_ValidBatch 5).2 1).st d) (((pa_impl_ValidBatch 5).2 1).nid)))
noncomputable def L_impl_ValidBatch {R : Type} : Lt R pa_impl_ValidBatch := (addL (pat := pa_impl_ValidBatch) 5 (fun d k => (lo_impl_ValidBatch_5 (fu_impl_ValidBatch_5 d.1 d.2.1 d.2.2.1) d.1 d.2.1 d.2.2.1).bind (ou_impl_ValidBatch_5 k)) noL)
theorem rd_impl_ValidBatch_5 {R : Type} (nx : (pa_impl_ValidBatch 5).1.D → Kt R → Option R) (k : Kt R) (v9 : List (ByteArray × ByteArray × Bool × Unit)) (v10 : Int) (v11 : Int) : ev Try.prog ⟨ta_impl_ValidBatch, 0, 35, pa_impl_ValidBatch⟩ L_impl_ValidBatch co_impl_ValidBatch_5 ((pa_impl_ValidBatch 5).1.st (v9, v10, v11, ())) (pa_impl_ValidBatch 5).1.nid (roundK 0 (pa_impl_ValidBatch 5) nx k) = tr_impl_ValidBatch_5  (fun d => nx d k) (fun d => k (.exit 0) (((pa_impl_ValidBatch 5).2 2).st d) (((pa_impl_ValidBatch 5).2 2).nid)) (fun d => k .ret (((pa_impl_ValidBatch 5).2 1).st d) (((pa_impl_ValidBatch 5).2 1).nid)) v9 v10 v11 := by kernel_rfl
theorem lp_impl_ValidBatch_5 {R : Type} : ∀ (m : Nat) (d : (pa_impl_ValidBatch 5).1.D) (k : Kt R), loopN 0 (pa_impl_ValidBatch 5) (fun s nid k => ev Try.prog ⟨ta_impl_ValidBatch, 0, 35, pa_impl_ValidBatch⟩ L_impl_ValidBatch co_impl_ValidBatch_5 s nid k) m d k = (lo_impl_ValidBatch_5 m d.1 d.2.1 d.2.2.1).bind (ou_impl_ValidBatch_5 k)
  | 0, _, _ => rfl
  | m + 1, ⟨v9, v10, v11, ⟨⟩⟩, k => (rd_impl_ValidBatch_5 _ k v9 v10 v11).trans ((congrArg (fun F => tr_impl_ValidBatch_5  F (fun d => k (.exit 0) (((pa_impl_ValidBatch 5).2 2).st d) (((pa_impl_ValidBatch 5).2 2).nid)) (fun d => k .ret (((pa_impl_ValidBatch 5).2 1).st d) (((pa_impl_ValidBatch 5).2 1).nid)) v9 v10 v11) (funext fun d => lp_impl_ValidBatch_5 m d k)).trans (na_impl_ValidBatch_5 (f := ou_impl_ValidBatch_5 k)  (fun d => lo_impl_ValidBatch_5 m d.1 d.2.1 d.2.2.1) (fun d => some (.inl (d))) (fun d => some (.inr (d))) v9 v10 v11))
theorem en_impl_ValidBatch (a0 : List (ByteArray × ByteArray × Bool × Unit)) : evalF Try.prog ta_impl_ValidBatch pa_impl_ValidBatch sg_impl_ValidBatch Try.f102 L_impl_ValidBatch (a0, ()) = de_impl_ValidBatch a0 := by kernel_rfl
theorem si_impl_ValidBatch : SigsOk Try.prog ta_impl_ValidBatch := SigsOk.of fun f sd h => by
  try dsimp only [Tb.of, ta_impl_ValidBatch] at h
  split at h
  · rename_i e; subst e; cases h; exact sn_impl_in
  split at h
  · rename_i e; subst e; cases h; exact sn_impl_goodKey
  cases h
theorem lk_impl_ValidBatch_5 {R : Type} : LoopOk Try.prog R 35 0 pa_impl_ValidBatch L_impl_ValidBatch co_impl_ValidBatch_5 :=
  loop_key (cfg := ⟨ta_impl_ValidBatch, 0, 35, pa_impl_ValidBatch⟩) (key := 5) (by kernel_rfl) (by kernel_rfl) si_impl_ValidBatch rfl rfl (fun d k r h => ⟨fu_impl_ValidBatch_5 d.1 d.2.1 d.2.2.1, (lp_impl_ValidBatch_5 _ d k).trans h⟩) (fun c hc => by rw [show loopsIn co_impl_ValidBatch_5 = [] from by kernel_rfl] at hc; cases hc)
theorem sn_impl_ValidBatch : Callable Try.prog 102 ∧ Sound Try.prog 102 sd_impl_ValidBatch.sg sd_impl_ValidBatch.den :=
  fn_loops (pat := pa_impl_ValidBatch) L_impl_ValidBatch (by kernel_rfl) si_impl_ValidBatch Try.func102 (by kernel_rfl) (by kernel_rfl) (fun c hc => by rw [show loopsIn (bodyOf Try.f102) = [co_impl_ValidBatch_5] from by kernel_rfl] at hc; simp only [List.mem_cons, List.not_mem_nil, or_false] at hc; rcases hc with rfl <;> first | exact lk_impl_ValidBatch_5) fun x r h => by
    obtain ⟨a0, ⟨⟩⟩ := x; rw [← h]; exact (en_impl_ValidBatch a0).trans (eq_impl_ValidBatch a0)
def m_impl_FormBatch (b : List Chg) : ByteArray := formB b
def sg_impl_FormBatch : Sig := ⟨[.rd (.sl (.pair .str (.pair .str (.pair .bool .unit))))], [none], [.rd .str], [none]⟩
noncomputable def sd_impl_FormBatch : SD := ⟨sg_impl_FormBatch, fun x => some (((m_impl_FormBatch x.1), ()), (()))⟩
noncomputable def ta_impl_FormBatch : Tb := ⟨fun f => if f = 90 then some sd_impl_be else if f = 102 then some sd_impl_ValidBatch else none, fun f => if f = 110 then some Try.f110 else none, some (160, 158), some (111, 158, 5)⟩
def pa_impl_FormBatch : Nat → Pat × (Nat → Pat) := fun k => if k = 6 then (⟨[.sl 9 0 (.pair .str (.pair .str (.pair .bool .unit))), .self 3 0, .boxRow 3 1 5 (.int .u8)], [(3, .lf (.ptr 0 0)), (9, .lf (.d (.sl (.pair .str (.pair .str (.pair .bool .unit)))))), (10, .lf (.d (.int .i64))), (11, .lf (.d (.int .i64)))], [.box 158 [.sp 0, .row 1], .row 5 (.int .u8)]⟩, fun e => if e = 2 then ⟨[.self 3 0, .boxRow 3 1 5 (.int .u8)], [(3, .lf (.ptr 0 0))], [.box 158 [.sp 0, .row 1], .row 5 (.int .u8)]⟩ else ⟨[], [], []⟩) else (⟨[], [], []⟩, fun _ => ⟨[], [], []⟩)
noncomputable def co_impl_FormBatch_6 : Code := (loopsIn (bodyOf Try.f44)).getD 0 .skip
def fu_impl_FormBatch_6 (v9 : List (ByteArray × ByteArray × Bool × Unit)) (v10 : Int) (v11 : Int) (r1 : List Int) : Nat := (v10 - v11).toNat + 1
noncomputable def tr_impl_FormBatch_6 {R : Type}  (NX : ((List (ByteArray × ByteArray × Bool × Unit)) × (Int) × (Int) × (List Int) × Unit) → Option R) (X2 : ((List Int) × Unit) → Option R) (v9 : List (ByteArray × ByteArray × Bool × Unit)) (v10 : Int) (v11 : Int) (r1 : List Int) : Option R :=
  bif decide (v11 < v10) then
    bif decide (0 ≤ v11) then
      bif decide (v11 < nI (List.length v9)) then
        bif (List.getD v9 (Int.toNat v11) (ByteArray.mk #[], ByteArray.mk #[], false, ())).snd.snd.fst then
          bif
              decide
                (ByteArray.size (ByteArray.mk #[1] ++ beS (nI (ByteArray.size (List.getD v9 (Int.toNat v11) (ByteArray.mk #[], ByteArray.mk #[], false, ())).fst)) (Int.toNat 1)) +
                    ByteArray.size (List.getD v9 (Int.toNat v11) (ByteArray.mk #[], ByteArray.mk #[], false, ())).fst ≤
                  9223372036854775807) then
            bif
                decide
                  (List.length r1 +
                      ByteArray.size
                        (ByteArray.mk #[1] ++ beS (nI (ByteArray.size (List.getD v9 (Int.toNat v11) (ByteArray.mk #[], ByteArray.mk #[], false, ())).fst)) (Int.toNat 1) ++
                          (List.getD v9 (Int.toNat v11) (ByteArray.mk #[], ByteArray.mk #[], false, ())).fst) ≤
                    140737488355328) then
              NX
                (v9, v10, IntKind.wrap IntKind.i64 (v11 + 1),
                  r1 ++
                    bytesOfStr
                      (ByteArray.mk #[1] ++ beS (nI (ByteArray.size (List.getD v9 (Int.toNat v11) (ByteArray.mk #[], ByteArray.mk #[], false, ())).fst)) (Int.toNat 1) ++
                        (List.getD v9 (Int.toNat v11) (ByteArray.mk #[], ByteArray.mk #[], false, ())).fst),
                  ())
            else none
          else none
        else
          bif
              decide
                (ByteArray.size (ByteArray.mk #[0] ++ beS (nI (ByteArray.size (List.getD v9 (Int.toNat v11) (ByteArray.mk #[], ByteArray.mk #[], false, ())).fst)) (Int.toNat 1)) +
                    ByteArray.size (List.getD v9 (Int.toNat v11) (ByteArray.mk #[], ByteArray.mk #[], false, ())).fst ≤
                  9223372036854775807) then
            bif
                decide
                  (ByteArray.size
                        (ByteArray.mk #[0] ++ beS (nI (ByteArray.size (List.getD v9 (Int.toNat v11) (ByteArray.mk #[], ByteArray.mk #[], false, ())).fst)) (Int.toNat 1) ++
                          (List.getD v9 (Int.toNat v11) (ByteArray.mk #[], ByteArray.mk #[], false, ())).fst) +
                      ByteArray.size (beS (nI (ByteArray.size (List.getD v9 (Int.toNat v11) (ByteArray.mk #[], ByteArray.mk #[], false, ())).snd.fst)) (Int.toNat 1)) ≤
                    9223372036854775807) then
              bif
                  decide
                    (ByteArray.size
                          (ByteArray.mk #[0] ++ beS (nI (ByteArray.size (List.getD v9 (Int.toNat v11) (ByteArray.mk #[], ByteArray.mk #[], false, ())).fst)) (Int.toNat 1) ++
                              (List.getD v9 (Int.toNat v11) (ByteArray.mk #[], ByteArray.mk #[], false, ())).fst ++
                            beS (nI (ByteArray.size (List.getD v9 (Int.toNat v11) (ByteArray.mk #[], ByteArray.mk #[], false, ())).snd.fst)) (Int.toNat 1)) +
                        ByteArray.size (List.getD v9 (Int.toNat v11) (ByteArray.mk #[], ByteArray.mk #[], false, ())).snd.fst ≤
                      9223372036854775807) then
                bif
                    decide
                      (List.length r1 +
                          ByteArray.size
                            (ByteArray.mk #[0] ++ beS (nI (ByteArray.size (List.getD v9 (Int.toNat v11) (ByteArray.mk #[], ByteArray.mk #[], false, ())).fst)) (Int.toNat 1) ++
                                  (List.getD v9 (Int.toNat v11) (ByteArray.mk #[], ByteArray.mk #[], false, ())).fst ++
                                beS (nI (ByteArray.size (List.getD v9 (Int.toNat v11) (ByteArray.mk #[], ByteArray.mk #[], false, ())).snd.fst)) (Int.toNat 1) ++
                              (List.getD v9 (Int.toNat v11) (ByteArray.mk #[], ByteArray.mk #[], false, ())).snd.fst) ≤
                        140737488355328) then
                  NX
                    (v9, v10, IntKind.wrap IntKind.i64 (v11 + 1),
                      r1 ++
                        bytesOfStr
                          (ByteArray.mk #[0] ++ beS (nI (ByteArray.size (List.getD v9 (Int.toNat v11) (ByteArray.mk #[], ByteArray.mk #[], false, ())).fst)) (Int.toNat 1) ++
                                (List.getD v9 (Int.toNat v11) (ByteArray.mk #[], ByteArray.mk #[], false, ())).fst ++
                              beS (nI (ByteArray.size (List.getD v9 (Int.toNat v11) (ByteArray.mk #[], ByteArray.mk #[], false, ())).snd.fst)) (Int.toNat 1) ++
                            (List.getD v9 (Int.toNat v11) (ByteArray.mk #[], ByteArray.mk #[], false, ())).snd.fst),
                      ())
                else none
              else none
            else none
          else none
      else none
    else none
  else X2 (r1, ())
noncomputable def lo_impl_FormBatch_6 : Nat → (List (ByteArray × ByteArray × Bool × Unit)) → (Int) → (Int) → (List Int) →  Option ((List Int) × Unit)
  | 0, _, _, _, _ => none
  | m + 1, v9, v10, v11, r1 => tr_impl_FormBatch_6  (fun d => lo_impl_FormBatch_6 m d.1 d.2.1 d.2.2.1 d.2.2.2.1) (fun d => some (d)) v9 v10 v11 r1
theorem na_impl_FormBatch_6 {R S : Type}  (NX : ((List (ByteArray × ByteArray × Bool × Unit)) × (Int) × (Int) × (List Int) × Unit) → Option R) (X2 : ((List Int) × Unit) → Option R) (v9 : List (ByteArray × ByteArray × Bool × Unit)) (v10 : Int) (v11 : Int) (r1 : List Int) (f : R → Option S) : tr_impl_FormBatch_6  (fun d => (NX d).bind f) (fun d => (X2 d).bind f) v9 v10 v11 r1 = (tr_impl_FormBatch_6  NX X2 v9 v10 v11 r1).bind f := by
  unfold tr_impl_FormBatch_6
  simp only [cond_bind, ite_bind, onSum_bind, Option.bind_assoc, Option.bind_none, Option.bind_some]
noncomputable def de_impl_FormBatch (a0 : List (ByteArray × ByteArray × Bool × Unit)) : Option ((((ByteArray) × Unit) × (Unit))) :=
  bif !m_impl_ValidBatch a0 then some ((ByteArray.mk #[], ()), ())
  else Option.bind ((fun d => lo_impl_FormBatch_6 (fu_impl_FormBatch_6 d.1 d.2.1 d.2.2.1 d.2.2.2.1) d.1 d.2.1 d.2.2.1 d.2.2.2.1) (a0, nI (List.length a0), 0, [], ())) fun val => bif allBytes val.fst then some ((strOfNums val.fst, ()), ()) else none
theorem eq_impl_FormBatch (a0 : List (ByteArray × ByteArray × Bool × Unit)) : de_impl_FormBatch a0 = some ((m_impl_FormBatch a0, ()), (())) := by
  unfold de_impl_FormBatch m_impl_FormBatch formB
  show (bif !validBatch a0 then _ else _) = _
  cases hv : validBatch a0 with
  | false => rfl
  | true =>
    obtain ⟨hlen, hok⟩ := validBatch_at hv
    have hL := up_loop a0.length BatOk (fun i r => r ++ chgL (a0.getD i zC)) (g := fun m i r => lo_impl_FormBatch_6 m a0 (nI a0.length) i r) (ok := fun r => (r, ())) (fun m i r hi hr => by
      show lo_impl_FormBatch_6 (m + 1) a0 (nI a0.length) i r = _
      simp only [lo_impl_FormBatch_6, tr_impl_FormBatch_6]
      have hc := hok i hi
      obtain ⟨k1, k2, k3⟩ := okChg_len hc
      rw [cLt hi, cLe0, wI (show i < 4611686018427387904 by omega), Int.toNat_natCast]
      show (bif (a0.getD i zC).2.2.1 then (bif decide (ByteArray.size (ByteArray.mk #[1] ++ beS (nI (ByteArray.size (a0.getD i zC).1)) 1) + ByteArray.size (a0.getD i zC).1 ≤ 9223372036854775807) then (bif decide (List.length r + ByteArray.size (ByteArray.mk #[1] ++ beS (nI (ByteArray.size (a0.getD i zC).1)) 1 ++ (a0.getD i zC).1) ≤ 140737488355328) then lo_impl_FormBatch_6 m a0 (nI a0.length) ((i + 1 : Nat) : Int) (r ++ bytesOfStr (ByteArray.mk #[1] ++ beS (nI (ByteArray.size (a0.getD i zC).1)) 1 ++ (a0.getD i zC).1)) else none) else none) else (bif decide (ByteArray.size (ByteArray.mk #[0] ++ beS (nI (ByteArray.size (a0.getD i zC).1)) 1) + ByteArray.size (a0.getD i zC).1 ≤ 9223372036854775807) then (bif decide (ByteArray.size (ByteArray.mk #[0] ++ beS (nI (ByteArray.size (a0.getD i zC).1)) 1 ++ (a0.getD i zC).1) + ByteArray.size (beS (nI (ByteArray.size (a0.getD i zC).2.1)) 1) ≤ 9223372036854775807) then (bif decide (ByteArray.size (ByteArray.mk #[0] ++ beS (nI (ByteArray.size (a0.getD i zC).1)) 1 ++ (a0.getD i zC).1 ++ beS (nI (ByteArray.size (a0.getD i zC).2.1)) 1) + ByteArray.size (a0.getD i zC).2.1 ≤ 9223372036854775807) then (bif decide (List.length r + ByteArray.size (ByteArray.mk #[0] ++ beS (nI (ByteArray.size (a0.getD i zC).1)) 1 ++ (a0.getD i zC).1 ++ beS (nI (ByteArray.size (a0.getD i zC).2.1)) 1 ++ (a0.getD i zC).2.1) ≤ 140737488355328) then lo_impl_FormBatch_6 m a0 (nI a0.length) ((i + 1 : Nat) : Int) (r ++ bytesOfStr (ByteArray.mk #[0] ++ beS (nI (ByteArray.size (a0.getD i zC).1)) 1 ++ (a0.getD i zC).1 ++ beS (nI (ByteArray.size (a0.getD i zC).2.1)) 1 ++ (a0.getD i zC).2.1)) else none) else none) else none) else none)) = lo_impl_FormBatch_6 m a0 (nI a0.length) ((i + 1 : Nat) : Int) (r ++ chgL (a0.getD i zC))
      have hr1 := hr.1
      generalize a0.getD i zC = c at *
      have o1 : bytesOfStr (ByteArray.mk #[1]) = [1] := rfl
      have o0 : bytesOfStr (ByteArray.mk #[0]) = [0] := rfl
      have s1 : ByteArray.size (ByteArray.mk #[1]) = 1 := rfl
      have s0 : ByteArray.size (ByteArray.mk #[0]) = 1 := rfl
      simp only [bytes_app, bytes_be _ (show c.1.size < 256 by omega), bytes_be _ (show c.2.1.size < 256 by omega), o1, o0, ByteArray.size_append, beS_size, s1, s0]
      rw [decide_eq_true (show 1 + 1 + c.1.size ≤ 9223372036854775807 by omega), decide_eq_true (show r.length + (1 + 1 + c.1.size) ≤ 140737488355328 by omega), decide_eq_true (show 1 + 1 + c.1.size + 1 ≤ 9223372036854775807 by omega), decide_eq_true (show 1 + 1 + c.1.size + 1 + c.2.1.size ≤ 9223372036854775807 by omega), decide_eq_true (show r.length + (1 + 1 + c.1.size + 1 + c.2.1.size) ≤ 140737488355328 by omega)]
      unfold chgL
      cases c.2.2.1 <;> rfl) (fun m r _ => by
      show lo_impl_FormBatch_6 (m + 1) a0 (nI a0.length) (a0.length : Int) r = _
      simp only [lo_impl_FormBatch_6, tr_impl_FormBatch_6]
      rw [cLtF]
      rfl) (fun i r hi hr => hr.step (hok i hi)) a0.length (fu_impl_FormBatch_6 a0 (nI a0.length) 0 []) 0 [] (by omega) (by simp [fu_impl_FormBatch_6, nI]) ⟨by simp, rfl⟩
    have hB := iter_bat hok a0.length 0 [] (by omega) ⟨by simp, rfl⟩
    rw [iter_cat chgL zC a0 a0.length 0 [] (by omega), List.nil_append, List.drop_zero] at hL hB
    refine bi_ hL ?_
    show (bif allBytes (batchL a0) then some ((strOfNums (batchL a0), ()), ()) else none) = _
    have : allBytes (batchL a0) = true := hB.2
    rw [this]
    rfl
noncomputable def ou_impl_FormBatch_6 {R : Type} (k : Kt R) : ((List Int) × Unit) → Option R := (fun d => k (.exit 0) (((pa_impl_FormBatch 6).2 2).st d) (((pa_impl_FormBatch 6).2 2).nid))
noncomputable def L_impl_FormBatch {R : Type} : Lt R pa_impl_FormBatch := (addL (pat := pa_impl_FormBatch) 6 (fun d k => (lo_impl_FormBatch_6 (fu_impl_FormBatch_6 d.1 d.2.1 d.2.2.1 d.2.2.2.1) d.1 d.2.1 d.2.2.1 d.2.2.2.1).bind (ou_impl_FormBatch_6 k)) noL)
theorem rd_impl_FormBatch_6 {R : Type} (nx : (pa_impl_FormBatch 6).1.D → Kt R → Option R) (k : Kt R) (v9 : List (ByteArray × ByteArray × Bool × Unit)) (v10 : Int) (v11 : Int) (r1 : List Int) : ev Try.prog ⟨ta_impl_FormBatch, 0, 45, pa_impl_FormBatch⟩ L_impl_FormBatch co_impl_FormBatch_6 ((pa_impl_FormBatch 6).1.st (v9, v10, v11, r1, ())) (pa_impl_FormBatch 6).1.nid (roundK 0 (pa_impl_FormBatch 6) nx k) = tr_impl_FormBatch_6  (fun d => nx d k) (fun d => k (.exit 0) (((pa_impl_FormBatch 6).2 2).st d) (((pa_impl_FormBatch 6).2 2).nid)) v9 v10 v11 r1 := by kernel_rfl
theorem lp_impl_FormBatch_6 {R : Type} : ∀ (m : Nat) (d : (pa_impl_FormBatch 6).1.D) (k : Kt R), loopN 0 (pa_impl_FormBatch 6) (fun s nid k => ev Try.prog ⟨ta_impl_FormBatch, 0, 45, pa_impl_FormBatch⟩ L_impl_FormBatch co_impl_FormBatch_6 s nid k) m d k = (lo_impl_FormBatch_6 m d.1 d.2.1 d.2.2.1 d.2.2.2.1).bind (ou_impl_FormBatch_6 k)
  | 0, _, _ => rfl
  | m + 1, ⟨v9, v10, v11, r1, ⟨⟩⟩, k => (rd_impl_FormBatch_6 _ k v9 v10 v11 r1).trans ((congrArg (fun F => tr_impl_FormBatch_6  F (fun d => k (.exit 0) (((pa_impl_FormBatch 6).2 2).st d) (((pa_impl_FormBatch 6).2 2).nid)) v9 v10 v11 r1) (funext fun d => lp_impl_FormBatch_6 m d k)).trans (na_impl_FormBatch_6 (f := ou_impl_FormBatch_6 k)  (fun d => lo_impl_FormBatch_6 m d.1 d.2.1 d.2.2.1 d.2.2.2.1) (fun d => some (d)) v9 v10 v11 r1))
theorem en_impl_FormBatch (a0 : List (ByteArray × ByteArray × Bool × Unit)) : evalF Try.prog ta_impl_FormBatch pa_impl_FormBatch sg_impl_FormBatch Try.f44 L_impl_FormBatch (a0, ()) = de_impl_FormBatch a0 := by kernel_rfl
theorem si_impl_FormBatch : SigsOk Try.prog ta_impl_FormBatch where
  sd := fun f sd h => by
    try dsimp only [Tb.of, ta_impl_FormBatch] at h
    split at h
    · rename_i e; subst e; cases h; exact sn_impl_be
    split at h
    · rename_i e; subst e; cases h; exact sn_impl_ValidBatch
    cases h
  inl := fun f fn h => by
    simp only [ta_impl_FormBatch] at h
    split at h
    · rename_i e; subst e; cases h; exact ⟨Try.func110, by kernel_rfl, by kernel_rfl⟩
    cases h
  cc := fun f BT h => by cases h; exact ⟨⟨_, Try.func160, by kernel_rfl, by kernel_rfl⟩, cc_seat⟩
  st := fun f BT e h => by cases h; exact ⟨⟨_, Try.func111, by kernel_rfl, by kernel_rfl⟩, st_seat⟩
theorem lk_impl_FormBatch_6 {R : Type} : LoopOk Try.prog R 45 0 pa_impl_FormBatch L_impl_FormBatch co_impl_FormBatch_6 :=
  loop_key (cfg := ⟨ta_impl_FormBatch, 0, 45, pa_impl_FormBatch⟩) (key := 6) (by kernel_rfl) (by kernel_rfl) si_impl_FormBatch rfl rfl (fun d k r h => ⟨fu_impl_FormBatch_6 d.1 d.2.1 d.2.2.1 d.2.2.2.1, (lp_impl_FormBatch_6 _ d k).trans h⟩) (fun c hc => by rw [show loopsIn co_impl_FormBatch_6 = [] from by kernel_rfl] at hc; cases hc)
theorem sn_impl_FormBatch : Callable Try.prog 44 ∧ Sound Try.prog 44 sd_impl_FormBatch.sg sd_impl_FormBatch.den :=
  fn_loops (pat := pa_impl_FormBatch) L_impl_FormBatch (by kernel_rfl) si_impl_FormBatch Try.func44 (by kernel_rfl) (by kernel_rfl) (fun c hc => by rw [show loopsIn (bodyOf Try.f44) = [co_impl_FormBatch_6] from by kernel_rfl] at hc; simp only [List.mem_cons, List.not_mem_nil, or_false] at hc; rcases hc with rfl <;> first | exact lk_impl_FormBatch_6) fun x r h => by
    obtain ⟨a0, ⟨⟩⟩ := x; rw [← h]; exact (en_impl_FormBatch a0).trans (eq_impl_FormBatch a0)
def m_impl_Room (s : Stt) (w : Int) : Int := roomS s w
def sg_impl_Room : Sig := ⟨[.rd (.pair (.sl (.pair .str (.pair .str .unit))) .unit), .rd (.int .i64)], [some 1, none], [.rd (.int .i64)], [none]⟩
noncomputable def sd_impl_Room : SD := ⟨sg_impl_Room, fun x => some (((m_impl_Room x.1 x.2.1), ()), (()))⟩
noncomputable def ta_impl_Room : Tb := Tb.of fun f => if f = 42 then some sd_impl_Snapshot else if f = 43 then some sd_impl_Pages else if f = 44 then some sd_impl_FormBatch else if f = 67 then some sd_impl_in else none
def pa_impl_Room : Nat → Pat × (Nat → Pat) := fun k => if k = 6 then (⟨[.sl 12 0 (.sl (.pair .str (.pair .str (.pair .bool .unit))))], [(1, .lf (.d (.int .i64))), (5, .lf (.d (.int .i64))), (12, .lf (.d (.sl (.sl (.pair .str (.pair .str (.pair .bool .unit))))))), (13, .lf (.d (.int .i64))), (14, .lf (.d (.int .i64)))], []⟩, fun e => if e = 2 then ⟨[], [(5, .lf (.d (.int .i64)))], []⟩ else ⟨[], [], []⟩) else (⟨[], [], []⟩, fun _ => ⟨[], [], []⟩)
noncomputable def co_impl_Room_6 : Code := (loopsIn (bodyOf Try.f45)).getD 0 .skip
def fu_impl_Room_6 (v1 : Int) (v5 : Int) (v12 : List (List (ByteArray × ByteArray × Bool × Unit))) (v13 : Int) (v14 : Int) : Nat := (v13 - v14).toNat + 1
noncomputable def tr_impl_Room_6 {R : Type}  (NX : ((Int) × (Int) × (List (List (ByteArray × ByteArray × Bool × Unit))) × (Int) × (Int) × Unit) → Option R) (X2 : ((Int) × Unit) → Option R) (v1 : Int) (v5 : Int) (v12 : List (List (ByteArray × ByteArray × Bool × Unit))) (v13 : Int) (v14 : Int) : Option R :=
  bif decide (v14 < v13) then
    bif decide (0 ≤ v14) then
      bif decide (v14 < nI (List.length v12)) then
        Option.bind (Option.bind (m_impl_Pages (m_impl_FormBatch (List.getD v12 (Int.toNat v14) [])) v1) fun val => some ((val, ()), ())) fun val =>
          NX (v1, IntKind.wrap IntKind.i64 (v5 + val.fst.fst), v12, v13, IntKind.wrap IntKind.i64 (v14 + 1), ())
      else none
    else none
  else X2 (v5, ())
noncomputable def lo_impl_Room_6 : Nat → (Int) → (Int) → (List (List (ByteArray × ByteArray × Bool × Unit))) → (Int) → (Int) →  Option ((Int) × Unit)
  | 0, _, _, _, _, _ => none
  | m + 1, v1, v5, v12, v13, v14 => tr_impl_Room_6  (fun d => lo_impl_Room_6 m d.1 d.2.1 d.2.2.1 d.2.2.2.1 d.2.2.2.2.1) (fun d => some (d)) v1 v5 v12 v13 v14
theorem na_impl_Room_6 {R S : Type}  (NX : ((Int) × (Int) × (List (List (ByteArray × ByteArray × Bool × Unit))) × (Int) × (Int) × Unit) → Option R) (X2 : ((Int) × Unit) → Option R) (v1 : Int) (v5 : Int) (v12 : List (List (ByteArray × ByteArray × Bool × Unit))) (v13 : Int) (v14 : Int) (f : R → Option S) : tr_impl_Room_6  (fun d => (NX d).bind f) (fun d => (X2 d).bind f) v1 v5 v12 v13 v14 = (tr_impl_Room_6  NX X2 v1 v5 v12 v13 v14).bind f := by
  unfold tr_impl_Room_6
  simp only [cond_bind, ite_bind, onSum_bind, Option.bind_assoc, Option.bind_none, Option.bind_some]
noncomputable def de_impl_Room (a0 : (List (ByteArray × ByteArray × Unit)) × Unit) (a1 : Int) : Option ((((Int) × Unit) × (Unit))) :=
  bif !m_impl_in a1 1 8 then some ((0, ()), ()) else Option.bind ((fun d => lo_impl_Room_6 (fu_impl_Room_6 d.1 d.2.1 d.2.2.1 d.2.2.2.1 d.2.2.2.2.1) d.1 d.2.1 d.2.2.1 d.2.2.2.1 d.2.2.2.2.1) (a1, 0, m_impl_Snapshot (a0.fst, ()), nI (List.length (m_impl_Snapshot (a0.fst, ()))), 0, ())) fun val => some ((val.fst, ()), ())
theorem eq_impl_Room (a0 : Stt) (a1 : Int) : de_impl_Room a0 a1 = some (((m_impl_Room a0 a1), ()), (())) := by
  unfold de_impl_Room m_impl_Room
  show (bif !inB a1 1 8 then _ else _) = _
  cases hw : inB a1 1 8 with
  | false => unfold roomS; rw [hw]; rfl
  | true =>
    have hl := snapS_len a0
    have hL := foldi_loop (xs := snapS a0) [] SumI (fun _ b a => a + pagesN (formB b).size a1) (g := fun m i a => lo_impl_Room_6 m a1 a (snapS a0) (nI (snapS a0).length) i) (ok := fun a => (a, ())) (fun m i a hi hI => by
      show lo_impl_Room_6 (m + 1) a1 a (snapS a0) (nI (snapS a0).length) i = _
      simp only [lo_impl_Room_6, tr_impl_Room_6]
      rw [cLt hi, cLe0, wI (show i < 4611686018427387904 by omega), Int.toNat_natCast]
      have e1 : m_impl_Pages (m_impl_FormBatch (List.getD (snapS a0) i [])) a1 = some (pagesN (formB (List.getD (snapS a0) i [])).size a1) := if_pos (Nat.le_trans (formB_size _) (by decide))
      rw [e1]
      simp only [cond_true, Option.bind_some]
      rw [pages_wrap hI]) (fun i a hi hI => hI.step (by omega) _ _) (fun m a hI => by
      show lo_impl_Room_6 (m + 1) a1 a (snapS a0) (nI (snapS a0).length) ((snapS a0).length : Int) = _
      simp only [lo_impl_Room_6, tr_impl_Room_6]
      rw [cLtF]
      rfl) (fu_impl_Room_6 a1 0 (snapS a0) (nI (snapS a0).length) 0) 0 0 (by omega) (by simp [fu_impl_Room_6, nI]) ⟨by omega, by omega, by omega⟩
    have hL' : lo_impl_Room_6 (fu_impl_Room_6 a1 0 (snapS a0) (nI (snapS a0).length) 0) a1 0 (snapS a0) (nI (snapS a0).length) 0 = _ := hL
    show (lo_impl_Room_6 (fu_impl_Room_6 a1 0 (snapS a0) (nI (snapS a0).length) 0) a1 0 (snapS a0) (nI (snapS a0).length) 0).bind _ = _
    rw [hL', foldI_sum, List.drop_zero, room_all, Int.zero_add]
    rfl
noncomputable def ou_impl_Room_6 {R : Type} (k : Kt R) : ((Int) × Unit) → Option R := (fun d => k (.exit 0) (((pa_impl_Room 6).2 2).st d) (((pa_impl_Room 6).2 2).nid))
noncomputable def L_impl_Room {R : Type} : Lt R pa_impl_Room := (addL (pat := pa_impl_Room) 6 (fun d k => (lo_impl_Room_6 (fu_impl_Room_6 d.1 d.2.1 d.2.2.1 d.2.2.2.1 d.2.2.2.2.1) d.1 d.2.1 d.2.2.1 d.2.2.2.1 d.2.2.2.2.1).bind (ou_impl_Room_6 k)) noL)
theorem rd_impl_Room_6 {R : Type} (nx : (pa_impl_Room 6).1.D → Kt R → Option R) (k : Kt R) (v1 : Int) (v5 : Int) (v12 : List (List (ByteArray × ByteArray × Bool × Unit))) (v13 : Int) (v14 : Int) : ev Try.prog ⟨ta_impl_Room, 0, 26, pa_impl_Room⟩ L_impl_Room co_impl_Room_6 ((pa_impl_Room 6).1.st (v1, v5, v12, v13, v14, ())) (pa_impl_Room 6).1.nid (roundK 0 (pa_impl_Room 6) nx k) = tr_impl_Room_6  (fun d => nx d k) (fun d => k (.exit 0) (((pa_impl_Room 6).2 2).st d) (((pa_impl_Room 6).2 2).nid)) v1 v5 v12 v13 v14 := by kernel_rfl
theorem lp_impl_Room_6 {R : Type} : ∀ (m : Nat) (d : (pa_impl_Room 6).1.D) (k : Kt R), loopN 0 (pa_impl_Room 6) (fun s nid k => ev Try.prog ⟨ta_impl_Room, 0, 26, pa_impl_Room⟩ L_impl_Room co_impl_Room_6 s nid k) m d k = (lo_impl_Room_6 m d.1 d.2.1 d.2.2.1 d.2.2.2.1 d.2.2.2.2.1).bind (ou_impl_Room_6 k)
  | 0, _, _ => rfl
  | m + 1, ⟨v1, v5, v12, v13, v14, ⟨⟩⟩, k => (rd_impl_Room_6 _ k v1 v5 v12 v13 v14).trans ((congrArg (fun F => tr_impl_Room_6  F (fun d => k (.exit 0) (((pa_impl_Room 6).2 2).st d) (((pa_impl_Room 6).2 2).nid)) v1 v5 v12 v13 v14) (funext fun d => lp_impl_Room_6 m d k)).trans (na_impl_Room_6 (f := ou_impl_Room_6 k)  (fun d => lo_impl_Room_6 m d.1 d.2.1 d.2.2.1 d.2.2.2.1 d.2.2.2.2.1) (fun d => some (d)) v1 v5 v12 v13 v14))
theorem en_impl_Room (a0 : (List (ByteArray × ByteArray × Unit)) × Unit) (a1 : Int) : evalF Try.prog ta_impl_Room pa_impl_Room sg_impl_Room Try.f45 L_impl_Room (a0, a1, ()) = de_impl_Room a0 a1 := by kernel_rfl
theorem si_impl_Room : SigsOk Try.prog ta_impl_Room := SigsOk.of fun f sd h => by
  try dsimp only [Tb.of, ta_impl_Room] at h
  split at h
  · rename_i e; subst e; cases h; exact sn_impl_Snapshot
  split at h
  · rename_i e; subst e; cases h; exact sn_impl_Pages
  split at h
  · rename_i e; subst e; cases h; exact sn_impl_FormBatch
  split at h
  · rename_i e; subst e; cases h; exact sn_impl_in
  cases h
theorem lk_impl_Room_6 {R : Type} : LoopOk Try.prog R 26 0 pa_impl_Room L_impl_Room co_impl_Room_6 :=
  loop_key (cfg := ⟨ta_impl_Room, 0, 26, pa_impl_Room⟩) (key := 6) (by kernel_rfl) (by kernel_rfl) si_impl_Room rfl rfl (fun d k r h => ⟨fu_impl_Room_6 d.1 d.2.1 d.2.2.1 d.2.2.2.1 d.2.2.2.2.1, (lp_impl_Room_6 _ d k).trans h⟩) (fun c hc => by rw [show loopsIn co_impl_Room_6 = [] from by kernel_rfl] at hc; cases hc)
theorem sn_impl_Room : Callable Try.prog 45 ∧ Sound Try.prog 45 sd_impl_Room.sg sd_impl_Room.den :=
  fn_loops (pat := pa_impl_Room) L_impl_Room (by kernel_rfl) si_impl_Room Try.func45 (by kernel_rfl) (by kernel_rfl) (fun c hc => by rw [show loopsIn (bodyOf Try.f45) = [co_impl_Room_6] from by kernel_rfl] at hc; simp only [List.mem_cons, List.not_mem_nil, or_false] at hc; rcases hc with rfl <;> first | exact lk_impl_Room_6) fun x r h => by
    obtain ⟨a0, a1, ⟨⟩⟩ := x; rw [← h]; exact (en_impl_Room a0 a1).trans (eq_impl_Room a0 a1)
def m_impl_validRoot (r : Rt) : Bool := rootOk r
def sg_impl_validRoot : Sig := ⟨[.rd (.pair (.int .i64) (.pair (.int .i64) (.pair (.int .i64) (.pair (.int .i64) .unit))))], [some 4], [.rd .bool], [none]⟩
noncomputable def sd_impl_validRoot : SD := ⟨sg_impl_validRoot, fun x => some (((m_impl_validRoot x.1), ()), (()))⟩
noncomputable def ta_impl_validRoot : Tb := Tb.of fun f => if f = 67 then some sd_impl_in else none
def pa_impl_validRoot : Nat → Pat × (Nat → Pat) := fun k => (⟨[], [], []⟩, fun _ => ⟨[], [], []⟩)
noncomputable def de_impl_validRoot (a0 : Int × Int × Int × Int × Unit) : Option ((((Bool) × Unit) × (Unit))) :=
  bif m_impl_in a0.snd.fst 0 1 then some ((m_impl_in a0.snd.snd.fst 1 999999000, ()), ()) else some ((false, ()), ())
theorem eq_impl_validRoot (a0 : Int × Int × Int × Int × Unit) : de_impl_validRoot a0 = some (((m_impl_validRoot a0), ()), (())) := by
  unfold de_impl_validRoot m_impl_validRoot rootOk
  show (bif inB a0.2.1 0 1 then _ else _) = _
  cases inB a0.2.1 0 1 <;> rfl
theorem en_impl_validRoot (a0 : Int × Int × Int × Int × Unit) : evalF Try.prog ta_impl_validRoot pa_impl_validRoot sg_impl_validRoot Try.f88 noL (a0, ()) = de_impl_validRoot a0 := by kernel_rfl
theorem si_impl_validRoot : SigsOk Try.prog ta_impl_validRoot := SigsOk.of fun f sd h => by
  try dsimp only [Tb.of, ta_impl_validRoot] at h
  split at h
  · rename_i e; subst e; cases h; exact sn_impl_in
  cases h
theorem sn_impl_validRoot : Callable Try.prog 88 ∧ Sound Try.prog 88 sd_impl_validRoot.sg sd_impl_validRoot.den :=
  fn_plain (pat := pa_impl_validRoot) (by kernel_rfl) si_impl_validRoot Try.func88 (by kernel_rfl) (by kernel_rfl) (by kernel_rfl) fun x r h => by
    obtain ⟨a0, ⟨⟩⟩ := x; rw [← h]; exact (en_impl_validRoot a0).trans (eq_impl_validRoot a0)
def m_impl_Halves (n : Int) : Int := halvesN n
def sg_impl_Halves : Sig := ⟨[.rd (.int .i64)], [none], [.rd (.int .i64)], [none]⟩
noncomputable def sd_impl_Halves : SD := ⟨sg_impl_Halves, fun x => some (((m_impl_Halves x.1), ()), (()))⟩
noncomputable def ta_impl_Halves : Tb := Tb.of fun f => if f = 67 then some sd_impl_in else none
def pa_impl_Halves : Nat → Pat × (Nat → Pat) := fun k => (⟨[], [], []⟩, fun _ => ⟨[], [], []⟩)
noncomputable def de_impl_Halves (a0 : Int) : Option ((((Int) × Unit) × (Unit))) :=
  bif !m_impl_in a0 8 200 then some ((0, ()), ()) else some ((IntKind.wrap IntKind.i64 (Int.tdiv (IntKind.wrap IntKind.i64 (a0 - 2)) 2), ()), ())
theorem eq_impl_Halves (a0 : Int) : de_impl_Halves a0 = some (((m_impl_Halves a0), ()), (())) := by
  unfold de_impl_Halves m_impl_Halves halvesN
  show (bif !inB a0 8 200 then _ else _) = _
  cases h : inB a0 8 200 with
  | false => rfl
  | true =>
    obtain ⟨h1, h2⟩ := inB_r h
    rw [halves_code h1 h2]
    rfl
theorem en_impl_Halves (a0 : Int) : evalF Try.prog ta_impl_Halves pa_impl_Halves sg_impl_Halves Try.f123 noL (a0, ()) = de_impl_Halves a0 := by kernel_rfl
theorem si_impl_Halves : SigsOk Try.prog ta_impl_Halves := SigsOk.of fun f sd h => by
  try dsimp only [Tb.of, ta_impl_Halves] at h
  split at h
  · rename_i e; subst e; cases h; exact sn_impl_in
  cases h
theorem sn_impl_Halves : Callable Try.prog 123 ∧ Sound Try.prog 123 sd_impl_Halves.sg sd_impl_Halves.den :=
  fn_plain (pat := pa_impl_Halves) (by kernel_rfl) si_impl_Halves Try.func123 (by kernel_rfl) (by kernel_rfl) (by kernel_rfl) fun x r h => by
    obtain ⟨a0, ⟨⟩⟩ := x; rw [← h]; exact (en_impl_Halves a0).trans (eq_impl_Halves a0)
def m_impl_ValidStore (s : Sto) : Bool := validStore s
def sg_impl_ValidStore : Sig := ⟨[.rd (.pair (.int .i64) (.pair (.int .i64) (.pair (.int .i64) (.pair (.pair (.int .i64) (.pair (.int .i64) (.pair (.int .i64) (.pair (.int .i64) .unit)))) (.pair (.int .i64) (.pair (.int .i64) (.pair (.pair (.sl (.pair .str (.pair .str .unit))) .unit) .unit)))))))], [some 10], [.rd .bool], [none]⟩
noncomputable def sd_impl_ValidStore : SD := ⟨sg_impl_ValidStore, fun x => some (((m_impl_ValidStore x.1), ()), (()))⟩
noncomputable def ta_impl_ValidStore : Tb := Tb.of fun f => if f = 45 then some sd_impl_Room else if f = 46 then some sd_impl_ValidState else if f = 67 then some sd_impl_in else if f = 88 then some sd_impl_validRoot else if f = 123 then some sd_impl_Halves else none
def pa_impl_ValidStore : Nat → Pat × (Nat → Pat) := fun k => (⟨[], [], []⟩, fun _ => ⟨[], [], []⟩)
noncomputable def de_impl_ValidStore (a0 : Int × Int × Int × (Int × Int × Int × Int × Unit) × Int × Int × ((List (ByteArray × ByteArray × Unit)) × Unit) × Unit) : Option ((((Bool) × Unit) × (Unit))) :=
  bif decide (m_impl_Halves a0.snd.fst > 0) then
    bif m_impl_in a0.fst 1 8 then
      bif m_impl_in a0.snd.snd.fst 1 60000 then
        bif m_impl_in a0.snd.snd.snd.fst.fst 0 1000000000 then
          bif m_impl_validRoot (a0.snd.snd.snd.fst.fst, a0.snd.snd.snd.fst.snd.fst, a0.snd.snd.snd.fst.snd.snd.fst, a0.snd.snd.snd.fst.snd.snd.snd.fst, ()) then
            bif m_impl_in a0.snd.snd.snd.fst.snd.snd.snd.fst 0 60000 then
              bif m_impl_in a0.snd.snd.snd.snd.fst 0 (m_impl_Halves a0.snd.fst) then
                bif m_impl_in a0.snd.snd.snd.snd.snd.fst 0 a0.snd.snd.snd.snd.fst then
                  bif m_impl_ValidState (a0.snd.snd.snd.snd.snd.snd.fst.fst, ()) then
                    some ((decide (m_impl_Room (a0.snd.snd.snd.snd.snd.snd.fst.fst, ()) a0.fst ≤ IntKind.wrap IntKind.i64 (m_impl_Halves a0.snd.fst - 1)), ()), ())
                  else some ((false, ()), ())
                else some ((false, ()), ())
              else some ((false, ()), ())
            else some ((false, ()), ())
          else some ((false, ()), ())
        else some ((false, ()), ())
      else some ((false, ()), ())
    else some ((false, ()), ())
  else some ((false, ()), ())
theorem eq_impl_ValidStore (a0 : Sto) : de_impl_ValidStore a0 = some (((m_impl_ValidStore a0), ()), (())) := by
  unfold de_impl_ValidStore m_impl_ValidStore validStore
  simp only [m_impl_Halves, m_impl_in, m_impl_validRoot, m_impl_ValidState, m_impl_Room, gt_iff_lt, halves_wrap, andS]
theorem en_impl_ValidStore (a0 : Int × Int × Int × (Int × Int × Int × Int × Unit) × Int × Int × ((List (ByteArray × ByteArray × Unit)) × Unit) × Unit) : evalF Try.prog ta_impl_ValidStore pa_impl_ValidStore sg_impl_ValidStore Try.f52 noL (a0, ()) = de_impl_ValidStore a0 := by kernel_rfl
theorem si_impl_ValidStore : SigsOk Try.prog ta_impl_ValidStore := SigsOk.of fun f sd h => by
  try dsimp only [Tb.of, ta_impl_ValidStore] at h
  split at h
  · rename_i e; subst e; cases h; exact sn_impl_Room
  split at h
  · rename_i e; subst e; cases h; exact sn_impl_ValidState
  split at h
  · rename_i e; subst e; cases h; exact sn_impl_in
  split at h
  · rename_i e; subst e; cases h; exact sn_impl_validRoot
  split at h
  · rename_i e; subst e; cases h; exact sn_impl_Halves
  cases h
theorem sn_impl_ValidStore : Callable Try.prog 52 ∧ Sound Try.prog 52 sd_impl_ValidStore.sg sd_impl_ValidStore.den :=
  fn_plain (pat := pa_impl_ValidStore) (by kernel_rfl) si_impl_ValidStore Try.func52 (by kernel_rfl) (by kernel_rfl) (by kernel_rfl) fun x r h => by
    obtain ⟨a0, ⟨⟩⟩ := x; rw [← h]; exact (en_impl_ValidStore a0).trans (eq_impl_ValidStore a0)
def sg_strings_Repeat : Sig := ⟨[.rd .str, .rd (.int .i64)], [none, none], [.rd .str], [none]⟩
noncomputable def sd_strings_Repeat : SD := ⟨sg_strings_Repeat, fun x => (repStr x.1 x.2.1).bind fun r => some ((r, ()), ())⟩
theorem sn_strings_Repeat : Callable Try.prog 98 ∧ Sound Try.prog 98 sd_strings_Repeat.sg sd_strings_Repeat.den := ⟨⟨_, Try.func98, by kernel_rfl, by kernel_rfl⟩, rep_seat⟩
def m_impl_validPage (p : Pg) (w : Int) : Bool := pageOk p w
def sg_impl_validPage : Sig := ⟨[.rd (.pair (.int .i64) (.pair (.int .i64) (.pair (.int .i64) (.pair .str .unit)))), .rd (.int .i64)], [some 4, none], [.rd .bool], [none]⟩
noncomputable def sd_impl_validPage : SD := ⟨sg_impl_validPage, fun x => some (((m_impl_validPage x.1 x.2.1), ()), (()))⟩
noncomputable def ta_impl_validPage : Tb := Tb.of fun f => if f = 67 then some sd_impl_in else if f = 109 then some sd_impl_room else none
def pa_impl_validPage : Nat → Pat × (Nat → Pat) := fun k => (⟨[], [], []⟩, fun _ => ⟨[], [], []⟩)
noncomputable def de_impl_validPage (a0 : Int × Int × Int × ByteArray × Unit) (a1 : Int) : Option ((((Bool) × Unit) × (Unit))) :=
  bif m_impl_in a1 1 8 then
    bif m_impl_in a0.fst 1 4 then
      bif m_impl_in a0.snd.fst 1 60000 then
        bif m_impl_in a0.snd.snd.fst 1 1000000000 then
          bif decide (nI (ByteArray.size a0.snd.snd.snd.fst) ≤ IntKind.wrap IntKind.i64 (IntKind.wrap IntKind.i64 (64 - a1) - 8)) then
            bif a0.fst != 3 then some ((true, ()), ()) else some ((ByteArray.toList a0.snd.snd.snd.fst == ByteArray.toList (ByteArray.mk #[]), ()), ())
          else some ((false, ()), ())
        else some ((false, ()), ())
      else some ((false, ()), ())
    else some ((false, ()), ())
  else some ((false, ()), ())
theorem eq_impl_validPage (a0 : Int × Int × Int × ByteArray × Unit) (a1 : Int) : de_impl_validPage a0 a1 = some (((m_impl_validPage a0 a1), ()), (())) := by
  unfold de_impl_validPage m_impl_validPage pageOk
  have tl : ByteArray.toList (ByteArray.mk #[]) = [] := by decide +kernel
  rw [tl]
  show (bif inB a1 1 8 then (bif inB a0.1 1 4 then (bif inB a0.2.1 1 60000 then (bif inB a0.2.2.1 1 1000000000 then _ else _) else _) else _) else _) = _
  cases hw : inB a1 1 8 with
  | false => rfl
  | true =>
    have k1 := of_decide_eq_true (and2 hw).1
    have k2 := of_decide_eq_true (and2 hw).2
    rw [wrap_ok (n := 64 - a1) (by omega) (by omega), wrap_ok (by omega) (by omega), show 64 - a1 - 8 = 56 - a1 by omega]
    cases inB a0.1 1 4 <;> cases inB a0.2.1 1 60000 <;> cases inB a0.2.2.1 1 1000000000 <;> try rfl
    show (bif decide ((ByteArray.size a0.2.2.2.1 : Int) ≤ 56 - a1) then _ else _) = _
    cases decide ((ByteArray.size a0.2.2.2.1 : Int) ≤ 56 - a1) <;> cases (a0.1 != 3) <;> rfl
theorem en_impl_validPage (a0 : Int × Int × Int × ByteArray × Unit) (a1 : Int) : evalF Try.prog ta_impl_validPage pa_impl_validPage sg_impl_validPage Try.f141 noL (a0, a1, ()) = de_impl_validPage a0 a1 := by kernel_rfl
theorem si_impl_validPage : SigsOk Try.prog ta_impl_validPage := SigsOk.of fun f sd h => by
  try dsimp only [Tb.of, ta_impl_validPage] at h
  split at h
  · rename_i e; subst e; cases h; exact sn_impl_in
  split at h
  · rename_i e; subst e; cases h; exact sn_impl_room
  cases h
theorem sn_impl_validPage : Callable Try.prog 141 ∧ Sound Try.prog 141 sd_impl_validPage.sg sd_impl_validPage.den :=
  fn_plain (pat := pa_impl_validPage) (by kernel_rfl) si_impl_validPage Try.func141 (by kernel_rfl) (by kernel_rfl) (by kernel_rfl) fun x r h => by
    obtain ⟨a0, a1, ⟨⟩⟩ := x; rw [← h]; exact (en_impl_validPage a0 a1).trans (eq_impl_validPage a0 a1)
def m_impl_Sum (s : ByteArray) (w : Int) : Option ByteArray := if s.size < 4611686018427387904 then some (sumS s w) else none
def fu_impl_Sum_6 (v0 : ByteArray) (v1 v5 v6 : Int) : Nat := (nI v0.size - v6).toNat + 1
def sg_impl_Sum : Sig := ⟨[.rd .str, .rd (.int .i64)], [none, none], [.rd .str], [none]⟩
noncomputable def sd_impl_Sum : SD := ⟨sg_impl_Sum, fun x => (m_impl_Sum x.1 x.2.1).bind fun r => some ((r, ()), (()))⟩
noncomputable def ta_impl_Sum : Tb := Tb.of fun f => if f = 67 then some sd_impl_in else if f = 90 then some sd_impl_be else none
def pa_impl_Sum : Nat → Pat × (Nat → Pat) := fun k => if k = 6 then (⟨[], [(0, .lf (.d .str)), (1, .lf (.d (.int .i64))), (5, .lf (.d (.int .u64))), (6, .lf (.d (.int .i64)))], []⟩, fun e => if e = 2 then ⟨[], [(1, .lf (.d (.int .i64))), (5, .lf (.d (.int .u64)))], []⟩ else ⟨[], [], []⟩) else (⟨[], [], []⟩, fun _ => ⟨[], [], []⟩)
noncomputable def co_impl_Sum_6 : Code := (loopsIn (bodyOf Try.f142)).getD 0 .skip
noncomputable def tr_impl_Sum_6 {R : Type}  (NX : ((ByteArray) × (Int) × (Int) × (Int) × Unit) → Option R) (X2 : ((Int) × (Int) × Unit) → Option R) (v0 : ByteArray) (v1 : Int) (v5 : Int) (v6 : Int) : Option R :=
  bif decide (v6 < nI (ByteArray.size v0)) then
    bif decide (0 ≤ v6) then
      bif decide (v6 < nI (ByteArray.size v0)) then
        NX
          (v0, v1, IntKind.wrap IntKind.u64 (IntKind.wrap IntKind.u64 (nI (BitVec.toNat (BitVec.ofInt 64 v5 ^^^ BitVec.ofInt 64 (IntKind.wrap IntKind.u64 (byteAt v0 v6))))) * 1099511628211),
            IntKind.wrap IntKind.i64 (v6 + 1), ())
      else none
    else none
  else X2 (v1, v5, ())
noncomputable def lo_impl_Sum_6 : Nat → (ByteArray) → (Int) → (Int) → (Int) →  Option ((Int) × (Int) × Unit)
  | 0, _, _, _, _ => none
  | m + 1, v0, v1, v5, v6 => tr_impl_Sum_6  (fun d => lo_impl_Sum_6 m d.1 d.2.1 d.2.2.1 d.2.2.2.1) (fun d => some (d)) v0 v1 v5 v6
theorem na_impl_Sum_6 {R S : Type}  (NX : ((ByteArray) × (Int) × (Int) × (Int) × Unit) → Option R) (X2 : ((Int) × (Int) × Unit) → Option R) (v0 : ByteArray) (v1 : Int) (v5 : Int) (v6 : Int) (f : R → Option S) : tr_impl_Sum_6  (fun d => (NX d).bind f) (fun d => (X2 d).bind f) v0 v1 v5 v6 = (tr_impl_Sum_6  NX X2 v0 v1 v5 v6).bind f := by
  unfold tr_impl_Sum_6
  simp only [cond_bind, ite_bind, onSum_bind, Option.bind_assoc, Option.bind_none, Option.bind_some]
noncomputable def de_impl_Sum (a0 : ByteArray) (a1 : Int) : Option ((((ByteArray) × Unit) × (Unit))) :=
  bif !m_impl_in a1 1 8 then some ((ByteArray.mk #[], ()), ())
  else
    Option.bind ((fun d => lo_impl_Sum_6 (fu_impl_Sum_6 d.1 d.2.1 d.2.2.1 d.2.2.2.1) d.1 d.2.1 d.2.2.1 d.2.2.2.1) (a0, a1, 14695981039346656037, 0, ())) fun val =>
      bif decide (0 ≤ IntKind.wrap IntKind.i64 (8 - val.fst)) then
        bif decide (IntKind.wrap IntKind.i64 (8 - val.fst) ≤ nI (ByteArray.size (beS (IntKind.wrap IntKind.i64 val.snd.fst) (Int.toNat 8)))) then
          some
            ((cutOf (beS (IntKind.wrap IntKind.i64 val.snd.fst) (Int.toNat 8)) (IntKind.wrap IntKind.i64 (8 - val.fst)) (nI (ByteArray.size (beS (IntKind.wrap IntKind.i64 val.snd.fst) (Int.toNat 8)))),
                ()),
              ())
        else none
      else none
theorem eq_impl_Sum (a0 : ByteArray) (a1 : Int) r (h : m_impl_Sum a0 a1 = some r) : de_impl_Sum a0 a1 = some ((r, ()), (())) := by
  unfold m_impl_Sum at h
  split at h
  rotate_left
  · cases h
  rename_i hsz
  cases h
  unfold de_impl_Sum sumS
  generalize hC : (14695981039346656037 : Int) = C
  have h0 : U64 C := by rw [← hC]; exact ⟨by decide, by decide⟩
  show (bif !inB a1 1 8 then _ else _) = _
  cases hw : inB a1 1 8 with
  | false => rfl
  | true =>
    have k1 := of_decide_eq_true (and2 hw).1
    have k2 := of_decide_eq_true (and2 hw).2
    · simp only [Bool.not_true, cond_false, cond_true]
      have hL := up_loop a0.size (fun _ _ => True) (fun i h => hashStep h (byteAt a0 i)) (g := fun m i h => lo_impl_Sum_6 m a0 a1 h i) (ok := fun h => (a1, h, ())) (fun m i h hi _ => by
        show lo_impl_Sum_6 (m + 1) a0 a1 h i = _
        simp only [lo_impl_Sum_6, tr_impl_Sum_6]
        have c1 : (i : Int) < nI a0.size := by simp only [nI]; omega
        rw [decide_eq_true c1, cLe0, wI (show i < 4611686018427387904 by omega)]
        rfl) (fun m h _ => by
        show lo_impl_Sum_6 (m + 1) a0 a1 h a0.size = _
        simp only [lo_impl_Sum_6, tr_impl_Sum_6]
        rw [decide_eq_false (show ¬ ((a0.size : Int) < nI a0.size) by simp only [nI]; omega)]
        rfl) (fun _ _ _ _ => trivial) a0.size (fu_impl_Sum_6 a0 a1 C 0) 0 C (by omega) (by simp only [fu_impl_Sum_6, nI]; omega) trivial
      rw [show ((0 : Nat) : Int) = 0 from rfl] at hL
      refine bi_ hL ?_
      have e1 : IntKind.wrap IntKind.i64 (8 - a1) = 8 - a1 := wrap_ok (by omega) (by omega)
      have hh := hash_in a0 a0.size 0 h0
      have eH : iter (fun i h => hashStep h (byteAt a0 i)) a0.size 0 C = hashGo a0 a0.size 0 C := rfl
      rw [eH]
      generalize hashGo a0 a0.size 0 C = H at hh ⊢
      show (bif decide (0 ≤ IntKind.wrap IntKind.i64 (8 - a1)) then (bif decide (IntKind.wrap IntKind.i64 (8 - a1) ≤ nI (ByteArray.size (beS (IntKind.wrap IntKind.i64 H) (Int.toNat 8)))) then some ((cutOf (beS (IntKind.wrap IntKind.i64 H) (Int.toNat 8)) (IntKind.wrap IntKind.i64 (8 - a1)) (nI (ByteArray.size (beS (IntKind.wrap IntKind.i64 H) (Int.toNat 8)))), ()), ()) else none) else none) = some ((beS H a1.toNat, ()), ())
      rw [e1, sum_cut hh k1 k2, decide_eq_true (show 0 ≤ 8 - a1 by omega), decide_eq_true (show 8 - a1 ≤ nI (ByteArray.size (beS (IntKind.wrap IntKind.i64 H) (Int.toNat 8))) by rw [beS_size]; simp [nI]; omega)]
      rfl
noncomputable def ou_impl_Sum_6 {R : Type} (k : Kt R) : ((Int) × (Int) × Unit) → Option R := (fun d => k (.exit 0) (((pa_impl_Sum 6).2 2).st d) (((pa_impl_Sum 6).2 2).nid))
noncomputable def L_impl_Sum {R : Type} : Lt R pa_impl_Sum := (addL (pat := pa_impl_Sum) 6 (fun d k => (lo_impl_Sum_6 (fu_impl_Sum_6 d.1 d.2.1 d.2.2.1 d.2.2.2.1) d.1 d.2.1 d.2.2.1 d.2.2.2.1).bind (ou_impl_Sum_6 k)) noL)
theorem rd_impl_Sum_6 {R : Type} (nx : (pa_impl_Sum 6).1.D → Kt R → Option R) (k : Kt R) (v0 : ByteArray) (v1 : Int) (v5 : Int) (v6 : Int) : ev Try.prog ⟨ta_impl_Sum, 0, 29, pa_impl_Sum⟩ L_impl_Sum co_impl_Sum_6 ((pa_impl_Sum 6).1.st (v0, v1, v5, v6, ())) (pa_impl_Sum 6).1.nid (roundK 0 (pa_impl_Sum 6) nx k) = tr_impl_Sum_6  (fun d => nx d k) (fun d => k (.exit 0) (((pa_impl_Sum 6).2 2).st d) (((pa_impl_Sum 6).2 2).nid)) v0 v1 v5 v6 := by kernel_rfl
theorem lp_impl_Sum_6 {R : Type} : ∀ (m : Nat) (d : (pa_impl_Sum 6).1.D) (k : Kt R), loopN 0 (pa_impl_Sum 6) (fun s nid k => ev Try.prog ⟨ta_impl_Sum, 0, 29, pa_impl_Sum⟩ L_impl_Sum co_impl_Sum_6 s nid k) m d k = (lo_impl_Sum_6 m d.1 d.2.1 d.2.2.1 d.2.2.2.1).bind (ou_impl_Sum_6 k)
  | 0, _, _ => rfl
  | m + 1, ⟨v0, v1, v5, v6, ⟨⟩⟩, k => (rd_impl_Sum_6 _ k v0 v1 v5 v6).trans ((congrArg (fun F => tr_impl_Sum_6  F (fun d => k (.exit 0) (((pa_impl_Sum 6).2 2).st d) (((pa_impl_Sum 6).2 2).nid)) v0 v1 v5 v6) (funext fun d => lp_impl_Sum_6 m d k)).trans (na_impl_Sum_6 (f := ou_impl_Sum_6 k)  (fun d => lo_impl_Sum_6 m d.1 d.2.1 d.2.2.1 d.2.2.2.1) (fun d => some (d)) v0 v1 v5 v6))
theorem en_impl_Sum (a0 : ByteArray) (a1 : Int) : evalF Try.prog ta_impl_Sum pa_impl_Sum sg_impl_Sum Try.f142 L_impl_Sum (a0, a1, ()) = de_impl_Sum a0 a1 := by kernel_rfl
theorem si_impl_Sum : SigsOk Try.prog ta_impl_Sum := SigsOk.of fun f sd h => by
  try dsimp only [Tb.of, ta_impl_Sum] at h
  split at h
  · rename_i e; subst e; cases h; exact sn_impl_in
  split at h
  · rename_i e; subst e; cases h; exact sn_impl_be
  cases h
theorem lk_impl_Sum_6 {R : Type} : LoopOk Try.prog R 29 0 pa_impl_Sum L_impl_Sum co_impl_Sum_6 :=
  loop_key (cfg := ⟨ta_impl_Sum, 0, 29, pa_impl_Sum⟩) (key := 6) (by kernel_rfl) (by kernel_rfl) si_impl_Sum rfl rfl (fun d k r h => ⟨fu_impl_Sum_6 d.1 d.2.1 d.2.2.1 d.2.2.2.1, (lp_impl_Sum_6 _ d k).trans h⟩) (fun c hc => by rw [show loopsIn co_impl_Sum_6 = [] from by kernel_rfl] at hc; cases hc)
theorem sn_impl_Sum : Callable Try.prog 142 ∧ Sound Try.prog 142 sd_impl_Sum.sg sd_impl_Sum.den :=
  fn_loops (pat := pa_impl_Sum) L_impl_Sum (by kernel_rfl) si_impl_Sum Try.func142 (by kernel_rfl) (by kernel_rfl) (fun c hc => by rw [show loopsIn (bodyOf Try.f142) = [co_impl_Sum_6] from by kernel_rfl] at hc; simp only [List.mem_cons, List.not_mem_nil, or_false] at hc; rcases hc with rfl <;> first | exact lk_impl_Sum_6) fun x r h => by
    obtain ⟨a0, a1, ⟨⟩⟩ := x; obtain ⟨y, h1, h2⟩ := Option.bind_eq_some_iff.1 (show (m_impl_Sum a0 a1).bind (fun r => some ((r, ()), (()))) = some r from h); cases h2; exact (en_impl_Sum a0 a1).trans (eq_impl_Sum a0 a1 _ h1)
def m_impl_FormPage (p : Pg) (w : Int) : ByteArray := pageS p w
def sg_impl_FormPage : Sig := ⟨[.rd (.pair (.int .i64) (.pair (.int .i64) (.pair (.int .i64) (.pair .str .unit)))), .rd (.int .i64)], [some 4, none], [.rd .str], [none]⟩
noncomputable def sd_impl_FormPage : SD := ⟨sg_impl_FormPage, fun x => some (((m_impl_FormPage x.1 x.2.1), ()), (()))⟩
noncomputable def ta_impl_FormPage : Tb := Tb.of fun f => if f = 90 then some sd_impl_be else if f = 98 then some sd_strings_Repeat else if f = 141 then some sd_impl_validPage else if f = 142 then some sd_impl_Sum else none
def pa_impl_FormPage : Nat → Pat × (Nat → Pat) := fun k => (⟨[], [], []⟩, fun _ => ⟨[], [], []⟩)
noncomputable def de_impl_FormPage (a0 : Int × Int × Int × ByteArray × Unit) (a1 : Int) : Option ((((ByteArray) × Unit) × (Unit))) :=
  bif !m_impl_validPage (a0.fst, a0.snd.fst, a0.snd.snd.fst, a0.snd.snd.snd.fst, ()) a1 then some ((ByteArray.mk #[], ()), ())
  else
    bif
        decide
          (ByteArray.size (beS a0.fst (Int.toNat 1) ++ beS a0.snd.fst (Int.toNat 2) ++ beS a0.snd.snd.fst (Int.toNat 4) ++ beS (nI (ByteArray.size a0.snd.snd.snd.fst)) (Int.toNat 1)) +
              ByteArray.size a0.snd.snd.snd.fst ≤
            9223372036854775807) then
      Option.bind
        (Option.bind
          (repStr (ByteArray.mk #[0])
            (IntKind.wrap IntKind.i64
              (IntKind.wrap IntKind.i64 (64 - a1) -
                nI
                  (ByteArray.size
                    (beS a0.fst (Int.toNat 1) ++ beS a0.snd.fst (Int.toNat 2) ++ beS a0.snd.snd.fst (Int.toNat 4) ++ beS (nI (ByteArray.size a0.snd.snd.snd.fst)) (Int.toNat 1) ++ a0.snd.snd.snd.fst)))))
          fun val => some ((val, ()), ()))
        fun val =>
        bif
            decide
              (ByteArray.size
                    (beS a0.fst (Int.toNat 1) ++ beS a0.snd.fst (Int.toNat 2) ++ beS a0.snd.snd.fst (Int.toNat 4) ++ beS (nI (ByteArray.size a0.snd.snd.snd.fst)) (Int.toNat 1) ++ a0.snd.snd.snd.fst) +
                  ByteArray.size val.fst.fst ≤
                9223372036854775807) then
          Option.bind
            (Option.bind
              (m_impl_Sum
                (beS a0.fst (Int.toNat 1) ++ beS a0.snd.fst (Int.toNat 2) ++ beS a0.snd.snd.fst (Int.toNat 4) ++ beS (nI (ByteArray.size a0.snd.snd.snd.fst)) (Int.toNat 1) ++ a0.snd.snd.snd.fst ++
                  val.fst.fst)
                a1)
              fun val => some ((val, ()), ()))
            fun val_1 =>
            bif
                decide
                  (ByteArray.size val_1.fst.fst +
                      ByteArray.size
                        (beS a0.fst (Int.toNat 1) ++ beS a0.snd.fst (Int.toNat 2) ++ beS a0.snd.snd.fst (Int.toNat 4) ++ beS (nI (ByteArray.size a0.snd.snd.snd.fst)) (Int.toNat 1) ++
                            a0.snd.snd.snd.fst ++
                          val.fst.fst) ≤
                    9223372036854775807) then
              some
                ((val_1.fst.fst ++
                      (beS a0.fst (Int.toNat 1) ++ beS a0.snd.fst (Int.toNat 2) ++ beS a0.snd.snd.fst (Int.toNat 4) ++ beS (nI (ByteArray.size a0.snd.snd.snd.fst)) (Int.toNat 1) ++ a0.snd.snd.snd.fst ++
                        val.fst.fst),
                    ()),
                  ())
            else none
        else none
    else none
theorem eq_impl_FormPage (a0 : Int × Int × Int × ByteArray × Unit) (a1 : Int) : de_impl_FormPage a0 a1 = some (((m_impl_FormPage a0 a1), ()), (())) := by
  unfold de_impl_FormPage m_impl_FormPage pageS
  show (bif !pageOk a0 a1 then _ else _) = _
  cases hp : pageOk a0 a1 with
  | false => rfl
  | true =>
    obtain ⟨hw, k1, k2, kp⟩ := pageOk_w hp
    simp only [Bool.not_true, cond_false, cond_true]
    have hb : bodyS a0 a1 = beS a0.1 1 ++ beS a0.2.1 2 ++ beS a0.2.2.1 4 ++ beS (nI a0.2.2.2.1.size) 1 ++ a0.2.2.2.1 ++ strOfNums (List.replicate (56 - a1 - a0.2.2.2.1.size).toNat 0) := rfl
    have hs4 : (beS a0.1 1 ++ beS a0.2.1 2 ++ beS a0.2.2.1 4 ++ beS (nI a0.2.2.2.1.size) 1).size = 8 := by simp only [ByteArray.size_append, beS_size]
    have hs5 : (beS a0.1 1 ++ beS a0.2.1 2 ++ beS a0.2.2.1 4 ++ beS (nI a0.2.2.2.1.size) 1 ++ a0.2.2.2.1).size = 8 + a0.2.2.2.1.size := by rw [ByteArray.size_append, hs4]
    show (bif decide ((beS a0.1 1 ++ beS a0.2.1 2 ++ beS a0.2.2.1 4 ++ beS (nI a0.2.2.2.1.size) 1).size + a0.2.2.2.1.size ≤ 9223372036854775807) then Option.bind (Option.bind (repStr (ByteArray.mk #[0]) (IntKind.wrap IntKind.i64 (IntKind.wrap IntKind.i64 (64 - a1) - nI (beS a0.1 1 ++ beS a0.2.1 2 ++ beS a0.2.2.1 4 ++ beS (nI a0.2.2.2.1.size) 1 ++ a0.2.2.2.1).size))) _) _ else none) = _
    generalize hB : beS a0.1 1 ++ beS a0.2.1 2 ++ beS a0.2.2.1 4 ++ beS (nI a0.2.2.2.1.size) 1 ++ a0.2.2.2.1 = B at *
    rw [hs4, decide_eq_true (by omega), wrap_ok (n := 64 - a1) (by omega) (by omega), hs5, wrap_ok (by simp only [nI]; omega) (by simp only [nI]; omega)]
    have hr : repStr (ByteArray.mk #[0]) (64 - a1 - nI (8 + a0.2.2.2.1.size)) = some (strOfNums (List.replicate (56 - a1 - a0.2.2.2.1.size).toNat 0)) := by
      have := rep0 (56 - a1 - a0.2.2.2.1.size).toNat (by omega)
      rw [show ((56 - a1 - a0.2.2.2.1.size).toNat : Int) = 64 - a1 - nI (8 + a0.2.2.2.1.size) by simp only [nI]; omega] at this
      exact this
    have hz : (strOfNums (List.replicate (56 - a1 - a0.2.2.2.1.size).toNat 0)).size = (56 - a1 - a0.2.2.2.1.size).toNat := by rw [size_strOfNums, List.length_replicate]
    generalize strOfNums (List.replicate (56 - a1 - a0.2.2.2.1.size).toNat 0) = Z at *
    refine bi_ (bi_ hr rfl) ?_
    have hbs : (bodyS a0 a1).size ≤ 64 := by rw [hb, ByteArray.size_append, hs5, hz]; omega
    dsimp only
    have hB' : beS a0.1 (Int.toNat 1) ++ beS a0.2.1 (Int.toNat 2) ++ beS a0.2.2.1 (Int.toNat 4) ++ beS (nI a0.2.2.2.1.size) (Int.toNat 1) ++ a0.2.2.2.1 = B := hB
    rw [hB']
    show (bif decide (ByteArray.size B + ByteArray.size Z ≤ 9223372036854775807) then Option.bind (Option.bind (m_impl_Sum (B ++ Z) a1) _) _ else none) = _
    have hm : m_impl_Sum (B ++ Z) a1 = some (sumS (bodyS a0 a1) a1) := by
      rw [← hb]
      exact if_pos (by omega)
    rw [hs5, hz, decide_eq_true (by omega)]
    refine bi_ (bi_ hm rfl) ?_
    show (bif decide (ByteArray.size (sumS (bodyS a0 a1) a1) + ByteArray.size (B ++ Z) ≤ 9223372036854775807) then some ((sumS (bodyS a0 a1) a1 ++ (B ++ Z), ()), ()) else none) = _
    rw [← hb, sumS_size hw, decide_eq_true (by omega)]
    rfl
theorem en_impl_FormPage (a0 : Int × Int × Int × ByteArray × Unit) (a1 : Int) : evalF Try.prog ta_impl_FormPage pa_impl_FormPage sg_impl_FormPage Try.f89 noL (a0, a1, ()) = de_impl_FormPage a0 a1 := by kernel_rfl
theorem si_impl_FormPage : SigsOk Try.prog ta_impl_FormPage := SigsOk.of fun f sd h => by
  try dsimp only [Tb.of, ta_impl_FormPage] at h
  split at h
  · rename_i e; subst e; cases h; exact sn_impl_be
  split at h
  · rename_i e; subst e; cases h; exact sn_strings_Repeat
  split at h
  · rename_i e; subst e; cases h; exact sn_impl_validPage
  split at h
  · rename_i e; subst e; cases h; exact sn_impl_Sum
  cases h
theorem sn_impl_FormPage : Callable Try.prog 89 ∧ Sound Try.prog 89 sd_impl_FormPage.sg sd_impl_FormPage.den :=
  fn_plain (pat := pa_impl_FormPage) (by kernel_rfl) si_impl_FormPage Try.func89 (by kernel_rfl) (by kernel_rfl) (by kernel_rfl) fun x r h => by
    obtain ⟨a0, a1, ⟨⟩⟩ := x; rw [← h]; exact (en_impl_FormPage a0 a1).trans (eq_impl_FormPage a0 a1)
def m_impl_RootPage (r : Rt) (w : Int) : ByteArray := rootS r w
def sg_impl_RootPage : Sig := ⟨[.rd (.pair (.int .i64) (.pair (.int .i64) (.pair (.int .i64) (.pair (.int .i64) .unit)))), .rd (.int .i64)], [some 4, none], [.rd .str], [none]⟩
noncomputable def sd_impl_RootPage : SD := ⟨sg_impl_RootPage, fun x => some (((m_impl_RootPage x.1 x.2.1), ()), (()))⟩
noncomputable def ta_impl_RootPage : Tb := Tb.of fun f => if f = 88 then some sd_impl_validRoot else if f = 89 then some sd_impl_FormPage else if f = 90 then some sd_impl_be else none
def pa_impl_RootPage : Nat → Pat × (Nat → Pat) := fun k => (⟨[], [], []⟩, fun _ => ⟨[], [], []⟩)
noncomputable def de_impl_RootPage (a0 : Int × Int × Int × Int × Unit) (a1 : Int) : Option ((((ByteArray) × Unit) × (Unit))) :=
  bif !m_impl_validRoot (a0.fst, a0.snd.fst, a0.snd.snd.fst, a0.snd.snd.snd.fst, ()) then some ((ByteArray.mk #[], ()), ())
  else some ((m_impl_FormPage (4, a0.snd.snd.snd.fst, a0.fst, beS a0.snd.fst (Int.toNat 1) ++ beS a0.snd.snd.fst (Int.toNat 4), ()) a1, ()), ())
theorem eq_impl_RootPage (a0 : Int × Int × Int × Int × Unit) (a1 : Int) : de_impl_RootPage a0 a1 = some (((m_impl_RootPage a0 a1), ()), (())) := by
  unfold de_impl_RootPage m_impl_RootPage rootS
  show (bif !rootOk a0 then _ else _) = _
  cases rootOk a0 <;> rfl
theorem en_impl_RootPage (a0 : Int × Int × Int × Int × Unit) (a1 : Int) : evalF Try.prog ta_impl_RootPage pa_impl_RootPage sg_impl_RootPage Try.f31 noL (a0, a1, ()) = de_impl_RootPage a0 a1 := by kernel_rfl
theorem si_impl_RootPage : SigsOk Try.prog ta_impl_RootPage := SigsOk.of fun f sd h => by
  try dsimp only [Tb.of, ta_impl_RootPage] at h
  split at h
  · rename_i e; subst e; cases h; exact sn_impl_validRoot
  split at h
  · rename_i e; subst e; cases h; exact sn_impl_FormPage
  split at h
  · rename_i e; subst e; cases h; exact sn_impl_be
  cases h
theorem sn_impl_RootPage : Callable Try.prog 31 ∧ Sound Try.prog 31 sd_impl_RootPage.sg sd_impl_RootPage.den :=
  fn_plain (pat := pa_impl_RootPage) (by kernel_rfl) si_impl_RootPage Try.func31 (by kernel_rfl) (by kernel_rfl) (by kernel_rfl) fun x r h => by
    obtain ⟨a0, a1, ⟨⟩⟩ := x; rw [← h]; exact (en_impl_RootPage a0 a1).trans (eq_impl_RootPage a0 a1)
def m_impl_Cut (e : ByteArray) (life first w : Int) : Option (List ByteArray) := if e.size ≤ 1048576 then some (cutS e life first w) else none
def fu_impl_Cut_7 (v0 : ByteArray) (v1 v2 v3 v9 v11 : Int) (r0 : List ByteArray) : Nat := (v9 - v11).toNat + 1
def sg_impl_Cut : Sig := ⟨[.rd .str, .rd (.int .i64), .rd (.int .i64), .rd (.int .i64)], [none, none, none, none], [.own 9 .str], [none]⟩
noncomputable def sd_impl_Cut : SD := ⟨sg_impl_Cut, fun x => (m_impl_Cut x.1 x.2.1 x.2.2.1 x.2.2.2.1).bind fun r => some ((r, ()), (()))⟩
noncomputable def ta_impl_Cut : Tb := Tb.of fun f => if f = 43 then some sd_impl_Pages else if f = 67 then some sd_impl_in else if f = 89 then some sd_impl_FormPage else if f = 109 then some sd_impl_room else none
def pa_impl_Cut : Nat → Pat × (Nat → Pat) := fun k => if k = 7 then (⟨[.row 10 0 9 .str], [(0, .lf (.d .str)), (1, .lf (.d (.int .i64))), (2, .lf (.d (.int .i64))), (3, .lf (.d (.int .i64))), (9, .lf (.d (.int .i64))), (10, .lf (.row 0)), (11, .lf (.d (.int .i64)))], [.row 9 .str]⟩, fun e => if e = 2 then ⟨[.row 10 0 9 .str], [(10, .lf (.row 0))], [.row 9 .str]⟩ else ⟨[], [], []⟩) else (⟨[], [], []⟩, fun _ => ⟨[], [], []⟩)
noncomputable def co_impl_Cut_7 : Code := (loopsIn (bodyOf Try.f124)).getD 0 .skip
noncomputable def tr_impl_Cut_7 {R : Type}  (NX : ((ByteArray) × (Int) × (Int) × (Int) × (Int) × (Int) × (List ByteArray) × Unit) → Option R) (X2 : ((List ByteArray) × Unit) → Option R) (v0 : ByteArray) (v1 : Int) (v2 : Int) (v3 : Int) (v9 : Int) (v11 : Int) (r0 : List ByteArray) : Option R :=
  bif decide (v11 < v9) then
    bif v11 == IntKind.wrap IntKind.i64 (v9 - 1) then
      bif decide ((List.length r0 + List.length [m_impl_FormPage (2, v1, IntKind.wrap IntKind.i64 (v2 + v11), v0, ()) v3]) * 16 ≤ 140737488355328) then
        NX (v0, v1, v2, v3, v9, IntKind.wrap IntKind.i64 (v11 + 1), r0 ++ [m_impl_FormPage (2, v1, IntKind.wrap IntKind.i64 (v2 + v11), v0, ()) v3], ())
      else none
    else
      bif decide (0 ≤ IntKind.wrap IntKind.i64 (IntKind.wrap IntKind.i64 (64 - v3) - 8)) then
        bif decide (IntKind.wrap IntKind.i64 (IntKind.wrap IntKind.i64 (64 - v3) - 8) ≤ nI (ByteArray.size v0)) then
          bif decide (0 ≤ IntKind.wrap IntKind.i64 (IntKind.wrap IntKind.i64 (64 - v3) - 8)) then
            bif decide (IntKind.wrap IntKind.i64 (IntKind.wrap IntKind.i64 (64 - v3) - 8) ≤ nI (ByteArray.size v0)) then
              bif
                  decide
                    ((List.length r0 +
                          List.length [m_impl_FormPage (1, v1, IntKind.wrap IntKind.i64 (v2 + v11), cutOf v0 0 (IntKind.wrap IntKind.i64 (IntKind.wrap IntKind.i64 (64 - v3) - 8)), ()) v3]) *
                        16 ≤
                      140737488355328) then
                NX
                  (cutOf v0 (IntKind.wrap IntKind.i64 (IntKind.wrap IntKind.i64 (64 - v3) - 8)) (nI (ByteArray.size v0)), v1, v2, v3, v9, IntKind.wrap IntKind.i64 (v11 + 1),
                    r0 ++ [m_impl_FormPage (1, v1, IntKind.wrap IntKind.i64 (v2 + v11), cutOf v0 0 (IntKind.wrap IntKind.i64 (IntKind.wrap IntKind.i64 (64 - v3) - 8)), ()) v3], ())
              else none
            else none
          else none
        else none
      else none
  else X2 (r0, ())
noncomputable def lo_impl_Cut_7 : Nat → (ByteArray) → (Int) → (Int) → (Int) → (Int) → (Int) → (List ByteArray) →  Option ((List ByteArray) × Unit)
  | 0, _, _, _, _, _, _, _ => none
  | m + 1, v0, v1, v2, v3, v9, v11, r0 => tr_impl_Cut_7  (fun d => lo_impl_Cut_7 m d.1 d.2.1 d.2.2.1 d.2.2.2.1 d.2.2.2.2.1 d.2.2.2.2.2.1 d.2.2.2.2.2.2.1) (fun d => some (d)) v0 v1 v2 v3 v9 v11 r0
theorem na_impl_Cut_7 {R S : Type}  (NX : ((ByteArray) × (Int) × (Int) × (Int) × (Int) × (Int) × (List ByteArray) × Unit) → Option R) (X2 : ((List ByteArray) × Unit) → Option R) (v0 : ByteArray) (v1 : Int) (v2 : Int) (v3 : Int) (v9 : Int) (v11 : Int) (r0 : List ByteArray) (f : R → Option S) : tr_impl_Cut_7  (fun d => (NX d).bind f) (fun d => (X2 d).bind f) v0 v1 v2 v3 v9 v11 r0 = (tr_impl_Cut_7  NX X2 v0 v1 v2 v3 v9 v11 r0).bind f := by
  unfold tr_impl_Cut_7
  simp only [cond_bind, ite_bind, onSum_bind, Option.bind_assoc, Option.bind_none, Option.bind_some]
noncomputable def de_impl_Cut (a0 : ByteArray) (a1 : Int) (a2 : Int) (a3 : Int) : Option ((((List ByteArray) × Unit) × (Unit))) :=
  Option.bind (Option.bind (m_impl_Pages a0 a3) fun val => some ((val, ()), ())) fun val =>
    bif val.fst.fst == 0 then some (([], ()), ())
    else
      bif !m_impl_in a1 1 60000 then some (([], ()), ())
      else
        bif decide (a2 < 1) then some (([], ()), ())
        else
          bif decide (a2 > IntKind.wrap IntKind.i64 (IntKind.wrap IntKind.i64 (1000000000 - val.fst.fst) + 1)) then some (([], ()), ())
          else Option.bind ((fun d => lo_impl_Cut_7 (fu_impl_Cut_7 d.1 d.2.1 d.2.2.1 d.2.2.2.1 d.2.2.2.2.1 d.2.2.2.2.2.1 d.2.2.2.2.2.2.1) d.1 d.2.1 d.2.2.1 d.2.2.2.1 d.2.2.2.2.1 d.2.2.2.2.2.1 d.2.2.2.2.2.2.1) (a0, a1, a2, a3, val.fst.fst, 0, [], ())) fun val => some ((val.fst, ()), ())
theorem cut_loop (life first w : Int) (n N : Nat) (hn : 56 - w = (n : Int)) (hw1 : 1 ≤ w) (hw8 : w ≤ 8) (hf1 : 1 ≤ first) (hf2 : first ≤ 1000000000) (hN : N ≤ 2000000) : ∀ (f m i : Nat) (s : ByteArray) (r : List ByteArray), s.size ≤ f → i + (partsGo n f s).length = N → (partsGo n f s).length < m → r.length = i →
    lo_impl_Cut_7 m s life first w N i r = some (r ++ cutGo life w (first + (i : Int)) (partsGo n f s), ()) := by
  have one : ∀ (m i : Nat) (s : ByteArray) (r : List ByteArray), i + 1 = N → 1 < m → r.length = i → lo_impl_Cut_7 m s life first w N i r = some (r ++ cutGo life w (first + (i : Int)) [s], ()) := by
    intro m i s r hi hm hr
    obtain ⟨m, rfl⟩ : ∃ k, m = k + 2 := ⟨m - 2, by omega⟩
    simp only [lo_impl_Cut_7, tr_impl_Cut_7]
    rw [decide_eq_true (show (i : Int) < (N : Int) by omega), wrap_ok (n := (N : Int) - 1) (by omega) (by omega), show (N : Int) - 1 = (i : Int) by omega, beq_self_eq_true, wrap_ok (n := first + (i : Int)) (by omega) (by omega), wrap_ok (n := (i : Int) + 1) (by omega) (by omega), List.length_singleton, decide_eq_true (show (r.length + 1) * 16 ≤ 140737488355328 by omega), decide_eq_false (show ¬ ((i : Int) + 1 < (N : Int)) by omega)]
    rfl
  intro f
  induction f with
  | zero =>
    intro m i s r hs hi hm hr
    exact one m i s r hi hm hr
  | succ f ih =>
    intro m i s r hs hi hm hr
    by_cases q : s.size > n
    · simp only [partsGo, if_pos q, List.length_cons] at hi hm ⊢
      have hc : (cutOf s n (nI s.size)).size = s.size - n := by rw [cutOf_size (by omega) (by simp only [nI]; omega) (by simp [nI])]; simp only [nI]; omega
      obtain ⟨m, rfl⟩ : ∃ k, m = k + 1 := ⟨m - 1, by omega⟩
      have hL : 1 ≤ (partsGo n f (cutOf s n (nI s.size))).length := by
        cases f with
        | zero => simp [partsGo]
        | succ f => unfold partsGo; split <;> simp
      have ih := ih m (i + 1) (cutOf s n (nI s.size)) (r ++ [pageS (1, life, first + (i : Int), cutOf s 0 n, ()) w]) (by omega) (by omega) (by omega) (by rw [List.length_append, List.length_singleton, hr])
      simp only [lo_impl_Cut_7, tr_impl_Cut_7]
      rw [decide_eq_true (show (i : Int) < (N : Int) by omega), wrap_ok (n := (N : Int) - 1) (by omega) (by omega), beq_eq_false_iff_ne.2 (show (i : Int) ≠ (N : Int) - 1 by omega), wrap_ok (n := first + (i : Int)) (by omega) (by omega), wI (show i < 4611686018427387904 by omega), wrap_ok (n := 64 - w) (by omega) (by omega), wrap_ok (n := 64 - w - 8) (by omega) (by omega), show 64 - w - 8 = (n : Int) by omega, decide_eq_true (show (0 : Int) ≤ (n : Int) by omega), decide_eq_true (show (n : Int) ≤ nI s.size by simp only [nI]; omega), List.length_singleton, List.length_singleton, decide_eq_true (show (r.length + 1) * 16 ≤ 140737488355328 by omega)]
      refine Eq.trans ih ?_
      rw [List.append_assoc, show first + ((i + 1 : Nat) : Int) = first + (i : Int) + 1 by omega]
      generalize partsGo n f (cutOf s n (nI s.size)) = L at *
      cases L with
      | nil => simp at hL
      | cons a b => rfl
    · simp only [partsGo, if_neg q, List.length_singleton] at hi hm ⊢
      exact one m i s r hi hm hr
theorem eq_impl_Cut (a0 : ByteArray) (a1 : Int) (a2 : Int) (a3 : Int) r (h : m_impl_Cut a0 a1 a2 a3 = some r) : de_impl_Cut a0 a1 a2 a3 = some ((r, ()), (())) := by
  unfold m_impl_Cut at h
  split at h
  rotate_left
  · cases h
  rename_i hc
  cases h
  have n1 : m_impl_Pages a0 a3 = some (pagesN a0.size a3) := if_pos (by omega)
  unfold de_impl_Cut cutS
  refine bi_ (bi_ n1 rfl) ?_
  show (bif pagesN a0.size a3 == 0 then _ else (bif !inB a1 1 60000 then _ else _)) = _
  cases hw : inB a3 1 8 with
  | false =>
    have : pagesN a0.size a3 = 0 := by unfold pagesN; rw [hw]; rfl
    rw [this]
    rfl
  | true =>
    obtain ⟨k1, k2⟩ := inB_r hw
    have hp := pages_same (s := a0) hw
    have hP : pagesN a0.size a3 = ((partsS a0 a3).length : Int) := by unfold pagesN; rw [hw]; exact hp.symm
    have hlen : (partsS a0 a3).length ≤ a0.size + 1 := parts_count _ _ _
    have h1 : 1 ≤ (partsS a0 a3).length := by
      have : (1 : Int) ≤ ((partsS a0 a3).length : Int) := by rw [hp]; split <;> omega
      omega
    rw [hP, beq_eq_false_iff_ne.2 (show ((partsS a0 a3).length : Int) ≠ 0 by omega)]
    cases hl : inB a1 1 60000 with
    | false => rfl
    | true =>
      show (bif decide (a2 < 1) then _ else (bif decide (a2 > IntKind.wrap IntKind.i64 (IntKind.wrap IntKind.i64 (1000000000 - ((partsS a0 a3).length : Int)) + 1)) then _ else (Option.bind (lo_impl_Cut_7 (fu_impl_Cut_7 a0 a1 a2 a3 ((partsS a0 a3).length : Int) 0 []) a0 a1 a2 a3 ((partsS a0 a3).length : Int) 0 []) _))) = _
      rw [wrap_ok (n := 1000000000 - ((partsS a0 a3).length : Int)) (by omega) (by omega), wrap_ok (n := 1000000000 - ((partsS a0 a3).length : Int) + 1) (by omega) (by omega)]
      by_cases q1 : a2 < 1
      · rw [decide_eq_true q1, decide_eq_false (show ¬ 1 ≤ a2 by omega)]; rfl
      · rw [decide_eq_false q1, decide_eq_true (show 1 ≤ a2 by omega)]
        by_cases q2 : a2 > 1000000000 - ((partsS a0 a3).length : Int) + 1
        · rw [decide_eq_true q2, decide_eq_false (show ¬ a2 ≤ 1000000000 - ((partsS a0 a3).length : Int) + 1 by omega)]; rfl
        · rw [decide_eq_false q2, decide_eq_true (show a2 ≤ 1000000000 - ((partsS a0 a3).length : Int) + 1 by omega)]
          obtain ⟨n, hn⟩ : ∃ n : Nat, 56 - a3 = (n : Int) := ⟨(56 - a3).toNat, by omega⟩
          have hS : partsS a0 a3 = partsGo n a0.size a0 := by unfold partsS; rw [hn, Int.toNat_natCast]
          have hL := cut_loop a1 a2 a3 n (partsS a0 a3).length hn k1 k2 (by omega) (by omega) (by omega) a0.size (fu_impl_Cut_7 a0 a1 a2 a3 ((partsS a0 a3).length : Int) 0 []) 0 a0 [] (Nat.le_refl _) (by rw [← hS]; omega) (by rw [← hS]; simp only [fu_impl_Cut_7]; omega) rfl
          rw [← hS, List.nil_append, show a2 + ((0 : Nat) : Int) = a2 by omega] at hL
          exact bi_ hL rfl
noncomputable def ou_impl_Cut_7 {R : Type} (k : Kt R) : ((List ByteArray) × Unit) → Option R := (fun d => k (.exit 0) (((pa_impl_Cut 7).2 2).st d) (((pa_impl_Cut 7).2 2).nid))
noncomputable def L_impl_Cut {R : Type} : Lt R pa_impl_Cut := (addL (pat := pa_impl_Cut) 7 (fun d k => (lo_impl_Cut_7 (fu_impl_Cut_7 d.1 d.2.1 d.2.2.1 d.2.2.2.1 d.2.2.2.2.1 d.2.2.2.2.2.1 d.2.2.2.2.2.2.1) d.1 d.2.1 d.2.2.1 d.2.2.2.1 d.2.2.2.2.1 d.2.2.2.2.2.1 d.2.2.2.2.2.2.1).bind (ou_impl_Cut_7 k)) noL)
theorem rd_impl_Cut_7 {R : Type} (nx : (pa_impl_Cut 7).1.D → Kt R → Option R) (k : Kt R) (v0 : ByteArray) (v1 : Int) (v2 : Int) (v3 : Int) (v9 : Int) (v11 : Int) (r0 : List ByteArray) : ev Try.prog ⟨ta_impl_Cut, 0, 67, pa_impl_Cut⟩ L_impl_Cut co_impl_Cut_7 ((pa_impl_Cut 7).1.st (v0, v1, v2, v3, v9, v11, r0, ())) (pa_impl_Cut 7).1.nid (roundK 0 (pa_impl_Cut 7) nx k) = tr_impl_Cut_7  (fun d => nx d k) (fun d => k (.exit 0) (((pa_impl_Cut 7).2 2).st d) (((pa_impl_Cut 7).2 2).nid)) v0 v1 v2 v3 v9 v11 r0 := by kernel_rfl
theorem lp_impl_Cut_7 {R : Type} : ∀ (m : Nat) (d : (pa_impl_Cut 7).1.D) (k : Kt R), loopN 0 (pa_impl_Cut 7) (fun s nid k => ev Try.prog ⟨ta_impl_Cut, 0, 67, pa_impl_Cut⟩ L_impl_Cut co_impl_Cut_7 s nid k) m d k = (lo_impl_Cut_7 m d.1 d.2.1 d.2.2.1 d.2.2.2.1 d.2.2.2.2.1 d.2.2.2.2.2.1 d.2.2.2.2.2.2.1).bind (ou_impl_Cut_7 k)
  | 0, _, _ => rfl
  | m + 1, ⟨v0, v1, v2, v3, v9, v11, r0, ⟨⟩⟩, k => (rd_impl_Cut_7 _ k v0 v1 v2 v3 v9 v11 r0).trans ((congrArg (fun F => tr_impl_Cut_7  F (fun d => k (.exit 0) (((pa_impl_Cut 7).2 2).st d) (((pa_impl_Cut 7).2 2).nid)) v0 v1 v2 v3 v9 v11 r0) (funext fun d => lp_impl_Cut_7 m d k)).trans (na_impl_Cut_7 (f := ou_impl_Cut_7 k)  (fun d => lo_impl_Cut_7 m d.1 d.2.1 d.2.2.1 d.2.2.2.1 d.2.2.2.2.1 d.2.2.2.2.2.1 d.2.2.2.2.2.2.1) (fun d => some (d)) v0 v1 v2 v3 v9 v11 r0))
theorem en_impl_Cut (a0 : ByteArray) (a1 : Int) (a2 : Int) (a3 : Int) : evalF Try.prog ta_impl_Cut pa_impl_Cut sg_impl_Cut Try.f124 L_impl_Cut (a0, a1, a2, a3, ()) = de_impl_Cut a0 a1 a2 a3 := by kernel_rfl
theorem si_impl_Cut : SigsOk Try.prog ta_impl_Cut := SigsOk.of fun f sd h => by
  try dsimp only [Tb.of, ta_impl_Cut] at h
  split at h
  · rename_i e; subst e; cases h; exact sn_impl_Pages
  split at h
  · rename_i e; subst e; cases h; exact sn_impl_in
  split at h
  · rename_i e; subst e; cases h; exact sn_impl_FormPage
  split at h
  · rename_i e; subst e; cases h; exact sn_impl_room
  cases h
theorem lk_impl_Cut_7 {R : Type} : LoopOk Try.prog R 67 0 pa_impl_Cut L_impl_Cut co_impl_Cut_7 :=
  loop_key (cfg := ⟨ta_impl_Cut, 0, 67, pa_impl_Cut⟩) (key := 7) (by kernel_rfl) (by kernel_rfl) si_impl_Cut rfl rfl (fun d k r h => ⟨fu_impl_Cut_7 d.1 d.2.1 d.2.2.1 d.2.2.2.1 d.2.2.2.2.1 d.2.2.2.2.2.1 d.2.2.2.2.2.2.1, (lp_impl_Cut_7 _ d k).trans h⟩) (fun c hc => by rw [show loopsIn co_impl_Cut_7 = [] from by kernel_rfl] at hc; cases hc)
theorem sn_impl_Cut : Callable Try.prog 124 ∧ Sound Try.prog 124 sd_impl_Cut.sg sd_impl_Cut.den :=
  fn_loops (pat := pa_impl_Cut) L_impl_Cut (by kernel_rfl) si_impl_Cut Try.func124 (by kernel_rfl) (by kernel_rfl) (fun c hc => by rw [show loopsIn (bodyOf Try.f124) = [co_impl_Cut_7] from by kernel_rfl] at hc; simp only [List.mem_cons, List.not_mem_nil, or_false] at hc; rcases hc with rfl <;> first | exact lk_impl_Cut_7) fun x r h => by
    obtain ⟨a0, a1, a2, a3, ⟨⟩⟩ := x; obtain ⟨y, h1, h2⟩ := Option.bind_eq_some_iff.1 (show (m_impl_Cut a0 a1 a2 a3).bind (fun r => some ((r, ()), (()))) = some r from h); cases h2; exact (en_impl_Cut a0 a1 a2 a3).trans (eq_impl_Cut a0 a1 a2 a3 _ h1)
def m_impl_begin (h n : Int) : Int := IntKind.wrap IntKind.i64 (2 + IntKind.wrap IntKind.i64 (h * m_impl_Halves n))
def sg_impl_begin : Sig := ⟨[.rd (.int .i64), .rd (.int .i64)], [none, none], [.rd (.int .i64)], [none]⟩
noncomputable def sd_impl_begin : SD := ⟨sg_impl_begin, fun x => some (((m_impl_begin x.1 x.2.1), ()), (()))⟩
noncomputable def ta_impl_begin : Tb := Tb.of fun f => if f = 123 then some sd_impl_Halves else none
def pa_impl_begin : Nat → Pat × (Nat → Pat) := fun k => (⟨[], [], []⟩, fun _ => ⟨[], [], []⟩)
noncomputable def de_impl_begin (a0 : Int) (a1 : Int) : Option ((((Int) × Unit) × (Unit))) :=
  some ((IntKind.wrap IntKind.i64 (2 + IntKind.wrap IntKind.i64 (a0 * m_impl_Halves a1)), ()), ())
theorem eq_impl_begin (a0 : Int) (a1 : Int) : de_impl_begin a0 a1 = some (((m_impl_begin a0 a1), ()), (())) := rfl
theorem en_impl_begin (a0 : Int) (a1 : Int) : evalF Try.prog ta_impl_begin pa_impl_begin sg_impl_begin Try.f125 noL (a0, a1, ()) = de_impl_begin a0 a1 := by kernel_rfl
theorem si_impl_begin : SigsOk Try.prog ta_impl_begin := SigsOk.of fun f sd h => by
  try dsimp only [Tb.of, ta_impl_begin] at h
  split at h
  · rename_i e; subst e; cases h; exact sn_impl_Halves
  cases h
theorem sn_impl_begin : Callable Try.prog 125 ∧ Sound Try.prog 125 sd_impl_begin.sg sd_impl_begin.den :=
  fn_plain (pat := pa_impl_begin) (by kernel_rfl) si_impl_begin Try.func125 (by kernel_rfl) (by kernel_rfl) (by kernel_rfl) fun x r h => by
    obtain ⟨a0, a1, ⟨⟩⟩ := x; rw [← h]; exact (en_impl_begin a0 a1).trans (eq_impl_begin a0 a1)
def m_impl_copyState (s : Stt) : Option Stt := if s.1.length ≤ 1000000 then some (s.1, ()) else none
def sg_impl_copyState : Sig := ⟨[.rd (.pair (.sl (.pair .str (.pair .str .unit))) .unit)], [some 1], [.own 151 (.pair .str (.pair .str .unit))], [some 1]⟩
noncomputable def sd_impl_copyState : SD := ⟨sg_impl_copyState, fun x => (m_impl_copyState x.1).bind fun r => some ((r.1, ()), (()))⟩
noncomputable def ta_impl_copyState : Tb := Tb.of fun f => none
def pa_impl_copyState : Nat → Pat × (Nat → Pat) := fun k => (⟨[], [], []⟩, fun _ => ⟨[], [], []⟩)
noncomputable def de_impl_copyState (a0 : (List (ByteArray × ByteArray × Unit)) × Unit) : Option ((((List (ByteArray × ByteArray × Unit)) × Unit) × (Unit))) :=
  bif decide ((0 + List.length a0.fst) * 32 ≤ 140737488355328) then some (([] ++ a0.fst, ()), ()) else none
theorem eq_impl_copyState (a0 : Stt) r (h : m_impl_copyState a0 = some r) : de_impl_copyState a0 = some ((r.1, ()), (())) := by
  unfold m_impl_copyState at h
  split at h
  · rename_i hc
    cases h
    unfold de_impl_copyState
    rw [decide_eq_true (show (0 + a0.1.length) * 32 ≤ 140737488355328 by omega)]
    rfl
  · cases h
theorem en_impl_copyState (a0 : (List (ByteArray × ByteArray × Unit)) × Unit) : evalF Try.prog ta_impl_copyState pa_impl_copyState sg_impl_copyState Try.f126 noL (a0, ()) = de_impl_copyState a0 := by kernel_rfl
theorem si_impl_copyState : SigsOk Try.prog ta_impl_copyState := SigsOk.of fun f sd h => by
  try dsimp only [Tb.of, ta_impl_copyState] at h
  cases h
theorem sn_impl_copyState : Callable Try.prog 126 ∧ Sound Try.prog 126 sd_impl_copyState.sg sd_impl_copyState.den :=
  fn_plain (pat := pa_impl_copyState) (by kernel_rfl) si_impl_copyState Try.func126 (by kernel_rfl) (by kernel_rfl) (by kernel_rfl) fun x r h => by
    obtain ⟨a0, ⟨⟩⟩ := x; obtain ⟨y, h1, h2⟩ := Option.bind_eq_some_iff.1 (show (m_impl_copyState a0).bind (fun r => some ((r.1, ()), (()))) = some r from h); cases h2; exact (en_impl_copyState a0).trans (eq_impl_copyState a0 _ h1)
def m_impl_move (s : Sto) (life : Int) : Option (Sto × List Opn × Bool) := if moveOk s then some (moveS s life) else none
def sg_impl_move : Sig := ⟨[.rd (.pair (.int .i64) (.pair (.int .i64) (.pair (.int .i64) (.pair (.pair (.int .i64) (.pair (.int .i64) (.pair (.int .i64) (.pair (.int .i64) .unit)))) (.pair (.int .i64) (.pair (.int .i64) (.pair (.pair (.sl (.pair .str (.pair .str .unit))) .unit) .unit))))))), .rd (.int .i64)], [some 10, none], [.rd (.int .i64), .rd (.int .i64), .rd (.int .i64), .rd (.int .i64), .rd (.int .i64), .rd (.int .i64), .rd (.int .i64), .rd (.int .i64), .rd (.int .i64), .own 151 (.pair .str (.pair .str .unit)), .own 57 (.pair .bool (.pair (.int .i64) (.pair .str .unit))), .rd .bool], [some 10, none, none]⟩
noncomputable def sd_impl_move : SD := ⟨sg_impl_move, fun x => (m_impl_move x.1 x.2.1).bind fun r => some ((r.1.1, r.1.2.1, r.1.2.2.1, r.1.2.2.2.1.1, r.1.2.2.2.1.2.1, r.1.2.2.2.1.2.2.1, r.1.2.2.2.1.2.2.2.1, r.1.2.2.2.2.1, r.1.2.2.2.2.2.1, r.1.2.2.2.2.2.2.1.1, r.2.1, r.2.2, ()), (()))⟩
noncomputable def ta_impl_move : Tb := Tb.of fun f => if f = 31 then some sd_impl_RootPage else if f = 42 then some sd_impl_Snapshot else if f = 44 then some sd_impl_FormBatch else if f = 89 then some sd_impl_FormPage else if f = 123 then some sd_impl_Halves else if f = 124 then some sd_impl_Cut else if f = 125 then some sd_impl_begin else if f = 126 then some sd_impl_copyState else none
def pa_impl_move : Nat → Pat × (Nat → Pat) := fun k => if k = 8 then (⟨[.row 9 0 9 .str, .sl 52 0 (.sl (.pair .str (.pair .str (.pair .bool .unit)))), .boxSl 2 9 (.pair .str (.pair .str .unit)), .boxRow 4 9 151 (.pair .str (.pair .str .unit))], [(1, .lf (.d (.int .i64))), (2, .lf (.ptr 0 0)), (4, .lf (.ptr 1 0)), (8, .lf (.ptr 2 0)), (9, .lf (.row 3)), (52, .lf (.d (.sl (.sl (.pair .str (.pair .str (.pair .bool .unit))))))), (53, .lf (.d (.int .i64))), (54, .lf (.d (.int .i64)))], [.box 35 [.d (.int .i64), .d (.int .i64), .d (.int .i64), .d (.int .i64), .d (.int .i64), .d (.int .i64), .d (.int .i64), .d (.int .i64), .d (.int .i64), .d (.sl (.pair .str (.pair .str .unit)))], .box 35 [.d (.int .i64), .d (.int .i64), .d (.int .i64), .d (.int .i64), .d (.int .i64), .d (.int .i64), .d (.int .i64), .d (.int .i64), .d (.int .i64), .row 4], .box 30 [.d (.int .i64), .d (.int .i64), .d (.int .i64), .d (.int .i64)], .row 9 .str, .row 151 (.pair .str (.pair .str .unit))]⟩, fun e => if e = 2 then ⟨[.row 9 0 9 .str, .boxSl 2 9 (.pair .str (.pair .str .unit)), .boxRow 4 9 151 (.pair .str (.pair .str .unit))], [(1, .lf (.d (.int .i64))), (2, .lf (.ptr 0 0)), (4, .lf (.ptr 1 0)), (8, .lf (.ptr 2 0)), (9, .lf (.row 3))], [.box 35 [.d (.int .i64), .d (.int .i64), .d (.int .i64), .d (.int .i64), .d (.int .i64), .d (.int .i64), .d (.int .i64), .d (.int .i64), .d (.int .i64), .d (.sl (.pair .str (.pair .str .unit)))], .box 35 [.d (.int .i64), .d (.int .i64), .d (.int .i64), .d (.int .i64), .d (.int .i64), .d (.int .i64), .d (.int .i64), .d (.int .i64), .d (.int .i64), .row 4], .box 30 [.d (.int .i64), .d (.int .i64), .d (.int .i64), .d (.int .i64)], .row 9 .str, .row 151 (.pair .str (.pair .str .unit))]⟩ else ⟨[], [], []⟩) else if k = 14 then (⟨[.sl 9 0 .str, .row 12 0 57 (.pair .bool (.pair (.int .i64) (.pair .str .unit))), .sl 72 0 .str, .boxSl 2 9 (.pair .str (.pair .str .unit)), .boxRow 4 9 151 (.pair .str (.pair .str .unit))], [(1, .lf (.d (.int .i64))), (2, .lf (.ptr 0 0)), (4, .lf (.ptr 1 0)), (8, .lf (.ptr 2 0)), (9, .lf (.d (.sl .str))), (12, .lf (.row 3)), (72, .lf (.d (.sl .str))), (73, .lf (.d (.int .i64))), (74, .lf (.d (.int .i64)))], [.box 35 [.d (.int .i64), .d (.int .i64), .d (.int .i64), .d (.int .i64), .d (.int .i64), .d (.int .i64), .d (.int .i64), .d (.int .i64), .d (.int .i64), .d (.sl (.pair .str (.pair .str .unit)))], .box 35 [.d (.int .i64), .d (.int .i64), .d (.int .i64), .d (.int .i64), .d (.int .i64), .d (.int .i64), .d (.int .i64), .d (.int .i64), .d (.int .i64), .row 4], .box 30 [.d (.int .i64), .d (.int .i64), .d (.int .i64), .d (.int .i64)], .row 57 (.pair .bool (.pair (.int .i64) (.pair .str .unit))), .row 151 (.pair .str (.pair .str .unit))]⟩, fun e => if e = 4 then ⟨[.sl 9 0 .str, .row 12 0 57 (.pair .bool (.pair (.int .i64) (.pair .str .unit))), .boxSl 2 9 (.pair .str (.pair .str .unit)), .boxRow 4 9 151 (.pair .str (.pair .str .unit))], [(1, .lf (.d (.int .i64))), (2, .lf (.ptr 0 0)), (4, .lf (.ptr 1 0)), (8, .lf (.ptr 2 0)), (9, .lf (.d (.sl .str))), (12, .lf (.row 3))], [.box 35 [.d (.int .i64), .d (.int .i64), .d (.int .i64), .d (.int .i64), .d (.int .i64), .d (.int .i64), .d (.int .i64), .d (.int .i64), .d (.int .i64), .d (.sl (.pair .str (.pair .str .unit)))], .box 35 [.d (.int .i64), .d (.int .i64), .d (.int .i64), .d (.int .i64), .d (.int .i64), .d (.int .i64), .d (.int .i64), .d (.int .i64), .d (.int .i64), .row 4], .box 30 [.d (.int .i64), .d (.int .i64), .d (.int .i64), .d (.int .i64)], .row 57 (.pair .bool (.pair (.int .i64) (.pair .str .unit))), .row 151 (.pair .str (.pair .str .unit))]⟩ else ⟨[], [], []⟩) else (⟨[], [], []⟩, fun _ => ⟨[], [], []⟩)
noncomputable def co_impl_move_8 : Code := (loopsIn (bodyOf Try.f53)).getD 0 .skip
noncomputable def co_impl_move_14 : Code := (loopsIn (bodyOf Try.f53)).getD 1 .skip
def fu_impl_move_14 (v1 : Int) (v9 : List ByteArray) (v72 : List ByteArray) (v73 : Int) (v74 : Int) (b0_0 : Int) (b0_1 : Int) (b0_2 : Int) (b0_3 : Int) (b0_4 : Int) (b0_5 : Int) (b0_6 : Int) (b0_7 : Int) (b0_8 : Int) (b0_9 : List (ByteArray × ByteArray × Unit)) (b1_0 : Int) (b1_1 : Int) (b1_2 : Int) (b1_3 : Int) (b1_4 : Int) (b1_5 : Int) (b1_6 : Int) (b1_7 : Int) (b1_8 : Int) (b2_0 : Int) (b2_1 : Int) (b2_2 : Int) (b2_3 : Int) (r3 : List (Bool × Int × ByteArray × Unit)) (r4 : List (ByteArray × ByteArray × Unit)) : Nat := (v73 - v74).toNat + 1
noncomputable def tr_impl_move_14 {R : Type}  (NX : ((Int) × (List ByteArray) × (List ByteArray) × (Int) × (Int) × (Int) × (Int) × (Int) × (Int) × (Int) × (Int) × (Int) × (Int) × (Int) × (List (ByteArray × ByteArray × Unit)) × (Int) × (Int) × (Int) × (Int) × (Int) × (Int) × (Int) × (Int) × (Int) × (Int) × (Int) × (Int) × (Int) × (List (Bool × Int × ByteArray × Unit)) × (List (ByteArray × ByteArray × Unit)) × Unit) → Option R) (X4 : ((Int) × (List ByteArray) × (Int) × (Int) × (Int) × (Int) × (Int) × (Int) × (Int) × (Int) × (Int) × (List (ByteArray × ByteArray × Unit)) × (Int) × (Int) × (Int) × (Int) × (Int) × (Int) × (Int) × (Int) × (Int) × (Int) × (Int) × (Int) × (Int) × (List (Bool × Int × ByteArray × Unit)) × (List (ByteArray × ByteArray × Unit)) × Unit) → Option R) (v1 : Int) (v9 : List ByteArray) (v72 : List ByteArray) (v73 : Int) (v74 : Int) (b0_0 : Int) (b0_1 : Int) (b0_2 : Int) (b0_3 : Int) (b0_4 : Int) (b0_5 : Int) (b0_6 : Int) (b0_7 : Int) (b0_8 : Int) (b0_9 : List (ByteArray × ByteArray × Unit)) (b1_0 : Int) (b1_1 : Int) (b1_2 : Int) (b1_3 : Int) (b1_4 : Int) (b1_5 : Int) (b1_6 : Int) (b1_7 : Int) (b1_8 : Int) (b2_0 : Int) (b2_1 : Int) (b2_2 : Int) (b2_3 : Int) (r3 : List (Bool × Int × ByteArray × Unit)) (r4 : List (ByteArray × ByteArray × Unit)) : Option R :=
  bif decide (v74 < v73) then
    bif decide (0 ≤ v74) then
      bif decide (v74 < nI (List.length v72)) then
        bif decide ((List.length r3 + List.length [(false, IntKind.wrap IntKind.i64 (m_impl_begin b2_1 b0_1 + v74), List.getD v72 (Int.toNat v74) (ByteArray.mk #[]), ())]) * 32 ≤ 140737488355328) then
          NX
            (v1, v9, v72, v73, IntKind.wrap IntKind.i64 (v74 + 1), b0_0, b0_1, b0_2, b0_3, b0_4, b0_5, b0_6, b0_7, b0_8, b0_9, b1_0, b1_1, b1_2, b1_3, b1_4, b1_5, b1_6, b1_7, b1_8, b2_0, b2_1, b2_2,
              b2_3, r3 ++ [(false, IntKind.wrap IntKind.i64 (m_impl_begin b2_1 b0_1 + v74), List.getD v72 (Int.toNat v74) (ByteArray.mk #[]), ())], r4, ())
        else none
      else none
    else none
  else X4 (v1, v9, b0_0, b0_1, b0_2, b0_3, b0_4, b0_5, b0_6, b0_7, b0_8, b0_9, b1_0, b1_1, b1_2, b1_3, b1_4, b1_5, b1_6, b1_7, b1_8, b2_0, b2_1, b2_2, b2_3, r3, r4, ())
noncomputable def lo_impl_move_14 : Nat → (Int) → (List ByteArray) → (List ByteArray) → (Int) → (Int) → (Int) → (Int) → (Int) → (Int) → (Int) → (Int) → (Int) → (Int) → (Int) → (List (ByteArray × ByteArray × Unit)) → (Int) → (Int) → (Int) → (Int) → (Int) → (Int) → (Int) → (Int) → (Int) → (Int) → (Int) → (Int) → (Int) → (List (Bool × Int × ByteArray × Unit)) → (List (ByteArray × ByteArray × Unit)) →  Option ((Int) × (List ByteArray) × (Int) × (Int) × (Int) × (Int) × (Int) × (Int) × (Int) × (Int) × (Int) × (List (ByteArray × ByteArray × Unit)) × (Int) × (Int) × (Int) × (Int) × (Int) × (Int) × (Int) × (Int) × (Int) × (Int) × (Int) × (Int) × (Int) × (List (Bool × Int × ByteArray × Unit)) × (List (ByteArray × ByteArray × Unit)) × Unit)
  | 0, _, _, _, _, _, _, _, _, _, _, _, _, _, _, _, _, _, _, _, _, _, _, _, _, _, _, _, _, _, _ => none
  | m + 1, v1, v9, v72, v73, v74, b0_0, b0_1, b0_2, b0_3, b0_4, b0_5, b0_6, b0_7, b0_8, b0_9, b1_0, b1_1, b1_2, b1_3, b1_4, b1_5, b1_6, b1_7, b1_8, b2_0, b2_1, b2_2, b2_3, r3, r4 => tr_impl_move_14  (fun d => lo_impl_move_14 m d.1 d.2.1 d.2.2.1 d.2.2.2.1 d.2.2.2.2.1 d.2.2.2.2.2.1 d.2.2.2.2.2.2.1 d.2.2.2.2.2.2.2.1 d.2.2.2.2.2.2.2.2.1 d.2.2.2.2.2.2.2.2.2.1 d.2.2.2.2.2.2.2.2.2.2.1 d.2.2.2.2.2.2.2.2.2.2.2.1 d.2.2.2.2.2.2.2.2.2.2.2.2.1 d.2.2.2.2.2.2.2.2.2.2.2.2.2.1 d.2.2.2.2.2.2.2.2.2.2.2.2.2.2.1 d.2.2.2.2.2.2.2.2.2.2.2.2.2.2.2.1 d.2.2.2.2.2.2.2.2.2.2.2.2.2.2.2.2.1 d.2.2.2.2.2.2.2.2.2.2.2.2.2.2.2.2.2.1 d.2.2.2.2.2.2.2.2.2.2.2.2.2.2.2.2.2.2.1 d.2.2.2.2.2.2.2.2.2.2.2.2.2.2.2.2.2.2.2.1 d.2.2.2.2.2.2.2.2.2.2.2.2.2.2.2.2.2.2.2.2.1 d.2.2.2.2.2.2.2.2.2.2.2.2.2.2.2.2.2.2.2.2.2.1 d.2.2.2.2.2.2.2.2.2.2.2.2.2.2.2.2.2.2.2.2.2.2.1 d.2.2.2.2.2.2.2.2.2.2.2.2.2.2.2.2.2.2.2.2.2.2.2.1 d.2.2.2.2.2.2.2.2.2.2.2.2.2.2.2.2.2.2.2.2.2.2.2.2.1 d.2.2.2.2.2.2.2.2.2.2.2.2.2.2.2.2.2.2.2.2.2.2.2.2.2.1 d.2.2.2.2.2.2.2.2.2.2.2.2.2.2.2.2.2.2.2.2.2.2.2.2.2.2.1 d.2.2.2.2.2.2.2.2.2.2.2.2.2.2.2.2.2.2.2.2.2.2.2.2.2.2.2.1 d.2.2.2.2.2.2.2.2.2.2.2.2.2.2.2.2.2.2.2.2.2.2.2.2.2.2.2.2.1 d.2.2.2.2.2.2.2.2.2.2.2.2.2.2.2.2.2.2.2.2.2.2.2.2.2.2.2.2.2.1) (fun d => some (d)) v1 v9 v72 v73 v74 b0_0 b0_1 b0_2 b0_3 b0_4 b0_5 b0_6 b0_7 b0_8 b0_9 b1_0 b1_1 b1_2 b1_3 b1_4 b1_5 b1_6 b1_7 b1_8 b2_0 b2_1 b2_2 b2_3 r3 r4
theorem na_impl_move_14 {R S : Type}  (NX : ((Int) × (List ByteArray) × (List ByteArray) × (Int) × (Int) × (Int) × (Int) × (Int) × (Int) × (Int) × (Int) × (Int) × (Int) × (Int) × (List (ByteArray × ByteArray × Unit)) × (Int) × (Int) × (Int) × (Int) × (Int) × (Int) × (Int) × (Int) × (Int) × (Int) × (Int) × (Int) × (Int) × (List (Bool × Int × ByteArray × Unit)) × (List (ByteArray × ByteArray × Unit)) × Unit) → Option R) (X4 : ((Int) × (List ByteArray) × (Int) × (Int) × (Int) × (Int) × (Int) × (Int) × (Int) × (Int) × (Int) × (List (ByteArray × ByteArray × Unit)) × (Int) × (Int) × (Int) × (Int) × (Int) × (Int) × (Int) × (Int) × (Int) × (Int) × (Int) × (Int) × (Int) × (List (Bool × Int × ByteArray × Unit)) × (List (ByteArray × ByteArray × Unit)) × Unit) → Option R) (v1 : Int) (v9 : List ByteArray) (v72 : List ByteArray) (v73 : Int) (v74 : Int) (b0_0 : Int) (b0_1 : Int) (b0_2 : Int) (b0_3 : Int) (b0_4 : Int) (b0_5 : Int) (b0_6 : Int) (b0_7 : Int) (b0_8 : Int) (b0_9 : List (ByteArray × ByteArray × Unit)) (b1_0 : Int) (b1_1 : Int) (b1_2 : Int) (b1_3 : Int) (b1_4 : Int) (b1_5 : Int) (b1_6 : Int) (b1_7 : Int) (b1_8 : Int) (b2_0 : Int) (b2_1 : Int) (b2_2 : Int) (b2_3 : Int) (r3 : List (Bool × Int × ByteArray × Unit)) (r4 : List (ByteArray × ByteArray × Unit)) (f : R → Option S) : tr_impl_move_14  (fun d => (NX d).bind f) (fun d => (X4 d).bind f) v1 v9 v72 v73 v74 b0_0 b0_1 b0_2 b0_3 b0_4 b0_5 b0_6 b0_7 b0_8 b0_9 b1_0 b1_1 b1_2 b1_3 b1_4 b1_5 b1_6 b1_7 b1_8 b2_0 b2_1 b2_2 b2_3 r3 r4 = (tr_impl_move_14  NX X4 v1 v9 v72 v73 v74 b0_0 b0_1 b0_2 b0_3 b0_4 b0_5 b0_6 b0_7 b0_8 b0_9 b1_0 b1_1 b1_2 b1_3 b1_4 b1_5 b1_6 b1_7 b1_8 b2_0 b2_1 b2_2 b2_3 r3 r4).bind f := by
  unfold tr_impl_move_14
  simp only [cond_bind, ite_bind, onSum_bind, Option.bind_assoc, Option.bind_none, Option.bind_some]
def fu_impl_move_8 (v1 : Int) (v52 : List (List (ByteArray × ByteArray × Bool × Unit))) (v53 : Int) (v54 : Int) (b0_0 : Int) (b0_1 : Int) (b0_2 : Int) (b0_3 : Int) (b0_4 : Int) (b0_5 : Int) (b0_6 : Int) (b0_7 : Int) (b0_8 : Int) (b0_9 : List (ByteArray × ByteArray × Unit)) (b1_0 : Int) (b1_1 : Int) (b1_2 : Int) (b1_3 : Int) (b1_4 : Int) (b1_5 : Int) (b1_6 : Int) (b1_7 : Int) (b1_8 : Int) (b2_0 : Int) (b2_1 : Int) (b2_2 : Int) (b2_3 : Int) (r3 : List ByteArray) (r4 : List (ByteArray × ByteArray × Unit)) : Nat := (v53 - v54).toNat + 1
noncomputable def tr_impl_move_8 {R : Type}  (NX : ((Int) × (List (List (ByteArray × ByteArray × Bool × Unit))) × (Int) × (Int) × (Int) × (Int) × (Int) × (Int) × (Int) × (Int) × (Int) × (Int) × (Int) × (List (ByteArray × ByteArray × Unit)) × (Int) × (Int) × (Int) × (Int) × (Int) × (Int) × (Int) × (Int) × (Int) × (Int) × (Int) × (Int) × (Int) × (List ByteArray) × (List (ByteArray × ByteArray × Unit)) × Unit) → Option R) (X2 : ((Int) × (Int) × (Int) × (Int) × (Int) × (Int) × (Int) × (Int) × (Int) × (Int) × (List (ByteArray × ByteArray × Unit)) × (Int) × (Int) × (Int) × (Int) × (Int) × (Int) × (Int) × (Int) × (Int) × (Int) × (Int) × (Int) × (Int) × (List ByteArray) × (List (ByteArray × ByteArray × Unit)) × Unit) → Option R) (v1 : Int) (v52 : List (List (ByteArray × ByteArray × Bool × Unit))) (v53 : Int) (v54 : Int) (b0_0 : Int) (b0_1 : Int) (b0_2 : Int) (b0_3 : Int) (b0_4 : Int) (b0_5 : Int) (b0_6 : Int) (b0_7 : Int) (b0_8 : Int) (b0_9 : List (ByteArray × ByteArray × Unit)) (b1_0 : Int) (b1_1 : Int) (b1_2 : Int) (b1_3 : Int) (b1_4 : Int) (b1_5 : Int) (b1_6 : Int) (b1_7 : Int) (b1_8 : Int) (b2_0 : Int) (b2_1 : Int) (b2_2 : Int) (b2_3 : Int) (r3 : List ByteArray) (r4 : List (ByteArray × ByteArray × Unit)) : Option R :=
  bif decide (v54 < v53) then
    bif decide (0 ≤ v54) then
      bif decide (v54 < nI (List.length v52)) then
        Option.bind (Option.bind (m_impl_Cut (m_impl_FormBatch (List.getD v52 (Int.toNat v54) [])) v1 (IntKind.wrap IntKind.i64 (b2_2 + nI (List.length r3))) b0_0) fun val => some ((val, ()), ()))
          fun val =>
          bif decide ((List.length r3 + List.length val.fst.fst) * 16 ≤ 140737488355328) then
            NX
              (v1, v52, v53, IntKind.wrap IntKind.i64 (v54 + 1), b0_0, b0_1, b0_2, b0_3, b0_4, b0_5, b0_6, b0_7, b0_8, b0_9, b1_0, b1_1, b1_2, b1_3, b1_4, b1_5, b1_6, b1_7, b1_8, b2_0, b2_1, b2_2, b2_3,
                r3 ++ val.fst.fst, r4, ())
          else none
      else none
    else none
  else X2 (v1, b0_0, b0_1, b0_2, b0_3, b0_4, b0_5, b0_6, b0_7, b0_8, b0_9, b1_0, b1_1, b1_2, b1_3, b1_4, b1_5, b1_6, b1_7, b1_8, b2_0, b2_1, b2_2, b2_3, r3, r4, ())
noncomputable def lo_impl_move_8 : Nat → (Int) → (List (List (ByteArray × ByteArray × Bool × Unit))) → (Int) → (Int) → (Int) → (Int) → (Int) → (Int) → (Int) → (Int) → (Int) → (Int) → (Int) → (List (ByteArray × ByteArray × Unit)) → (Int) → (Int) → (Int) → (Int) → (Int) → (Int) → (Int) → (Int) → (Int) → (Int) → (Int) → (Int) → (Int) → (List ByteArray) → (List (ByteArray × ByteArray × Unit)) →  Option ((Int) × (Int) × (Int) × (Int) × (Int) × (Int) × (Int) × (Int) × (Int) × (Int) × (List (ByteArray × ByteArray × Unit)) × (Int) × (Int) × (Int) × (Int) × (Int) × (Int) × (Int) × (Int) × (Int) × (Int) × (Int) × (Int) × (Int) × (List ByteArray) × (List (ByteArray × ByteArray × Unit)) × Unit)
  | 0, _, _, _, _, _, _, _, _, _, _, _, _, _, _, _, _, _, _, _, _, _, _, _, _, _, _, _, _, _ => none
  | m + 1, v1, v52, v53, v54, b0_0, b0_1, b0_2, b0_3, b0_4, b0_5, b0_6, b0_7, b0_8, b0_9, b1_0, b1_1, b1_2, b1_3, b1_4, b1_5, b1_6, b1_7, b1_8, b2_0, b2_1, b2_2, b2_3, r3, r4 => tr_impl_move_8  (fun d => lo_impl_move_8 m d.1 d.2.1 d.2.2.1 d.2.2.2.1 d.2.2.2.2.1 d.2.2.2.2.2.1 d.2.2.2.2.2.2.1 d.2.2.2.2.2.2.2.1 d.2.2.2.2.2.2.2.2.1 d.2.2.2.2.2.2.2.2.2.1 d.2.2.2.2.2.2.2.2.2.2.1 d.2.2.2.2.2.2.2.2.2.2.2.1 d.2.2.2.2.2.2.2.2.2.2.2.2.1 d.2.2.2.2.2.2.2.2.2.2.2.2.2.1 d.2.2.2.2.2.2.2.2.2.2.2.2.2.2.1 d.2.2.2.2.2.2.2.2.2.2.2.2.2.2.2.1 d.2.2.2.2.2.2.2.2.2.2.2.2.2.2.2.2.1 d.2.2.2.2.2.2.2.2.2.2.2.2.2.2.2.2.2.1 d.2.2.2.2.2.2.2.2.2.2.2.2.2.2.2.2.2.2.1 d.2.2.2.2.2.2.2.2.2.2.2.2.2.2.2.2.2.2.2.1 d.2.2.2.2.2.2.2.2.2.2.2.2.2.2.2.2.2.2.2.2.1 d.2.2.2.2.2.2.2.2.2.2.2.2.2.2.2.2.2.2.2.2.2.1 d.2.2.2.2.2.2.2.2.2.2.2.2.2.2.2.2.2.2.2.2.2.2.1 d.2.2.2.2.2.2.2.2.2.2.2.2.2.2.2.2.2.2.2.2.2.2.2.1 d.2.2.2.2.2.2.2.2.2.2.2.2.2.2.2.2.2.2.2.2.2.2.2.2.1 d.2.2.2.2.2.2.2.2.2.2.2.2.2.2.2.2.2.2.2.2.2.2.2.2.2.1 d.2.2.2.2.2.2.2.2.2.2.2.2.2.2.2.2.2.2.2.2.2.2.2.2.2.2.1 d.2.2.2.2.2.2.2.2.2.2.2.2.2.2.2.2.2.2.2.2.2.2.2.2.2.2.2.1 d.2.2.2.2.2.2.2.2.2.2.2.2.2.2.2.2.2.2.2.2.2.2.2.2.2.2.2.2.1) (fun d => some (d)) v1 v52 v53 v54 b0_0 b0_1 b0_2 b0_3 b0_4 b0_5 b0_6 b0_7 b0_8 b0_9 b1_0 b1_1 b1_2 b1_3 b1_4 b1_5 b1_6 b1_7 b1_8 b2_0 b2_1 b2_2 b2_3 r3 r4
theorem na_impl_move_8 {R S : Type}  (NX : ((Int) × (List (List (ByteArray × ByteArray × Bool × Unit))) × (Int) × (Int) × (Int) × (Int) × (Int) × (Int) × (Int) × (Int) × (Int) × (Int) × (Int) × (List (ByteArray × ByteArray × Unit)) × (Int) × (Int) × (Int) × (Int) × (Int) × (Int) × (Int) × (Int) × (Int) × (Int) × (Int) × (Int) × (Int) × (List ByteArray) × (List (ByteArray × ByteArray × Unit)) × Unit) → Option R) (X2 : ((Int) × (Int) × (Int) × (Int) × (Int) × (Int) × (Int) × (Int) × (Int) × (Int) × (List (ByteArray × ByteArray × Unit)) × (Int) × (Int) × (Int) × (Int) × (Int) × (Int) × (Int) × (Int) × (Int) × (Int) × (Int) × (Int) × (Int) × (List ByteArray) × (List (ByteArray × ByteArray × Unit)) × Unit) → Option R) (v1 : Int) (v52 : List (List (ByteArray × ByteArray × Bool × Unit))) (v53 : Int) (v54 : Int) (b0_0 : Int) (b0_1 : Int) (b0_2 : Int) (b0_3 : Int) (b0_4 : Int) (b0_5 : Int) (b0_6 : Int) (b0_7 : Int) (b0_8 : Int) (b0_9 : List (ByteArray × ByteArray × Unit)) (b1_0 : Int) (b1_1 : Int) (b1_2 : Int) (b1_3 : Int) (b1_4 : Int) (b1_5 : Int) (b1_6 : Int) (b1_7 : Int) (b1_8 : Int) (b2_0 : Int) (b2_1 : Int) (b2_2 : Int) (b2_3 : Int) (r3 : List ByteArray) (r4 : List (ByteArray × ByteArray × Unit)) (f : R → Option S) : tr_impl_move_8  (fun d => (NX d).bind f) (fun d => (X2 d).bind f) v1 v52 v53 v54 b0_0 b0_1 b0_2 b0_3 b0_4 b0_5 b0_6 b0_7 b0_8 b0_9 b1_0 b1_1 b1_2 b1_3 b1_4 b1_5 b1_6 b1_7 b1_8 b2_0 b2_1 b2_2 b2_3 r3 r4 = (tr_impl_move_8  NX X2 v1 v52 v53 v54 b0_0 b0_1 b0_2 b0_3 b0_4 b0_5 b0_6 b0_7 b0_8 b0_9 b1_0 b1_1 b1_2 b1_3 b1_4 b1_5 b1_6 b1_7 b1_8 b2_0 b2_1 b2_2 b2_3 r3 r4).bind f := by
  unfold tr_impl_move_8
  simp only [cond_bind, ite_bind, onSum_bind, Option.bind_assoc, Option.bind_none, Option.bind_some]
noncomputable def de_impl_move (a0 : Int × Int × Int × (Int × Int × Int × Int × Unit) × Int × Int × ((List (ByteArray × ByteArray × Unit)) × Unit) × Unit) (a1 : Int) : Option ((((Int) × (Int) × (Int) × (Int) × (Int) × (Int) × (Int) × (Int) × (Int) × (List (ByteArray × ByteArray × Unit)) × (List (Bool × Int × ByteArray × Unit)) × (Bool) × Unit) × (Unit))) :=
  bif decide (IntKind.wrap IntKind.i64 (a0.snd.snd.snd.fst.fst + 1) > 1000000000) then some ((0, 0, 0, 0, 0, 0, 0, 0, 0, [], [], false, ()), ())
  else
    bif decide (IntKind.wrap IntKind.i64 (a0.snd.snd.snd.fst.snd.snd.fst + m_impl_Halves a0.snd.fst) > 999999000) then some ((0, 0, 0, 0, 0, 0, 0, 0, 0, [], [], false, ()), ())
    else
      Option.bind
        ((fun d => lo_impl_move_8 (fu_impl_move_8 d.1 d.2.1 d.2.2.1 d.2.2.2.1 d.2.2.2.2.1 d.2.2.2.2.2.1 d.2.2.2.2.2.2.1 d.2.2.2.2.2.2.2.1 d.2.2.2.2.2.2.2.2.1 d.2.2.2.2.2.2.2.2.2.1 d.2.2.2.2.2.2.2.2.2.2.1 d.2.2.2.2.2.2.2.2.2.2.2.1 d.2.2.2.2.2.2.2.2.2.2.2.2.1 d.2.2.2.2.2.2.2.2.2.2.2.2.2.1 d.2.2.2.2.2.2.2.2.2.2.2.2.2.2.1 d.2.2.2.2.2.2.2.2.2.2.2.2.2.2.2.1 d.2.2.2.2.2.2.2.2.2.2.2.2.2.2.2.2.1 d.2.2.2.2.2.2.2.2.2.2.2.2.2.2.2.2.2.1 d.2.2.2.2.2.2.2.2.2.2.2.2.2.2.2.2.2.2.1 d.2.2.2.2.2.2.2.2.2.2.2.2.2.2.2.2.2.2.2.1 d.2.2.2.2.2.2.2.2.2.2.2.2.2.2.2.2.2.2.2.2.1 d.2.2.2.2.2.2.2.2.2.2.2.2.2.2.2.2.2.2.2.2.2.1 d.2.2.2.2.2.2.2.2.2.2.2.2.2.2.2.2.2.2.2.2.2.2.1 d.2.2.2.2.2.2.2.2.2.2.2.2.2.2.2.2.2.2.2.2.2.2.2.1 d.2.2.2.2.2.2.2.2.2.2.2.2.2.2.2.2.2.2.2.2.2.2.2.2.1 d.2.2.2.2.2.2.2.2.2.2.2.2.2.2.2.2.2.2.2.2.2.2.2.2.2.1 d.2.2.2.2.2.2.2.2.2.2.2.2.2.2.2.2.2.2.2.2.2.2.2.2.2.2.1 d.2.2.2.2.2.2.2.2.2.2.2.2.2.2.2.2.2.2.2.2.2.2.2.2.2.2.2.1 d.2.2.2.2.2.2.2.2.2.2.2.2.2.2.2.2.2.2.2.2.2.2.2.2.2.2.2.2.1) d.1 d.2.1 d.2.2.1 d.2.2.2.1 d.2.2.2.2.1 d.2.2.2.2.2.1 d.2.2.2.2.2.2.1 d.2.2.2.2.2.2.2.1 d.2.2.2.2.2.2.2.2.1 d.2.2.2.2.2.2.2.2.2.1 d.2.2.2.2.2.2.2.2.2.2.1 d.2.2.2.2.2.2.2.2.2.2.2.1 d.2.2.2.2.2.2.2.2.2.2.2.2.1 d.2.2.2.2.2.2.2.2.2.2.2.2.2.1 d.2.2.2.2.2.2.2.2.2.2.2.2.2.2.1 d.2.2.2.2.2.2.2.2.2.2.2.2.2.2.2.1 d.2.2.2.2.2.2.2.2.2.2.2.2.2.2.2.2.1 d.2.2.2.2.2.2.2.2.2.2.2.2.2.2.2.2.2.1 d.2.2.2.2.2.2.2.2.2.2.2.2.2.2.2.2.2.2.1 d.2.2.2.2.2.2.2.2.2.2.2.2.2.2.2.2.2.2.2.1 d.2.2.2.2.2.2.2.2.2.2.2.2.2.2.2.2.2.2.2.2.1 d.2.2.2.2.2.2.2.2.2.2.2.2.2.2.2.2.2.2.2.2.2.1 d.2.2.2.2.2.2.2.2.2.2.2.2.2.2.2.2.2.2.2.2.2.2.1 d.2.2.2.2.2.2.2.2.2.2.2.2.2.2.2.2.2.2.2.2.2.2.2.1 d.2.2.2.2.2.2.2.2.2.2.2.2.2.2.2.2.2.2.2.2.2.2.2.2.1 d.2.2.2.2.2.2.2.2.2.2.2.2.2.2.2.2.2.2.2.2.2.2.2.2.2.1 d.2.2.2.2.2.2.2.2.2.2.2.2.2.2.2.2.2.2.2.2.2.2.2.2.2.2.1 d.2.2.2.2.2.2.2.2.2.2.2.2.2.2.2.2.2.2.2.2.2.2.2.2.2.2.2.1 d.2.2.2.2.2.2.2.2.2.2.2.2.2.2.2.2.2.2.2.2.2.2.2.2.2.2.2.2.1)
          (a1, m_impl_Snapshot (a0.snd.snd.snd.snd.snd.snd.fst.fst, ()), nI (List.length (m_impl_Snapshot (a0.snd.snd.snd.snd.snd.snd.fst.fst, ()))), 0, a0.fst, a0.snd.fst, a0.snd.snd.fst,
            a0.snd.snd.snd.fst.fst, a0.snd.snd.snd.fst.snd.fst, a0.snd.snd.snd.fst.snd.snd.fst, a0.snd.snd.snd.fst.snd.snd.snd.fst, a0.snd.snd.snd.snd.fst, a0.snd.snd.snd.snd.snd.fst,
            a0.snd.snd.snd.snd.snd.snd.fst.fst, 0, 0, 0, 0, 0, 0, 0, 0, 0, IntKind.wrap IntKind.i64 (a0.snd.snd.snd.fst.fst + 1), IntKind.wrap IntKind.i64 (1 - a0.snd.snd.snd.fst.snd.fst),
            IntKind.wrap IntKind.i64 (a0.snd.snd.snd.fst.snd.snd.fst + m_impl_Halves a0.snd.fst), a1,
            [m_impl_FormPage (3, a1, IntKind.wrap IntKind.i64 (a0.snd.snd.snd.fst.snd.snd.fst + m_impl_Halves a0.snd.fst), ByteArray.mk #[], ()) a0.fst], [], ()))
        fun val =>
        Option.bind
          ((fun d => lo_impl_move_14 (fu_impl_move_14 d.1 d.2.1 d.2.2.1 d.2.2.2.1 d.2.2.2.2.1 d.2.2.2.2.2.1 d.2.2.2.2.2.2.1 d.2.2.2.2.2.2.2.1 d.2.2.2.2.2.2.2.2.1 d.2.2.2.2.2.2.2.2.2.1 d.2.2.2.2.2.2.2.2.2.2.1 d.2.2.2.2.2.2.2.2.2.2.2.1 d.2.2.2.2.2.2.2.2.2.2.2.2.1 d.2.2.2.2.2.2.2.2.2.2.2.2.2.1 d.2.2.2.2.2.2.2.2.2.2.2.2.2.2.1 d.2.2.2.2.2.2.2.2.2.2.2.2.2.2.2.1 d.2.2.2.2.2.2.2.2.2.2.2.2.2.2.2.2.1 d.2.2.2.2.2.2.2.2.2.2.2.2.2.2.2.2.2.1 d.2.2.2.2.2.2.2.2.2.2.2.2.2.2.2.2.2.2.1 d.2.2.2.2.2.2.2.2.2.2.2.2.2.2.2.2.2.2.2.1 d.2.2.2.2.2.2.2.2.2.2.2.2.2.2.2.2.2.2.2.2.1 d.2.2.2.2.2.2.2.2.2.2.2.2.2.2.2.2.2.2.2.2.2.1 d.2.2.2.2.2.2.2.2.2.2.2.2.2.2.2.2.2.2.2.2.2.2.1 d.2.2.2.2.2.2.2.2.2.2.2.2.2.2.2.2.2.2.2.2.2.2.2.1 d.2.2.2.2.2.2.2.2.2.2.2.2.2.2.2.2.2.2.2.2.2.2.2.2.1 d.2.2.2.2.2.2.2.2.2.2.2.2.2.2.2.2.2.2.2.2.2.2.2.2.2.1 d.2.2.2.2.2.2.2.2.2.2.2.2.2.2.2.2.2.2.2.2.2.2.2.2.2.2.1 d.2.2.2.2.2.2.2.2.2.2.2.2.2.2.2.2.2.2.2.2.2.2.2.2.2.2.2.1 d.2.2.2.2.2.2.2.2.2.2.2.2.2.2.2.2.2.2.2.2.2.2.2.2.2.2.2.2.1 d.2.2.2.2.2.2.2.2.2.2.2.2.2.2.2.2.2.2.2.2.2.2.2.2.2.2.2.2.2.1) d.1 d.2.1 d.2.2.1 d.2.2.2.1 d.2.2.2.2.1 d.2.2.2.2.2.1 d.2.2.2.2.2.2.1 d.2.2.2.2.2.2.2.1 d.2.2.2.2.2.2.2.2.1 d.2.2.2.2.2.2.2.2.2.1 d.2.2.2.2.2.2.2.2.2.2.1 d.2.2.2.2.2.2.2.2.2.2.2.1 d.2.2.2.2.2.2.2.2.2.2.2.2.1 d.2.2.2.2.2.2.2.2.2.2.2.2.2.1 d.2.2.2.2.2.2.2.2.2.2.2.2.2.2.1 d.2.2.2.2.2.2.2.2.2.2.2.2.2.2.2.1 d.2.2.2.2.2.2.2.2.2.2.2.2.2.2.2.2.1 d.2.2.2.2.2.2.2.2.2.2.2.2.2.2.2.2.2.1 d.2.2.2.2.2.2.2.2.2.2.2.2.2.2.2.2.2.2.1 d.2.2.2.2.2.2.2.2.2.2.2.2.2.2.2.2.2.2.2.1 d.2.2.2.2.2.2.2.2.2.2.2.2.2.2.2.2.2.2.2.2.1 d.2.2.2.2.2.2.2.2.2.2.2.2.2.2.2.2.2.2.2.2.2.1 d.2.2.2.2.2.2.2.2.2.2.2.2.2.2.2.2.2.2.2.2.2.2.1 d.2.2.2.2.2.2.2.2.2.2.2.2.2.2.2.2.2.2.2.2.2.2.2.1 d.2.2.2.2.2.2.2.2.2.2.2.2.2.2.2.2.2.2.2.2.2.2.2.2.1 d.2.2.2.2.2.2.2.2.2.2.2.2.2.2.2.2.2.2.2.2.2.2.2.2.2.1 d.2.2.2.2.2.2.2.2.2.2.2.2.2.2.2.2.2.2.2.2.2.2.2.2.2.2.1 d.2.2.2.2.2.2.2.2.2.2.2.2.2.2.2.2.2.2.2.2.2.2.2.2.2.2.2.1 d.2.2.2.2.2.2.2.2.2.2.2.2.2.2.2.2.2.2.2.2.2.2.2.2.2.2.2.2.1 d.2.2.2.2.2.2.2.2.2.2.2.2.2.2.2.2.2.2.2.2.2.2.2.2.2.2.2.2.2.1)
            (val.fst, val.snd.snd.snd.snd.snd.snd.snd.snd.snd.snd.snd.snd.snd.snd.snd.snd.snd.snd.snd.snd.snd.snd.snd.snd.fst,
              val.snd.snd.snd.snd.snd.snd.snd.snd.snd.snd.snd.snd.snd.snd.snd.snd.snd.snd.snd.snd.snd.snd.snd.snd.fst,
              nI (List.length val.snd.snd.snd.snd.snd.snd.snd.snd.snd.snd.snd.snd.snd.snd.snd.snd.snd.snd.snd.snd.snd.snd.snd.snd.fst), 0, val.snd.fst, val.snd.snd.fst, val.snd.snd.snd.fst,
              val.snd.snd.snd.snd.fst, val.snd.snd.snd.snd.snd.fst, val.snd.snd.snd.snd.snd.snd.fst, val.snd.snd.snd.snd.snd.snd.snd.fst, val.snd.snd.snd.snd.snd.snd.snd.snd.fst,
              val.snd.snd.snd.snd.snd.snd.snd.snd.snd.fst, val.snd.snd.snd.snd.snd.snd.snd.snd.snd.snd.fst, val.snd.snd.snd.snd.snd.snd.snd.snd.snd.snd.snd.fst,
              val.snd.snd.snd.snd.snd.snd.snd.snd.snd.snd.snd.snd.fst, val.snd.snd.snd.snd.snd.snd.snd.snd.snd.snd.snd.snd.snd.fst, val.snd.snd.snd.snd.snd.snd.snd.snd.snd.snd.snd.snd.snd.snd.fst,
              val.snd.snd.snd.snd.snd.snd.snd.snd.snd.snd.snd.snd.snd.snd.snd.fst, val.snd.snd.snd.snd.snd.snd.snd.snd.snd.snd.snd.snd.snd.snd.snd.snd.fst,
              val.snd.snd.snd.snd.snd.snd.snd.snd.snd.snd.snd.snd.snd.snd.snd.snd.snd.fst, val.snd.snd.snd.snd.snd.snd.snd.snd.snd.snd.snd.snd.snd.snd.snd.snd.snd.snd.fst,
              val.snd.snd.snd.snd.snd.snd.snd.snd.snd.snd.snd.snd.snd.snd.snd.snd.snd.snd.snd.fst, val.snd.snd.snd.snd.snd.snd.snd.snd.snd.snd.snd.snd.snd.snd.snd.snd.snd.snd.snd.snd.fst,
              val.snd.snd.snd.snd.snd.snd.snd.snd.snd.snd.snd.snd.snd.snd.snd.snd.snd.snd.snd.snd.snd.fst,
              val.snd.snd.snd.snd.snd.snd.snd.snd.snd.snd.snd.snd.snd.snd.snd.snd.snd.snd.snd.snd.snd.snd.fst,
              val.snd.snd.snd.snd.snd.snd.snd.snd.snd.snd.snd.snd.snd.snd.snd.snd.snd.snd.snd.snd.snd.snd.snd.fst, [],
              val.snd.snd.snd.snd.snd.snd.snd.snd.snd.snd.snd.snd.snd.snd.snd.snd.snd.snd.snd.snd.snd.snd.snd.snd.snd.fst, ()))
          fun val =>
          bif
              decide
                ((List.length val.snd.snd.snd.snd.snd.snd.snd.snd.snd.snd.snd.snd.snd.snd.snd.snd.snd.snd.snd.snd.snd.snd.snd.snd.snd.fst +
                      List.length
                        [(true, 0, ByteArray.mk #[], ()),
                          (false, Int.tmod val.snd.snd.snd.snd.snd.snd.snd.snd.snd.snd.snd.snd.snd.snd.snd.snd.snd.snd.snd.snd.snd.fst 2,
                            m_impl_RootPage
                              (val.snd.snd.snd.snd.snd.snd.snd.snd.snd.snd.snd.snd.snd.snd.snd.snd.snd.snd.snd.snd.snd.fst,
                                val.snd.snd.snd.snd.snd.snd.snd.snd.snd.snd.snd.snd.snd.snd.snd.snd.snd.snd.snd.snd.snd.snd.fst,
                                val.snd.snd.snd.snd.snd.snd.snd.snd.snd.snd.snd.snd.snd.snd.snd.snd.snd.snd.snd.snd.snd.snd.snd.fst,
                                val.snd.snd.snd.snd.snd.snd.snd.snd.snd.snd.snd.snd.snd.snd.snd.snd.snd.snd.snd.snd.snd.snd.snd.snd.fst, ())
                              val.snd.snd.fst,
                            ()),
                          (true, 0, ByteArray.mk #[], ())]) *
                    32 ≤
                  140737488355328) then
            Option.bind (Option.bind (m_impl_copyState (val.snd.snd.snd.snd.snd.snd.snd.snd.snd.snd.snd.fst, ())) fun val => some ((val.fst, ()), ())) fun val_1 =>
              some
                ((val.snd.snd.fst, val.snd.snd.snd.fst, val.fst, val.snd.snd.snd.snd.snd.snd.snd.snd.snd.snd.snd.snd.snd.snd.snd.snd.snd.snd.snd.snd.snd.fst,
                    val.snd.snd.snd.snd.snd.snd.snd.snd.snd.snd.snd.snd.snd.snd.snd.snd.snd.snd.snd.snd.snd.snd.fst,
                    val.snd.snd.snd.snd.snd.snd.snd.snd.snd.snd.snd.snd.snd.snd.snd.snd.snd.snd.snd.snd.snd.snd.snd.fst,
                    val.snd.snd.snd.snd.snd.snd.snd.snd.snd.snd.snd.snd.snd.snd.snd.snd.snd.snd.snd.snd.snd.snd.snd.snd.fst, nI (List.length val.snd.fst), 0, val_1.fst.fst,
                    val.snd.snd.snd.snd.snd.snd.snd.snd.snd.snd.snd.snd.snd.snd.snd.snd.snd.snd.snd.snd.snd.snd.snd.snd.snd.fst ++
                      [(true, 0, ByteArray.mk #[], ()),
                        (false, Int.tmod val.snd.snd.snd.snd.snd.snd.snd.snd.snd.snd.snd.snd.snd.snd.snd.snd.snd.snd.snd.snd.snd.fst 2,
                          m_impl_RootPage
                            (val.snd.snd.snd.snd.snd.snd.snd.snd.snd.snd.snd.snd.snd.snd.snd.snd.snd.snd.snd.snd.snd.fst,
                              val.snd.snd.snd.snd.snd.snd.snd.snd.snd.snd.snd.snd.snd.snd.snd.snd.snd.snd.snd.snd.snd.snd.fst,
                              val.snd.snd.snd.snd.snd.snd.snd.snd.snd.snd.snd.snd.snd.snd.snd.snd.snd.snd.snd.snd.snd.snd.snd.fst,
                              val.snd.snd.snd.snd.snd.snd.snd.snd.snd.snd.snd.snd.snd.snd.snd.snd.snd.snd.snd.snd.snd.snd.snd.snd.fst, ())
                            val.snd.snd.fst,
                          ()),
                        (true, 0, ByteArray.mk #[], ())],
                    true, ()),
                  ())
          else none
theorem move_loop8 (v1 b0 b1 b2 b3 b4 b5 b6 b7 b8 T H F l : Int) (b9 : List Pr2) (S : List (List Chg)) (L : List ByteArray) (hS : S.length ≤ 101) (hF : 0 ≤ F ∧ F ≤ 1000000099) (hL : L.length ≤ 1) :
    lo_impl_move_8 (fu_impl_move_8 v1 S (nI S.length) 0 b0 b1 b2 b3 b4 b5 b6 b7 b8 b9 0 0 0 0 0 0 0 0 0 T H F l L []) v1 S (nI S.length) 0 b0 b1 b2 b3 b4 b5 b6 b7 b8 b9 0 0 0 0 0 0 0 0 0 T H F l L [] =
    some (v1, b0, b1, b2, b3, b4, b5, b6, b7, b8, b9, 0, 0, 0, 0, 0, 0, 0, 0, 0, T, H, F, l, foldI (fun _ b L => mvStep b0 v1 F b L) 0 S L, [], ()) := by
  have hL := foldi_loop (xs := S) [] MvI (fun _ b L => mvStep b0 v1 F b L) (g := fun m i L => lo_impl_move_8 m v1 S (nI S.length) i b0 b1 b2 b3 b4 b5 b6 b7 b8 b9 0 0 0 0 0 0 0 0 0 T H F l L []) (ok := fun L => (v1, b0, b1, b2, b3, b4, b5, b6, b7, b8, b9, 0, 0, 0, 0, 0, 0, 0, 0, 0, T, H, F, l, L, [], ())) (fun m i L hi hI => by
      show lo_impl_move_8 (m + 1) v1 S (nI S.length) i b0 b1 b2 b3 b4 b5 b6 b7 b8 b9 0 0 0 0 0 0 0 0 0 T H F l L [] = _
      simp only [lo_impl_move_8, tr_impl_move_8]
      obtain ⟨h1, h2⟩ := hI
      rw [cLt hi, cLe0, wI (show i < 4611686018427387904 by omega), Int.toNat_natCast]
      have e0 : IntKind.wrap IntKind.i64 (F + nI L.length) = F + (L.length : Int) := by simp only [nI]; exact wrap_ok (by omega) (by omega)
      have e1 : m_impl_Cut (m_impl_FormBatch (List.getD S i [])) v1 (F + (L.length : Int)) b0 = some (cutS (formB (List.getD S i [])) v1 (F + (L.length : Int)) b0) := if_pos (Nat.le_trans (formB_size _) (by decide))
      rw [e0, e1]
      simp only [cond_true, Option.bind_some]
      have e2 := cut_len (List.getD S i []) v1 (F + (L.length : Int)) b0
      rw [decide_eq_true (show (L.length + (cutS (formB (List.getD S i [])) v1 (F + (L.length : Int)) b0).length) * 16 ≤ 140737488355328 by omega)]
      rfl) (fun i L hi hI => hI.step (by omega) _ _ _ _) (fun m L hI => by
      show lo_impl_move_8 (m + 1) v1 S (nI S.length) (S.length : Int) b0 b1 b2 b3 b4 b5 b6 b7 b8 b9 0 0 0 0 0 0 0 0 0 T H F l L [] = _
      simp only [lo_impl_move_8, tr_impl_move_8]
      rw [cLtF]
      rfl) (fu_impl_move_8 v1 S (nI S.length) 0 b0 b1 b2 b3 b4 b5 b6 b7 b8 b9 0 0 0 0 0 0 0 0 0 T H F l L []) 0 L (by omega) (by simp [fu_impl_move_8, nI]) ⟨by omega, by omega⟩
  exact hL
theorem move_loop14 (v1 b0 b1 b2 b3 b4 b5 b6 b7 b8 T H F l : Int) (b9 : List Pr2) (L : List ByteArray) (hL : L.length ≤ 500000) (hH : 0 ≤ H ∧ H ≤ 1) :
    lo_impl_move_14 (fu_impl_move_14 v1 L L (nI L.length) 0 b0 b1 b2 b3 b4 b5 b6 b7 b8 b9 0 0 0 0 0 0 0 0 0 T H F l [] []) v1 L L (nI L.length) 0 b0 b1 b2 b3 b4 b5 b6 b7 b8 b9 0 0 0 0 0 0 0 0 0 T H F l [] [] =
    some (v1, L, b0, b1, b2, b3, b4, b5, b6, b7, b8, b9, 0, 0, 0, 0, 0, 0, 0, 0, 0, T, H, F, l, opsGo (baseS H b1) L, [], ()) := by
  have hh := halves_in b1
  have hm : 0 ≤ H * halvesN b1 ∧ H * halvesN b1 ≤ 99 := by
    have : H = 0 ∨ H = 1 := by omega
    rcases this with rfl | rfl <;> omega
  have e0 : m_impl_begin H b1 = baseS H b1 := by
    show IntKind.wrap IntKind.i64 (2 + IntKind.wrap IntKind.i64 (H * halvesN b1)) = 2 + H * halvesN b1
    rw [wrap_ok (n := H * halvesN b1) (by omega) (by omega), wrap_ok (by omega) (by omega)]
  have hB : 0 ≤ baseS H b1 ∧ baseS H b1 ≤ 101 := by unfold baseS; omega
  have hL := foldi_loop (xs := L) z0 (fun i (r : List Opn) => i ≤ 500000 ∧ r.length = i) (fun (i : Nat) x r => r ++ [putO (baseS H b1 + (i : Int)) x]) (g := fun m i r => lo_impl_move_14 m v1 L L (nI L.length) i b0 b1 b2 b3 b4 b5 b6 b7 b8 b9 0 0 0 0 0 0 0 0 0 T H F l r []) (ok := fun r => (v1, L, b0, b1, b2, b3, b4, b5, b6, b7, b8, b9, 0, 0, 0, 0, 0, 0, 0, 0, 0, T, H, F, l, r, [], ())) (fun m i r hi hI => by
      show lo_impl_move_14 (m + 1) v1 L L (nI L.length) i b0 b1 b2 b3 b4 b5 b6 b7 b8 b9 0 0 0 0 0 0 0 0 0 T H F l r [] = _
      simp only [lo_impl_move_14, tr_impl_move_14]
      obtain ⟨h1, h2⟩ := hI
      rw [cLt hi, cLe0, wI (show i < 4611686018427387904 by omega), Int.toNat_natCast, e0, wrap_ok (n := baseS H b1 + (i : Int)) (by omega) (by omega), List.length_singleton, decide_eq_true (show (r.length + 1) * 32 ≤ 140737488355328 by omega)]
      rfl) (fun i r hi hI => ⟨by omega, by rw [List.length_append, List.length_singleton, hI.2]⟩) (fun m r hI => by
      show lo_impl_move_14 (m + 1) v1 L L (nI L.length) (L.length : Int) b0 b1 b2 b3 b4 b5 b6 b7 b8 b9 0 0 0 0 0 0 0 0 0 T H F l r [] = _
      simp only [lo_impl_move_14, tr_impl_move_14]
      rw [cLtF]
      rfl) (fu_impl_move_14 v1 L L (nI L.length) 0 b0 b1 b2 b3 b4 b5 b6 b7 b8 b9 0 0 0 0 0 0 0 0 0 T H F l [] []) 0 [] (by omega) (by simp [fu_impl_move_14, nI]) ⟨by omega, rfl⟩
  rw [foldI_ops, List.drop_zero, List.nil_append, show baseS H b1 + ((0 : Nat) : Int) = baseS H b1 by omega] at hL
  exact hL
theorem eq_impl_move (a0 : Int × Int × Int × (Int × Int × Int × Int × Unit) × Int × Int × ((List (ByteArray × ByteArray × Unit)) × Unit) × Unit) (a1 : Int) r (h : m_impl_move a0 a1 = some r) : de_impl_move a0 a1 = some ((r.1.1, r.1.2.1, r.1.2.2.1, r.1.2.2.2.1.1, r.1.2.2.2.1.2.1, r.1.2.2.2.1.2.2.1, r.1.2.2.2.1.2.2.2.1, r.1.2.2.2.2.1, r.1.2.2.2.2.2.1, r.1.2.2.2.2.2.2.1.1, r.2.1, r.2.2, ()), (())) := by
  unfold m_impl_move at h
  split at h
  rotate_left
  · cases h
  rename_i hk
  cases h
  obtain ⟨⟨t0, t1⟩, ⟨h0, h1⟩, ⟨f0, f1⟩, hp⟩ := hk
  have hh := halves_in a0.2.1
  unfold de_impl_move moveS
  simp only [m_impl_Halves, m_impl_Snapshot, m_impl_FormPage, m_impl_RootPage]
  show (bif decide (IntKind.wrap IntKind.i64 (a0.2.2.2.1.1 + 1) > 1000000000) then _ else bif decide (IntKind.wrap IntKind.i64 (a0.2.2.2.1.2.2.1 + halvesN a0.2.1) > 999999000) then _ else _) = _
  rw [wrap_ok (n := a0.2.2.2.1.1 + 1) (by omega) (by omega), wrap_ok (n := a0.2.2.2.1.2.2.1 + halvesN a0.2.1) (by omega) (by omega), wrap_ok (n := 1 - a0.2.2.2.1.2.1) (by omega) (by omega)]
  cases hc1 : decide (a0.2.2.2.1.1 + 1 > 1000000000) with
  | true => rfl
  | false =>
    cases hc2 : decide (a0.2.2.2.1.2.2.1 + halvesN a0.2.1 > 999999000) with
    | true => rfl
    | false =>
      simp only [cond_false]
      have hL1 := move_loop8 a1 a0.1 a0.2.1 a0.2.2.1 a0.2.2.2.1.1 a0.2.2.2.1.2.1 a0.2.2.2.1.2.2.1 a0.2.2.2.1.2.2.2.1 a0.2.2.2.2.1 a0.2.2.2.2.2.1 (a0.2.2.2.1.1 + 1) (1 - a0.2.2.2.1.2.1) (a0.2.2.2.1.2.2.1 + halvesN a0.2.1) a1 a0.2.2.2.2.2.2.1.1 (snapS a0.2.2.2.2.2.2.1) [pageS (3, a1, a0.2.2.2.1.2.2.1 + halvesN a0.2.1, z0, ()) a0.1] (snapS_len _) ⟨by omega, by omega⟩ (Nat.le_refl 1)
      have hL2 := move_loop14 a1 a0.1 a0.2.1 a0.2.2.1 a0.2.2.2.1.1 a0.2.2.2.1.2.1 a0.2.2.2.1.2.2.1 a0.2.2.2.1.2.2.2.1 a0.2.2.2.2.1 a0.2.2.2.2.2.1 (a0.2.2.2.1.1 + 1) (1 - a0.2.2.2.1.2.1) (a0.2.2.2.1.2.2.1 + halvesN a0.2.1) a1 a0.2.2.2.2.2.2.1.1 (mvL a0 a1) (mvL_len a0 a1) ⟨by omega, by omega⟩
      have hl := mvL_len a0 a1
      have e1 : m_impl_copyState (a0.2.2.2.2.2.2.1.1, ()) = some (a0.2.2.2.2.2.2.1.1, ()) := if_pos hp
      have e2 : decide (((opsGo (baseS (1 - a0.2.2.2.1.2.1) a0.2.1) (mvL a0 a1)).length + 3) * 32 ≤ 140737488355328) = true := decide_eq_true (by rw [opsGo_len]; omega)
      refine bindOf hL1 ?_
      dsimp only
      refine bindOf hL2 ?_
      dsimp only
      simp only [List.length_cons, List.length_nil, Nat.zero_add, Nat.reduceAdd]
      rw [e2, e1]
      rfl
noncomputable def ou_impl_move_8 {R : Type} (k : Kt R) : ((Int) × (Int) × (Int) × (Int) × (Int) × (Int) × (Int) × (Int) × (Int) × (Int) × (List (ByteArray × ByteArray × Unit)) × (Int) × (Int) × (Int) × (Int) × (Int) × (Int) × (Int) × (Int) × (Int) × (Int) × (Int) × (Int) × (Int) × (List ByteArray) × (List (ByteArray × ByteArray × Unit)) × Unit) → Option R := (fun d => k (.exit 0) (((pa_impl_move 8).2 2).st d) (((pa_impl_move 8).2 2).nid))
noncomputable def ou_impl_move_14 {R : Type} (k : Kt R) : ((Int) × (List ByteArray) × (Int) × (Int) × (Int) × (Int) × (Int) × (Int) × (Int) × (Int) × (Int) × (List (ByteArray × ByteArray × Unit)) × (Int) × (Int) × (Int) × (Int) × (Int) × (Int) × (Int) × (Int) × (Int) × (Int) × (Int) × (Int) × (Int) × (List (Bool × Int × ByteArray × Unit)) × (List (ByteArray × ByteArray × Unit)) × Unit) → Option R := (fun d => k (.exit 2) (((pa_impl_move 14).2 4).st d) (((pa_impl_move 14).2 4).nid))
noncomputable def L_impl_move {R : Type} : Lt R pa_impl_move := (addL (pat := pa_impl_move) 8 (fun d k => (lo_impl_move_8 (fu_impl_move_8 d.1 d.2.1 d.2.2.1 d.2.2.2.1 d.2.2.2.2.1 d.2.2.2.2.2.1 d.2.2.2.2.2.2.1 d.2.2.2.2.2.2.2.1 d.2.2.2.2.2.2.2.2.1 d.2.2.2.2.2.2.2.2.2.1 d.2.2.2.2.2.2.2.2.2.2.1 d.2.2.2.2.2.2.2.2.2.2.2.1 d.2.2.2.2.2.2.2.2.2.2.2.2.1 d.2.2.2.2.2.2.2.2.2.2.2.2.2.1 d.2.2.2.2.2.2.2.2.2.2.2.2.2.2.1 d.2.2.2.2.2.2.2.2.2.2.2.2.2.2.2.1 d.2.2.2.2.2.2.2.2.2.2.2.2.2.2.2.2.1 d.2.2.2.2.2.2.2.2.2.2.2.2.2.2.2.2.2.1 d.2.2.2.2.2.2.2.2.2.2.2.2.2.2.2.2.2.2.1 d.2.2.2.2.2.2.2.2.2.2.2.2.2.2.2.2.2.2.2.1 d.2.2.2.2.2.2.2.2.2.2.2.2.2.2.2.2.2.2.2.2.1 d.2.2.2.2.2.2.2.2.2.2.2.2.2.2.2.2.2.2.2.2.2.1 d.2.2.2.2.2.2.2.2.2.2.2.2.2.2.2.2.2.2.2.2.2.2.1 d.2.2.2.2.2.2.2.2.2.2.2.2.2.2.2.2.2.2.2.2.2.2.2.1 d.2.2.2.2.2.2.2.2.2.2.2.2.2.2.2.2.2.2.2.2.2.2.2.2.1 d.2.2.2.2.2.2.2.2.2.2.2.2.2.2.2.2.2.2.2.2.2.2.2.2.2.1 d.2.2.2.2.2.2.2.2.2.2.2.2.2.2.2.2.2.2.2.2.2.2.2.2.2.2.1 d.2.2.2.2.2.2.2.2.2.2.2.2.2.2.2.2.2.2.2.2.2.2.2.2.2.2.2.1 d.2.2.2.2.2.2.2.2.2.2.2.2.2.2.2.2.2.2.2.2.2.2.2.2.2.2.2.2.1) d.1 d.2.1 d.2.2.1 d.2.2.2.1 d.2.2.2.2.1 d.2.2.2.2.2.1 d.2.2.2.2.2.2.1 d.2.2.2.2.2.2.2.1 d.2.2.2.2.2.2.2.2.1 d.2.2.2.2.2.2.2.2.2.1 d.2.2.2.2.2.2.2.2.2.2.1 d.2.2.2.2.2.2.2.2.2.2.2.1 d.2.2.2.2.2.2.2.2.2.2.2.2.1 d.2.2.2.2.2.2.2.2.2.2.2.2.2.1 d.2.2.2.2.2.2.2.2.2.2.2.2.2.2.1 d.2.2.2.2.2.2.2.2.2.2.2.2.2.2.2.1 d.2.2.2.2.2.2.2.2.2.2.2.2.2.2.2.2.1 d.2.2.2.2.2.2.2.2.2.2.2.2.2.2.2.2.2.1 d.2.2.2.2.2.2.2.2.2.2.2.2.2.2.2.2.2.2.1 d.2.2.2.2.2.2.2.2.2.2.2.2.2.2.2.2.2.2.2.1 d.2.2.2.2.2.2.2.2.2.2.2.2.2.2.2.2.2.2.2.2.1 d.2.2.2.2.2.2.2.2.2.2.2.2.2.2.2.2.2.2.2.2.2.1 d.2.2.2.2.2.2.2.2.2.2.2.2.2.2.2.2.2.2.2.2.2.2.1 d.2.2.2.2.2.2.2.2.2.2.2.2.2.2.2.2.2.2.2.2.2.2.2.1 d.2.2.2.2.2.2.2.2.2.2.2.2.2.2.2.2.2.2.2.2.2.2.2.2.1 d.2.2.2.2.2.2.2.2.2.2.2.2.2.2.2.2.2.2.2.2.2.2.2.2.2.1 d.2.2.2.2.2.2.2.2.2.2.2.2.2.2.2.2.2.2.2.2.2.2.2.2.2.2.1 d.2.2.2.2.2.2.2.2.2.2.2.2.2.2.2.2.2.2.2.2.2.2.2.2.2.2.2.1 d.2.2.2.2.2.2.2.2.2.2.2.2.2.2.2.2.2.2.2.2.2.2.2.2.2.2.2.2.1).bind (ou_impl_move_8 k)) (addL (pat := pa_impl_move) 14 (fun d k => (lo_impl_move_14 (fu_impl_move_14 d.1 d.2.1 d.2.2.1 d.2.2.2.1 d.2.2.2.2.1 d.2.2.2.2.2.1 d.2.2.2.2.2.2.1 d.2.2.2.2.2.2.2.1 d.2.2.2.2.2.2.2.2.1 d.2.2.2.2.2.2.2.2.2.1 d.2.2.2.2.2.2.2.2.2.2.1 d.2.2.2.2.2.2.2.2.2.2.2.1 d.2.2.2.2.2.2.2.2.2.2.2.2.1 d.2.2.2.2.2.2.2.2.2.2.2.2.2.1 d.2.2.2.2.2.2.2.2.2.2.2.2.2.2.1 d.2.2.2.2.2.2.2.2.2.2.2.2.2.2.2.1 d.2.2.2.2.2.2.2.2.2.2.2.2.2.2.2.2.1 d.2.2.2.2.2.2.2.2.2.2.2.2.2.2.2.2.2.1 d.2.2.2.2.2.2.2.2.2.2.2.2.2.2.2.2.2.2.1 d.2.2.2.2.2.2.2.2.2.2.2.2.2.2.2.2.2.2.2.1 d.2.2.2.2.2.2.2.2.2.2.2.2.2.2.2.2.2.2.2.2.1 d.2.2.2.2.2.2.2.2.2.2.2.2.2.2.2.2.2.2.2.2.2.1 d.2.2.2.2.2.2.2.2.2.2.2.2.2.2.2.2.2.2.2.2.2.2.1 d.2.2.2.2.2.2.2.2.2.2.2.2.2.2.2.2.2.2.2.2.2.2.2.1 d.2.2.2.2.2.2.2.2.2.2.2.2.2.2.2.2.2.2.2.2.2.2.2.2.1 d.2.2.2.2.2.2.2.2.2.2.2.2.2.2.2.2.2.2.2.2.2.2.2.2.2.1 d.2.2.2.2.2.2.2.2.2.2.2.2.2.2.2.2.2.2.2.2.2.2.2.2.2.2.1 d.2.2.2.2.2.2.2.2.2.2.2.2.2.2.2.2.2.2.2.2.2.2.2.2.2.2.2.1 d.2.2.2.2.2.2.2.2.2.2.2.2.2.2.2.2.2.2.2.2.2.2.2.2.2.2.2.2.1 d.2.2.2.2.2.2.2.2.2.2.2.2.2.2.2.2.2.2.2.2.2.2.2.2.2.2.2.2.2.1) d.1 d.2.1 d.2.2.1 d.2.2.2.1 d.2.2.2.2.1 d.2.2.2.2.2.1 d.2.2.2.2.2.2.1 d.2.2.2.2.2.2.2.1 d.2.2.2.2.2.2.2.2.1 d.2.2.2.2.2.2.2.2.2.1 d.2.2.2.2.2.2.2.2.2.2.1 d.2.2.2.2.2.2.2.2.2.2.2.1 d.2.2.2.2.2.2.2.2.2.2.2.2.1 d.2.2.2.2.2.2.2.2.2.2.2.2.2.1 d.2.2.2.2.2.2.2.2.2.2.2.2.2.2.1 d.2.2.2.2.2.2.2.2.2.2.2.2.2.2.2.1 d.2.2.2.2.2.2.2.2.2.2.2.2.2.2.2.2.1 d.2.2.2.2.2.2.2.2.2.2.2.2.2.2.2.2.2.1 d.2.2.2.2.2.2.2.2.2.2.2.2.2.2.2.2.2.2.1 d.2.2.2.2.2.2.2.2.2.2.2.2.2.2.2.2.2.2.2.1 d.2.2.2.2.2.2.2.2.2.2.2.2.2.2.2.2.2.2.2.2.1 d.2.2.2.2.2.2.2.2.2.2.2.2.2.2.2.2.2.2.2.2.2.1 d.2.2.2.2.2.2.2.2.2.2.2.2.2.2.2.2.2.2.2.2.2.2.1 d.2.2.2.2.2.2.2.2.2.2.2.2.2.2.2.2.2.2.2.2.2.2.2.1 d.2.2.2.2.2.2.2.2.2.2.2.2.2.2.2.2.2.2.2.2.2.2.2.2.1 d.2.2.2.2.2.2.2.2.2.2.2.2.2.2.2.2.2.2.2.2.2.2.2.2.2.1 d.2.2.2.2.2.2.2.2.2.2.2.2.2.2.2.2.2.2.2.2.2.2.2.2.2.2.1 d.2.2.2.2.2.2.2.2.2.2.2.2.2.2.2.2.2.2.2.2.2.2.2.2.2.2.2.1 d.2.2.2.2.2.2.2.2.2.2.2.2.2.2.2.2.2.2.2.2.2.2.2.2.2.2.2.2.1 d.2.2.2.2.2.2.2.2.2.2.2.2.2.2.2.2.2.2.2.2.2.2.2.2.2.2.2.2.2.1).bind (ou_impl_move_14 k)) noL))
theorem rd_impl_move_14 {R : Type} (nx : (pa_impl_move 14).1.D → Kt R → Option R) (k : Kt R) (v1 : Int) (v9 : List ByteArray) (v72 : List ByteArray) (v73 : Int) (v74 : Int) (b0_0 : Int) (b0_1 : Int) (b0_2 : Int) (b0_3 : Int) (b0_4 : Int) (b0_5 : Int) (b0_6 : Int) (b0_7 : Int) (b0_8 : Int) (b0_9 : List (ByteArray × ByteArray × Unit)) (b1_0 : Int) (b1_1 : Int) (b1_2 : Int) (b1_3 : Int) (b1_4 : Int) (b1_5 : Int) (b1_6 : Int) (b1_7 : Int) (b1_8 : Int) (b2_0 : Int) (b2_1 : Int) (b2_2 : Int) (b2_3 : Int) (r3 : List (Bool × Int × ByteArray × Unit)) (r4 : List (ByteArray × ByteArray × Unit)) : ev Try.prog ⟨ta_impl_move, 0, 119, pa_impl_move⟩ L_impl_move co_impl_move_14 ((pa_impl_move 14).1.st (v1, v9, v72, v73, v74, b0_0, b0_1, b0_2, b0_3, b0_4, b0_5, b0_6, b0_7, b0_8, b0_9, b1_0, b1_1, b1_2, b1_3, b1_4, b1_5, b1_6, b1_7, b1_8, b2_0, b2_1, b2_2, b2_3, r3, r4, ())) (pa_impl_move 14).1.nid (roundK 0 (pa_impl_move 14) nx k) = tr_impl_move_14  (fun d => nx d k) (fun d => k (.exit 2) (((pa_impl_move 14).2 4).st d) (((pa_impl_move 14).2 4).nid)) v1 v9 v72 v73 v74 b0_0 b0_1 b0_2 b0_3 b0_4 b0_5 b0_6 b0_7 b0_8 b0_9 b1_0 b1_1 b1_2 b1_3 b1_4 b1_5 b1_6 b1_7 b1_8 b2_0 b2_1 b2_2 b2_3 r3 r4 := by kernel_rfl
theorem lp_impl_move_14 {R : Type} : ∀ (m : Nat) (d : (pa_impl_move 14).1.D) (k : Kt R), loopN 0 (pa_impl_move 14) (fun s nid k => ev Try.prog ⟨ta_impl_move, 0, 119, pa_impl_move⟩ L_impl_move co_impl_move_14 s nid k) m d k = (lo_impl_move_14 m d.1 d.2.1 d.2.2.1 d.2.2.2.1 d.2.2.2.2.1 d.2.2.2.2.2.1 d.2.2.2.2.2.2.1 d.2.2.2.2.2.2.2.1 d.2.2.2.2.2.2.2.2.1 d.2.2.2.2.2.2.2.2.2.1 d.2.2.2.2.2.2.2.2.2.2.1 d.2.2.2.2.2.2.2.2.2.2.2.1 d.2.2.2.2.2.2.2.2.2.2.2.2.1 d.2.2.2.2.2.2.2.2.2.2.2.2.2.1 d.2.2.2.2.2.2.2.2.2.2.2.2.2.2.1 d.2.2.2.2.2.2.2.2.2.2.2.2.2.2.2.1 d.2.2.2.2.2.2.2.2.2.2.2.2.2.2.2.2.1 d.2.2.2.2.2.2.2.2.2.2.2.2.2.2.2.2.2.1 d.2.2.2.2.2.2.2.2.2.2.2.2.2.2.2.2.2.2.1 d.2.2.2.2.2.2.2.2.2.2.2.2.2.2.2.2.2.2.2.1 d.2.2.2.2.2.2.2.2.2.2.2.2.2.2.2.2.2.2.2.2.1 d.2.2.2.2.2.2.2.2.2.2.2.2.2.2.2.2.2.2.2.2.2.1 d.2.2.2.2.2.2.2.2.2.2.2.2.2.2.2.2.2.2.2.2.2.2.1 d.2.2.2.2.2.2.2.2.2.2.2.2.2.2.2.2.2.2.2.2.2.2.2.1 d.2.2.2.2.2.2.2.2.2.2.2.2.2.2.2.2.2.2.2.2.2.2.2.2.1 d.2.2.2.2.2.2.2.2.2.2.2.2.2.2.2.2.2.2.2.2.2.2.2.2.2.1 d.2.2.2.2.2.2.2.2.2.2.2.2.2.2.2.2.2.2.2.2.2.2.2.2.2.2.1 d.2.2.2.2.2.2.2.2.2.2.2.2.2.2.2.2.2.2.2.2.2.2.2.2.2.2.2.1 d.2.2.2.2.2.2.2.2.2.2.2.2.2.2.2.2.2.2.2.2.2.2.2.2.2.2.2.2.1 d.2.2.2.2.2.2.2.2.2.2.2.2.2.2.2.2.2.2.2.2.2.2.2.2.2.2.2.2.2.1).bind (ou_impl_move_14 k)
  | 0, _, _ => rfl
  | m + 1, ⟨v1, v9, v72, v73, v74, b0_0, b0_1, b0_2, b0_3, b0_4, b0_5, b0_6, b0_7, b0_8, b0_9, b1_0, b1_1, b1_2, b1_3, b1_4, b1_5, b1_6, b1_7, b1_8, b2_0, b2_1, b2_2, b2_3, r3, r4, ⟨⟩⟩, k => (rd_impl_move_14 _ k v1 v9 v72 v73 v74 b0_0 b0_1 b0_2 b0_3 b0_4 b0_5 b0_6 b0_7 b0_8 b0_9 b1_0 b1_1 b1_2 b1_3 b1_4 b1_5 b1_6 b1_7 b1_8 b2_0 b2_1 b2_2 b2_3 r3 r4).trans ((congrArg (fun F => tr_impl_move_14  F (fun d => k (.exit 2) (((pa_impl_move 14).2 4).st d) (((pa_impl_move 14).2 4).nid)) v1 v9 v72 v73 v74 b0_0 b0_1 b0_2 b0_3 b0_4 b0_5 b0_6 b0_7 b0_8 b0_9 b1_0 b1_1 b1_2 b1_3 b1_4 b1_5 b1_6 b1_7 b1_8 b2_0 b2_1 b2_2 b2_3 r3 r4) (funext fun d => lp_impl_move_14 m d k)).trans (na_impl_move_14 (f := ou_impl_move_14 k)  (fun d => lo_impl_move_14 m d.1 d.2.1 d.2.2.1 d.2.2.2.1 d.2.2.2.2.1 d.2.2.2.2.2.1 d.2.2.2.2.2.2.1 d.2.2.2.2.2.2.2.1 d.2.2.2.2.2.2.2.2.1 d.2.2.2.2.2.2.2.2.2.1 d.2.2.2.2.2.2.2.2.2.2.1 d.2.2.2.2.2.2.2.2.2.2.2.1 d.2.2.2.2.2.2.2.2.2.2.2.2.1 d.2.2.2.2.2.2.2.2.2.2.2.2.2.1 d.2.2.2.2.2.2.2.2.2.2.2.2.2.2.1 d.2.2.2.2.2.2.2.2.2.2.2.2.2.2.2.1 d.2.2.2.2.2.2.2.2.2.2.2.2.2.2.2.2.1 d.2.2.2.2.2.2.2.2.2.2.2.2.2.2.2.2.2.1 d.2.2.2.2.2.2.2.2.2.2.2.2.2.2.2.2.2.2.1 d.2.2.2.2.2.2.2.2.2.2.2.2.2.2.2.2.2.2.2.1 d.2.2.2.2.2.2.2.2.2.2.2.2.2.2.2.2.2.2.2.2.1 d.2.2.2.2.2.2.2.2.2.2.2.2.2.2.2.2.2.2.2.2.2.1 d.2.2.2.2.2.2.2.2.2.2.2.2.2.2.2.2.2.2.2.2.2.2.1 d.2.2.2.2.2.2.2.2.2.2.2.2.2.2.2.2.2.2.2.2.2.2.2.1 d.2.2.2.2.2.2.2.2.2.2.2.2.2.2.2.2.2.2.2.2.2.2.2.2.1 d.2.2.2.2.2.2.2.2.2.2.2.2.2.2.2.2.2.2.2.2.2.2.2.2.2.1 d.2.2.2.2.2.2.2.2.2.2.2.2.2.2.2.2.2.2.2.2.2.2.2.2.2.2.1 d.2.2.2.2.2.2.2.2.2.2.2.2.2.2.2.2.2.2.2.2.2.2.2.2.2.2.2.1 d.2.2.2.2.2.2.2.2.2.2.2.2.2.2.2.2.2.2.2.2.2.2.2.2.2.2.2.2.1 d.2.2.2.2.2.2.2.2.2.2.2.2.2.2.2.2.2.2.2.2.2.2.2.2.2.2.2.2.2.1) (fun d => some (d)) v1 v9 v72 v73 v74 b0_0 b0_1 b0_2 b0_3 b0_4 b0_5 b0_6 b0_7 b0_8 b0_9 b1_0 b1_1 b1_2 b1_3 b1_4 b1_5 b1_6 b1_7 b1_8 b2_0 b2_1 b2_2 b2_3 r3 r4))
theorem rd_impl_move_8 {R : Type} (nx : (pa_impl_move 8).1.D → Kt R → Option R) (k : Kt R) (v1 : Int) (v52 : List (List (ByteArray × ByteArray × Bool × Unit))) (v53 : Int) (v54 : Int) (b0_0 : Int) (b0_1 : Int) (b0_2 : Int) (b0_3 : Int) (b0_4 : Int) (b0_5 : Int) (b0_6 : Int) (b0_7 : Int) (b0_8 : Int) (b0_9 : List (ByteArray × ByteArray × Unit)) (b1_0 : Int) (b1_1 : Int) (b1_2 : Int) (b1_3 : Int) (b1_4 : Int) (b1_5 : Int) (b1_6 : Int) (b1_7 : Int) (b1_8 : Int) (b2_0 : Int) (b2_1 : Int) (b2_2 : Int) (b2_3 : Int) (r3 : List ByteArray) (r4 : List (ByteArray × ByteArray × Unit)) : ev Try.prog ⟨ta_impl_move, 0, 119, pa_impl_move⟩ L_impl_move co_impl_move_8 ((pa_impl_move 8).1.st (v1, v52, v53, v54, b0_0, b0_1, b0_2, b0_3, b0_4, b0_5, b0_6, b0_7, b0_8, b0_9, b1_0, b1_1, b1_2, b1_3, b1_4, b1_5, b1_6, b1_7, b1_8, b2_0, b2_1, b2_2, b2_3, r3, r4, ())) (pa_impl_move 8).1.nid (roundK 0 (pa_impl_move 8) nx k) = tr_impl_move_8  (fun d => nx d k) (fun d => k (.exit 0) (((pa_impl_move 8).2 2).st d) (((pa_impl_move 8).2 2).nid)) v1 v52 v53 v54 b0_0 b0_1 b0_2 b0_3 b0_4 b0_5 b0_6 b0_7 b0_8 b0_9 b1_0 b1_1 b1_2 b1_3 b1_4 b1_5 b1_6 b1_7 b1_8 b2_0 b2_1 b2_2 b2_3 r3 r4 := by kernel_rfl
theorem lp_impl_move_8 {R : Type} : ∀ (m : Nat) (d : (pa_impl_move 8).1.D) (k : Kt R), loopN 0 (pa_impl_move 8) (fun s nid k => ev Try.prog ⟨ta_impl_move, 0, 119, pa_impl_move⟩ L_impl_move co_impl_move_8 s nid k) m d k = (lo_impl_move_8 m d.1 d.2.1 d.2.2.1 d.2.2.2.1 d.2.2.2.2.1 d.2.2.2.2.2.1 d.2.2.2.2.2.2.1 d.2.2.2.2.2.2.2.1 d.2.2.2.2.2.2.2.2.1 d.2.2.2.2.2.2.2.2.2.1 d.2.2.2.2.2.2.2.2.2.2.1 d.2.2.2.2.2.2.2.2.2.2.2.1 d.2.2.2.2.2.2.2.2.2.2.2.2.1 d.2.2.2.2.2.2.2.2.2.2.2.2.2.1 d.2.2.2.2.2.2.2.2.2.2.2.2.2.2.1 d.2.2.2.2.2.2.2.2.2.2.2.2.2.2.2.1 d.2.2.2.2.2.2.2.2.2.2.2.2.2.2.2.2.1 d.2.2.2.2.2.2.2.2.2.2.2.2.2.2.2.2.2.1 d.2.2.2.2.2.2.2.2.2.2.2.2.2.2.2.2.2.2.1 d.2.2.2.2.2.2.2.2.2.2.2.2.2.2.2.2.2.2.2.1 d.2.2.2.2.2.2.2.2.2.2.2.2.2.2.2.2.2.2.2.2.1 d.2.2.2.2.2.2.2.2.2.2.2.2.2.2.2.2.2.2.2.2.2.1 d.2.2.2.2.2.2.2.2.2.2.2.2.2.2.2.2.2.2.2.2.2.2.1 d.2.2.2.2.2.2.2.2.2.2.2.2.2.2.2.2.2.2.2.2.2.2.2.1 d.2.2.2.2.2.2.2.2.2.2.2.2.2.2.2.2.2.2.2.2.2.2.2.2.1 d.2.2.2.2.2.2.2.2.2.2.2.2.2.2.2.2.2.2.2.2.2.2.2.2.2.1 d.2.2.2.2.2.2.2.2.2.2.2.2.2.2.2.2.2.2.2.2.2.2.2.2.2.2.1 d.2.2.2.2.2.2.2.2.2.2.2.2.2.2.2.2.2.2.2.2.2.2.2.2.2.2.2.1 d.2.2.2.2.2.2.2.2.2.2.2.2.2.2.2.2.2.2.2.2.2.2.2.2.2.2.2.2.1).bind (ou_impl_move_8 k)
  | 0, _, _ => rfl
  | m + 1, ⟨v1, v52, v53, v54, b0_0, b0_1, b0_2, b0_3, b0_4, b0_5, b0_6, b0_7, b0_8, b0_9, b1_0, b1_1, b1_2, b1_3, b1_4, b1_5, b1_6, b1_7, b1_8, b2_0, b2_1, b2_2, b2_3, r3, r4, ⟨⟩⟩, k => (rd_impl_move_8 _ k v1 v52 v53 v54 b0_0 b0_1 b0_2 b0_3 b0_4 b0_5 b0_6 b0_7 b0_8 b0_9 b1_0 b1_1 b1_2 b1_3 b1_4 b1_5 b1_6 b1_7 b1_8 b2_0 b2_1 b2_2 b2_3 r3 r4).trans ((congrArg (fun F => tr_impl_move_8  F (fun d => k (.exit 0) (((pa_impl_move 8).2 2).st d) (((pa_impl_move 8).2 2).nid)) v1 v52 v53 v54 b0_0 b0_1 b0_2 b0_3 b0_4 b0_5 b0_6 b0_7 b0_8 b0_9 b1_0 b1_1 b1_2 b1_3 b1_4 b1_5 b1_6 b1_7 b1_8 b2_0 b2_1 b2_2 b2_3 r3 r4) (funext fun d => lp_impl_move_8 m d k)).trans (na_impl_move_8 (f := ou_impl_move_8 k)  (fun d => lo_impl_move_8 m d.1 d.2.1 d.2.2.1 d.2.2.2.1 d.2.2.2.2.1 d.2.2.2.2.2.1 d.2.2.2.2.2.2.1 d.2.2.2.2.2.2.2.1 d.2.2.2.2.2.2.2.2.1 d.2.2.2.2.2.2.2.2.2.1 d.2.2.2.2.2.2.2.2.2.2.1 d.2.2.2.2.2.2.2.2.2.2.2.1 d.2.2.2.2.2.2.2.2.2.2.2.2.1 d.2.2.2.2.2.2.2.2.2.2.2.2.2.1 d.2.2.2.2.2.2.2.2.2.2.2.2.2.2.1 d.2.2.2.2.2.2.2.2.2.2.2.2.2.2.2.1 d.2.2.2.2.2.2.2.2.2.2.2.2.2.2.2.2.1 d.2.2.2.2.2.2.2.2.2.2.2.2.2.2.2.2.2.1 d.2.2.2.2.2.2.2.2.2.2.2.2.2.2.2.2.2.2.1 d.2.2.2.2.2.2.2.2.2.2.2.2.2.2.2.2.2.2.2.1 d.2.2.2.2.2.2.2.2.2.2.2.2.2.2.2.2.2.2.2.2.1 d.2.2.2.2.2.2.2.2.2.2.2.2.2.2.2.2.2.2.2.2.2.1 d.2.2.2.2.2.2.2.2.2.2.2.2.2.2.2.2.2.2.2.2.2.2.1 d.2.2.2.2.2.2.2.2.2.2.2.2.2.2.2.2.2.2.2.2.2.2.2.1 d.2.2.2.2.2.2.2.2.2.2.2.2.2.2.2.2.2.2.2.2.2.2.2.2.1 d.2.2.2.2.2.2.2.2.2.2.2.2.2.2.2.2.2.2.2.2.2.2.2.2.2.1 d.2.2.2.2.2.2.2.2.2.2.2.2.2.2.2.2.2.2.2.2.2.2.2.2.2.2.1 d.2.2.2.2.2.2.2.2.2.2.2.2.2.2.2.2.2.2.2.2.2.2.2.2.2.2.2.1 d.2.2.2.2.2.2.2.2.2.2.2.2.2.2.2.2.2.2.2.2.2.2.2.2.2.2.2.2.1) (fun d => some (d)) v1 v52 v53 v54 b0_0 b0_1 b0_2 b0_3 b0_4 b0_5 b0_6 b0_7 b0_8 b0_9 b1_0 b1_1 b1_2 b1_3 b1_4 b1_5 b1_6 b1_7 b1_8 b2_0 b2_1 b2_2 b2_3 r3 r4))
theorem en_impl_move (a0 : Int × Int × Int × (Int × Int × Int × Int × Unit) × Int × Int × ((List (ByteArray × ByteArray × Unit)) × Unit) × Unit) (a1 : Int) : evalF Try.prog ta_impl_move pa_impl_move sg_impl_move Try.f53 L_impl_move (a0, a1, ()) = de_impl_move a0 a1 := by kernel_rfl
theorem si_impl_move : SigsOk Try.prog ta_impl_move := SigsOk.of fun f sd h => by
  try dsimp only [Tb.of, ta_impl_move] at h
  split at h
  · rename_i e; subst e; cases h; exact sn_impl_RootPage
  split at h
  · rename_i e; subst e; cases h; exact sn_impl_Snapshot
  split at h
  · rename_i e; subst e; cases h; exact sn_impl_FormBatch
  split at h
  · rename_i e; subst e; cases h; exact sn_impl_FormPage
  split at h
  · rename_i e; subst e; cases h; exact sn_impl_Halves
  split at h
  · rename_i e; subst e; cases h; exact sn_impl_Cut
  split at h
  · rename_i e; subst e; cases h; exact sn_impl_begin
  split at h
  · rename_i e; subst e; cases h; exact sn_impl_copyState
  cases h
theorem lk_impl_move_14 {R : Type} : LoopOk Try.prog R 119 0 pa_impl_move L_impl_move co_impl_move_14 :=
  loop_key (cfg := ⟨ta_impl_move, 0, 119, pa_impl_move⟩) (key := 14) (by kernel_rfl) (by kernel_rfl) si_impl_move rfl rfl (fun d k r h => ⟨fu_impl_move_14 d.1 d.2.1 d.2.2.1 d.2.2.2.1 d.2.2.2.2.1 d.2.2.2.2.2.1 d.2.2.2.2.2.2.1 d.2.2.2.2.2.2.2.1 d.2.2.2.2.2.2.2.2.1 d.2.2.2.2.2.2.2.2.2.1 d.2.2.2.2.2.2.2.2.2.2.1 d.2.2.2.2.2.2.2.2.2.2.2.1 d.2.2.2.2.2.2.2.2.2.2.2.2.1 d.2.2.2.2.2.2.2.2.2.2.2.2.2.1 d.2.2.2.2.2.2.2.2.2.2.2.2.2.2.1 d.2.2.2.2.2.2.2.2.2.2.2.2.2.2.2.1 d.2.2.2.2.2.2.2.2.2.2.2.2.2.2.2.2.1 d.2.2.2.2.2.2.2.2.2.2.2.2.2.2.2.2.2.1 d.2.2.2.2.2.2.2.2.2.2.2.2.2.2.2.2.2.2.1 d.2.2.2.2.2.2.2.2.2.2.2.2.2.2.2.2.2.2.2.1 d.2.2.2.2.2.2.2.2.2.2.2.2.2.2.2.2.2.2.2.2.1 d.2.2.2.2.2.2.2.2.2.2.2.2.2.2.2.2.2.2.2.2.2.1 d.2.2.2.2.2.2.2.2.2.2.2.2.2.2.2.2.2.2.2.2.2.2.1 d.2.2.2.2.2.2.2.2.2.2.2.2.2.2.2.2.2.2.2.2.2.2.2.1 d.2.2.2.2.2.2.2.2.2.2.2.2.2.2.2.2.2.2.2.2.2.2.2.2.1 d.2.2.2.2.2.2.2.2.2.2.2.2.2.2.2.2.2.2.2.2.2.2.2.2.2.1 d.2.2.2.2.2.2.2.2.2.2.2.2.2.2.2.2.2.2.2.2.2.2.2.2.2.2.1 d.2.2.2.2.2.2.2.2.2.2.2.2.2.2.2.2.2.2.2.2.2.2.2.2.2.2.2.1 d.2.2.2.2.2.2.2.2.2.2.2.2.2.2.2.2.2.2.2.2.2.2.2.2.2.2.2.2.1 d.2.2.2.2.2.2.2.2.2.2.2.2.2.2.2.2.2.2.2.2.2.2.2.2.2.2.2.2.2.1, (lp_impl_move_14 _ d k).trans h⟩) (fun c hc => by rw [show loopsIn co_impl_move_14 = [] from by kernel_rfl] at hc; cases hc)
theorem lk_impl_move_8 {R : Type} : LoopOk Try.prog R 119 0 pa_impl_move L_impl_move co_impl_move_8 :=
  loop_key (cfg := ⟨ta_impl_move, 0, 119, pa_impl_move⟩) (key := 8) (by kernel_rfl) (by kernel_rfl) si_impl_move rfl rfl (fun d k r h => ⟨fu_impl_move_8 d.1 d.2.1 d.2.2.1 d.2.2.2.1 d.2.2.2.2.1 d.2.2.2.2.2.1 d.2.2.2.2.2.2.1 d.2.2.2.2.2.2.2.1 d.2.2.2.2.2.2.2.2.1 d.2.2.2.2.2.2.2.2.2.1 d.2.2.2.2.2.2.2.2.2.2.1 d.2.2.2.2.2.2.2.2.2.2.2.1 d.2.2.2.2.2.2.2.2.2.2.2.2.1 d.2.2.2.2.2.2.2.2.2.2.2.2.2.1 d.2.2.2.2.2.2.2.2.2.2.2.2.2.2.1 d.2.2.2.2.2.2.2.2.2.2.2.2.2.2.2.1 d.2.2.2.2.2.2.2.2.2.2.2.2.2.2.2.2.1 d.2.2.2.2.2.2.2.2.2.2.2.2.2.2.2.2.2.1 d.2.2.2.2.2.2.2.2.2.2.2.2.2.2.2.2.2.2.1 d.2.2.2.2.2.2.2.2.2.2.2.2.2.2.2.2.2.2.2.1 d.2.2.2.2.2.2.2.2.2.2.2.2.2.2.2.2.2.2.2.2.1 d.2.2.2.2.2.2.2.2.2.2.2.2.2.2.2.2.2.2.2.2.2.1 d.2.2.2.2.2.2.2.2.2.2.2.2.2.2.2.2.2.2.2.2.2.2.1 d.2.2.2.2.2.2.2.2.2.2.2.2.2.2.2.2.2.2.2.2.2.2.2.1 d.2.2.2.2.2.2.2.2.2.2.2.2.2.2.2.2.2.2.2.2.2.2.2.2.1 d.2.2.2.2.2.2.2.2.2.2.2.2.2.2.2.2.2.2.2.2.2.2.2.2.2.1 d.2.2.2.2.2.2.2.2.2.2.2.2.2.2.2.2.2.2.2.2.2.2.2.2.2.2.1 d.2.2.2.2.2.2.2.2.2.2.2.2.2.2.2.2.2.2.2.2.2.2.2.2.2.2.2.1 d.2.2.2.2.2.2.2.2.2.2.2.2.2.2.2.2.2.2.2.2.2.2.2.2.2.2.2.2.1, (lp_impl_move_8 _ d k).trans h⟩) (fun c hc => by rw [show loopsIn co_impl_move_8 = [] from by kernel_rfl] at hc; cases hc)
theorem sn_impl_move : Callable Try.prog 53 ∧ Sound Try.prog 53 sd_impl_move.sg sd_impl_move.den :=
  fn_loops (pat := pa_impl_move) L_impl_move (by kernel_rfl) si_impl_move Try.func53 (by kernel_rfl) (by kernel_rfl) (fun c hc => by rw [show loopsIn (bodyOf Try.f53) = [co_impl_move_8, co_impl_move_14] from by kernel_rfl] at hc; simp only [List.mem_cons, List.not_mem_nil, or_false] at hc; rcases hc with rfl | rfl <;> first | exact lk_impl_move_8 | exact lk_impl_move_14) fun x r h => by
    obtain ⟨a0, a1, ⟨⟩⟩ := x; obtain ⟨y, h1, h2⟩ := Option.bind_eq_some_iff.1 (show (m_impl_move a0 a1).bind (fun r => some ((r.1.1, r.1.2.1, r.1.2.2.1, r.1.2.2.2.1.1, r.1.2.2.2.1.2.1, r.1.2.2.2.1.2.2.1, r.1.2.2.2.1.2.2.2.1, r.1.2.2.2.2.1, r.1.2.2.2.2.2.1, r.1.2.2.2.2.2.2.1.1, r.2.1, r.2.2, ()), (()))) = some r from h); cases h2; exact (en_impl_move a0 a1).trans (eq_impl_move a0 a1 _ h1)
def m_impl_Compact (s : Sto) : Don := compactS s
def sg_impl_Compact : Sig := ⟨[.rd (.pair (.int .i64) (.pair (.int .i64) (.pair (.int .i64) (.pair (.pair (.int .i64) (.pair (.int .i64) (.pair (.int .i64) (.pair (.int .i64) .unit)))) (.pair (.int .i64) (.pair (.int .i64) (.pair (.pair (.sl (.pair .str (.pair .str .unit))) .unit) .unit)))))))], [some 10], [.rd (.int .i64), .rd (.int .i64), .rd (.int .i64), .rd (.int .i64), .rd (.int .i64), .rd (.int .i64), .rd (.int .i64), .rd (.int .i64), .rd (.int .i64), .rd (.int .i64), .own 151 (.pair .str (.pair .str .unit)), .own 57 (.pair .bool (.pair (.int .i64) (.pair .str .unit)))], [some 12]⟩
noncomputable def sd_impl_Compact : SD := ⟨sg_impl_Compact, fun x => some (((m_impl_Compact x.1).1, (m_impl_Compact x.1).2.1.1, (m_impl_Compact x.1).2.1.2.1, (m_impl_Compact x.1).2.1.2.2.1, (m_impl_Compact x.1).2.1.2.2.2.1.1, (m_impl_Compact x.1).2.1.2.2.2.1.2.1, (m_impl_Compact x.1).2.1.2.2.2.1.2.2.1, (m_impl_Compact x.1).2.1.2.2.2.1.2.2.2.1, (m_impl_Compact x.1).2.1.2.2.2.2.1, (m_impl_Compact x.1).2.1.2.2.2.2.2.1, (m_impl_Compact x.1).2.1.2.2.2.2.2.2.1.1, (m_impl_Compact x.1).2.2.1, ()), (()))⟩
noncomputable def ta_impl_Compact : Tb := Tb.of fun f => if f = 52 then some sd_impl_ValidStore else if f = 53 then some sd_impl_move else none
def pa_impl_Compact : Nat → Pat × (Nat → Pat) := fun k => (⟨[], [], []⟩, fun _ => ⟨[], [], []⟩)
noncomputable def de_impl_Compact (a0 : Int × Int × Int × (Int × Int × Int × Int × Unit) × Int × Int × ((List (ByteArray × ByteArray × Unit)) × Unit) × Unit) : Option ((((Int) × (Int) × (Int) × (Int) × (Int) × (Int) × (Int) × (Int) × (Int) × (Int) × (List (ByteArray × ByteArray × Unit)) × (List (Bool × Int × ByteArray × Unit)) × Unit) × (Unit))) :=
  bif
      !m_impl_ValidStore
          (a0.fst, a0.snd.fst, a0.snd.snd.fst, (a0.snd.snd.snd.fst.fst, a0.snd.snd.snd.fst.snd.fst, a0.snd.snd.snd.fst.snd.snd.fst, a0.snd.snd.snd.fst.snd.snd.snd.fst, ()), a0.snd.snd.snd.snd.fst,
            a0.snd.snd.snd.snd.snd.fst, (a0.snd.snd.snd.snd.snd.snd.fst.fst, ()), ()) then
    some ((1, 0, 0, 0, 0, 0, 0, 0, 0, 0, [], [], ()), ())
  else
    Option.bind
      (Option.bind
        (m_impl_move
          (a0.fst, a0.snd.fst, a0.snd.snd.fst, (a0.snd.snd.snd.fst.fst, a0.snd.snd.snd.fst.snd.fst, a0.snd.snd.snd.fst.snd.snd.fst, a0.snd.snd.snd.fst.snd.snd.snd.fst, ()), a0.snd.snd.snd.snd.fst,
            a0.snd.snd.snd.snd.snd.fst, (a0.snd.snd.snd.snd.snd.snd.fst.fst, ()), ())
          a0.snd.snd.fst)
        fun val =>
        some
          ((val.fst.fst, val.fst.snd.fst, val.fst.snd.snd.fst, val.fst.snd.snd.snd.fst.fst, val.fst.snd.snd.snd.fst.snd.fst, val.fst.snd.snd.snd.fst.snd.snd.fst, val.fst.snd.snd.snd.fst.snd.snd.snd.fst,
              val.fst.snd.snd.snd.snd.fst, val.fst.snd.snd.snd.snd.snd.fst, val.fst.snd.snd.snd.snd.snd.snd.fst.fst, val.snd.fst, val.snd.snd, ()),
            ()))
      fun val =>
      bif !val.fst.snd.snd.snd.snd.snd.snd.snd.snd.snd.snd.snd.fst then some ((4, 0, 0, 0, 0, 0, 0, 0, 0, 0, [], [], ()), ())
      else
        some
          ((0, val.fst.fst, val.fst.snd.fst, val.fst.snd.snd.fst, val.fst.snd.snd.snd.fst, val.fst.snd.snd.snd.snd.fst, val.fst.snd.snd.snd.snd.snd.fst, val.fst.snd.snd.snd.snd.snd.snd.fst,
              val.fst.snd.snd.snd.snd.snd.snd.snd.fst, val.fst.snd.snd.snd.snd.snd.snd.snd.snd.fst, val.fst.snd.snd.snd.snd.snd.snd.snd.snd.snd.fst, val.fst.snd.snd.snd.snd.snd.snd.snd.snd.snd.snd.fst,
              ()),
            ())
theorem eq_impl_Compact (a0 : Int × Int × Int × (Int × Int × Int × Int × Unit) × Int × Int × ((List (ByteArray × ByteArray × Unit)) × Unit) × Unit) : de_impl_Compact a0 = some (((m_impl_Compact a0).1, (m_impl_Compact a0).2.1.1, (m_impl_Compact a0).2.1.2.1, (m_impl_Compact a0).2.1.2.2.1, (m_impl_Compact a0).2.1.2.2.2.1.1, (m_impl_Compact a0).2.1.2.2.2.1.2.1, (m_impl_Compact a0).2.1.2.2.2.1.2.2.1, (m_impl_Compact a0).2.1.2.2.2.1.2.2.2.1, (m_impl_Compact a0).2.1.2.2.2.2.1, (m_impl_Compact a0).2.1.2.2.2.2.2.1, (m_impl_Compact a0).2.1.2.2.2.2.2.2.1.1, (m_impl_Compact a0).2.2.1, ()), (())) := by
  unfold de_impl_Compact m_impl_Compact compactS
  show (bif !validStore a0 then _ else _) = _
  cases hv : validStore a0 with
  | false => rfl
  | true =>
    have e1 : m_impl_move (a0.1, a0.2.1, a0.2.2.1, (a0.2.2.2.1.1, a0.2.2.2.1.2.1, a0.2.2.2.1.2.2.1, a0.2.2.2.1.2.2.2.1, ()), a0.2.2.2.2.1, a0.2.2.2.2.2.1, (a0.2.2.2.2.2.2.1.1, ()), ()) a0.2.2.1 = some (moveS a0 a0.2.2.1) := if_pos (storeMove hv)
    simp only [Bool.not_true, cond_false, cond_true]
    rw [e1]
    unfold moveD
    generalize moveS a0 a0.2.2.1 = r
    obtain ⟨st, ops, b⟩ := r
    cases b <;> rfl
theorem en_impl_Compact (a0 : Int × Int × Int × (Int × Int × Int × Int × Unit) × Int × Int × ((List (ByteArray × ByteArray × Unit)) × Unit) × Unit) : evalF Try.prog ta_impl_Compact pa_impl_Compact sg_impl_Compact Try.f11 noL (a0, ()) = de_impl_Compact a0 := by kernel_rfl
theorem si_impl_Compact : SigsOk Try.prog ta_impl_Compact := SigsOk.of fun f sd h => by
  try dsimp only [Tb.of, ta_impl_Compact] at h
  split at h
  · rename_i e; subst e; cases h; exact sn_impl_ValidStore
  split at h
  · rename_i e; subst e; cases h; exact sn_impl_move
  cases h
theorem sn_impl_Compact : Callable Try.prog 11 ∧ Sound Try.prog 11 sd_impl_Compact.sg sd_impl_Compact.den :=
  fn_plain (pat := pa_impl_Compact) (by kernel_rfl) si_impl_Compact Try.func11 (by kernel_rfl) (by kernel_rfl) (by kernel_rfl) fun x r h => by
    obtain ⟨a0, ⟨⟩⟩ := x; rw [← h]; exact (en_impl_Compact a0).trans (eq_impl_Compact a0)
def m_laws_eqRoot (a b : Int × Int × Int × Int × Unit) : Option Bool := eqM (.pair (.int .i64) (.pair (.int .i64) (.pair (.int .i64) (.pair (.int .i64) .unit)))) a b
def sg_laws_eqRoot : Sig := ⟨[.rd (.pair (.int .i64) (.pair (.int .i64) (.pair (.int .i64) (.pair (.int .i64) .unit)))), .rd (.pair (.int .i64) (.pair (.int .i64) (.pair (.int .i64) (.pair (.int .i64) .unit))))], [some 4, some 4], [.rd .bool], [none]⟩
noncomputable def sd_laws_eqRoot : SD := ⟨sg_laws_eqRoot, fun x => (m_laws_eqRoot x.1 x.2.1).bind fun r => some ((r, ()), (()))⟩
noncomputable def ta_laws_eqRoot : Tb := Tb.of fun f => none
def pa_laws_eqRoot : Nat → Pat × (Nat → Pat) := fun k => (⟨[], [], []⟩, fun _ => ⟨[], [], []⟩)
noncomputable def de_laws_eqRoot (a0 : Int × Int × Int × Int × Unit) (a1 : Int × Int × Int × Int × Unit) : Option ((((Bool) × Unit) × (Unit))) :=
  bif a0.fst != a1.fst then some ((false, ()), ())
  else
    bif a0.snd.fst != a1.snd.fst then some ((false, ()), ())
    else bif a0.snd.snd.fst != a1.snd.snd.fst then some ((false, ()), ()) else bif a0.snd.snd.snd.fst != a1.snd.snd.snd.fst then some ((false, ()), ()) else some ((true, ()), ())
theorem eq_laws_eqRoot (a0 : Int × Int × Int × Int × Unit) (a1 : Int × Int × Int × Int × Unit) r (h : m_laws_eqRoot a0 a1 = some r) : de_laws_eqRoot a0 a1 = some ((r, ()), (())) := by
  obtain ⟨hc, hd, rfl⟩ := eqM_some (t := (.pair (.int .i64) (.pair (.int .i64) (.pair (.int .i64) (.pair (.int .i64) .unit))))) h
  obtain ⟨hc0, hc1, hc2, hc3, _⟩ : fineB (.int .i64) a0.1 = true ∧ fineB (.int .i64) a0.2.1 = true ∧ fineB (.int .i64) a0.2.2.1 = true ∧ fineB (.int .i64) a0.2.2.2.1 = true ∧ True := by
    have s := hc
    obtain ⟨h0, s⟩ := fineB_pair s
    obtain ⟨h1, s⟩ := fineB_pair s
    obtain ⟨h2, s⟩ := fineB_pair s
    obtain ⟨h3, s⟩ := fineB_pair s
    exact ⟨h0, h1, h2, h3, trivial⟩
  obtain ⟨hd0, hd1, hd2, hd3, _⟩ : fineB (.int .i64) a1.1 = true ∧ fineB (.int .i64) a1.2.1 = true ∧ fineB (.int .i64) a1.2.2.1 = true ∧ fineB (.int .i64) a1.2.2.2.1 = true ∧ True := by
    have s := hd
    obtain ⟨h0, s⟩ := fineB_pair s
    obtain ⟨h1, s⟩ := fineB_pair s
    obtain ⟨h2, s⟩ := fineB_pair s
    obtain ⟨h3, s⟩ := fineB_pair s
    exact ⟨h0, h1, h2, h3, trivial⟩
  unfold de_laws_eqRoot
  have e0 : (a0.1 != a1.1) = !eqI a0.1 a1.1 := bneI _ _
  have e1 : (a0.2.1 != a1.2.1) = !eqI a0.2.1 a1.2.1 := bneI _ _
  have e2 : (a0.2.2.1 != a1.2.2.1) = !eqI a0.2.2.1 a1.2.2.1 := bneI _ _
  have e3 : (a0.2.2.2.1 != a1.2.2.2.1) = !eqI a0.2.2.2.1 a1.2.2.2.1 := bneI _ _
  simp only [e0, e1, e2, e3, Option.bind_some]
  show _ = some (((eqI a0.1 a1.1 && (eqI a0.2.1 a1.2.1 && (eqI a0.2.2.1 a1.2.2.1 && (eqI a0.2.2.2.1 a1.2.2.2.1 && true)))), ()), ())
  generalize eqI a0.1 a1.1 = p0
  generalize eqI a0.2.1 a1.2.1 = p1
  generalize eqI a0.2.2.1 a1.2.2.1 = p2
  generalize eqI a0.2.2.2.1 a1.2.2.2.1 = p3
  cases p0 <;> cases p1 <;> cases p2 <;> cases p3 <;> rfl
theorem en_laws_eqRoot (a0 : Int × Int × Int × Int × Unit) (a1 : Int × Int × Int × Int × Unit) : evalF Try.prog ta_laws_eqRoot pa_laws_eqRoot sg_laws_eqRoot Try.f55 noL (a0, a1, ()) = de_laws_eqRoot a0 a1 := by kernel_rfl
theorem si_laws_eqRoot : SigsOk Try.prog ta_laws_eqRoot := SigsOk.of fun f sd h => by
  try dsimp only [Tb.of, ta_laws_eqRoot] at h
  cases h
theorem sn_laws_eqRoot : Callable Try.prog 55 ∧ Sound Try.prog 55 sd_laws_eqRoot.sg sd_laws_eqRoot.den :=
  fn_plain (pat := pa_laws_eqRoot) (by kernel_rfl) si_laws_eqRoot Try.func55 (by kernel_rfl) (by kernel_rfl) (by kernel_rfl) fun x r h => by
    obtain ⟨a0, a1, ⟨⟩⟩ := x; obtain ⟨y, h1, h2⟩ := Option.bind_eq_some_iff.1 (show (m_laws_eqRoot a0 a1).bind (fun r => some ((r, ()), (()))) = some r from h); cases h2; exact (en_laws_eqRoot a0 a1).trans (eq_laws_eqRoot a0 a1 _ h1)
def m_laws_eqPair (a b : ByteArray × ByteArray × Unit) : Option Bool := eqM (.pair .str (.pair .str .unit)) a b
def sg_laws_eqPair : Sig := ⟨[.rd (.pair .str (.pair .str .unit)), .rd (.pair .str (.pair .str .unit))], [some 2, some 2], [.rd .bool], [none]⟩
noncomputable def sd_laws_eqPair : SD := ⟨sg_laws_eqPair, fun x => (m_laws_eqPair x.1 x.2.1).bind fun r => some ((r, ()), (()))⟩
noncomputable def ta_laws_eqPair : Tb := Tb.of fun f => none
def pa_laws_eqPair : Nat → Pat × (Nat → Pat) := fun k => (⟨[], [], []⟩, fun _ => ⟨[], [], []⟩)
noncomputable def de_laws_eqPair (a0 : ByteArray × ByteArray × Unit) (a1 : ByteArray × ByteArray × Unit) : Option ((((Bool) × Unit) × (Unit))) :=
  bif !ByteArray.toList a0.fst == ByteArray.toList a1.fst then some ((false, ()), ())
  else bif !ByteArray.toList a0.snd.fst == ByteArray.toList a1.snd.fst then some ((false, ()), ()) else some ((true, ()), ())
theorem eq_laws_eqPair (a0 : ByteArray × ByteArray × Unit) (a1 : ByteArray × ByteArray × Unit) r (h : m_laws_eqPair a0 a1 = some r) : de_laws_eqPair a0 a1 = some ((r, ()), (())) := by
  obtain ⟨hc, hd, rfl⟩ := eqM_some (t := (.pair .str (.pair .str .unit))) h
  obtain ⟨hc0, hc1, _⟩ : fineB .str a0.1 = true ∧ fineB .str a0.2.1 = true ∧ True := by
    have s := hc
    obtain ⟨h0, s⟩ := fineB_pair s
    obtain ⟨h1, s⟩ := fineB_pair s
    exact ⟨h0, h1, trivial⟩
  obtain ⟨hd0, hd1, _⟩ : fineB .str a1.1 = true ∧ fineB .str a1.2.1 = true ∧ True := by
    have s := hd
    obtain ⟨h0, s⟩ := fineB_pair s
    obtain ⟨h1, s⟩ := fineB_pair s
    exact ⟨h0, h1, trivial⟩
  unfold de_laws_eqPair
  have e0 : (!(ByteArray.toList a0.1 == ByteArray.toList a1.1)) = !eqS a0.1 a1.1 := rfl
  have e1 : (!(ByteArray.toList a0.2.1 == ByteArray.toList a1.2.1)) = !eqS a0.2.1 a1.2.1 := rfl
  simp only [e0, e1, Option.bind_some]
  show _ = some (((eqS a0.1 a1.1 && (eqS a0.2.1 a1.2.1 && true)), ()), ())
  generalize eqS a0.1 a1.1 = p0
  generalize eqS a0.2.1 a1.2.1 = p1
  cases p0 <;> cases p1 <;> rfl
theorem en_laws_eqPair (a0 : ByteArray × ByteArray × Unit) (a1 : ByteArray × ByteArray × Unit) : evalF Try.prog ta_laws_eqPair pa_laws_eqPair sg_laws_eqPair Try.f165 noL (a0, a1, ()) = de_laws_eqPair a0 a1 := by kernel_rfl
theorem si_laws_eqPair : SigsOk Try.prog ta_laws_eqPair := SigsOk.of fun f sd h => by
  try dsimp only [Tb.of, ta_laws_eqPair] at h
  cases h
theorem sn_laws_eqPair : Callable Try.prog 165 ∧ Sound Try.prog 165 sd_laws_eqPair.sg sd_laws_eqPair.den :=
  fn_plain (pat := pa_laws_eqPair) (by kernel_rfl) si_laws_eqPair Try.func165 (by kernel_rfl) (by kernel_rfl) (by kernel_rfl) fun x r h => by
    obtain ⟨a0, a1, ⟨⟩⟩ := x; obtain ⟨y, h1, h2⟩ := Option.bind_eq_some_iff.1 (show (m_laws_eqPair a0 a1).bind (fun r => some ((r, ()), (()))) = some r from h); cases h2; exact (en_laws_eqPair a0 a1).trans (eq_laws_eqPair a0 a1 _ h1)
def m_laws_eqPairS (a b : List (ByteArray × ByteArray × Unit)) : Option Bool := eqM (.sl (.pair .str (.pair .str .unit))) a b
def sg_laws_eqPairS : Sig := ⟨[.rd (.sl (.pair .str (.pair .str .unit))), .rd (.sl (.pair .str (.pair .str .unit)))], [none, none], [.rd .bool], [none]⟩
noncomputable def sd_laws_eqPairS : SD := ⟨sg_laws_eqPairS, fun x => (m_laws_eqPairS x.1 x.2.1).bind fun r => some ((r, ()), (()))⟩
noncomputable def ta_laws_eqPairS : Tb := Tb.of fun f => if f = 165 then some sd_laws_eqPair else none
def pa_laws_eqPairS : Nat → Pat × (Nat → Pat) := fun k => if k = 5 then (⟨[.sl 0 0 (.pair .str (.pair .str .unit)), .sl 1 0 (.pair .str (.pair .str .unit))], [(0, .lf (.d (.sl (.pair .str (.pair .str .unit))))), (1, .lf (.d (.sl (.pair .str (.pair .str .unit))))), (5, .lf (.d (.int .i64)))], []⟩, fun e => if e = 1 then ⟨[], [(4, .lf (.d .bool))], []⟩ else if e = 2 then ⟨[], [], []⟩ else ⟨[], [], []⟩) else (⟨[], [], []⟩, fun _ => ⟨[], [], []⟩)
noncomputable def co_laws_eqPairS_5 : Code := (loopsIn (bodyOf Try.f128)).getD 0 .skip
def fu_laws_eqPairS_5 (v0 : List (ByteArray × ByteArray × Unit)) (v1 : List (ByteArray × ByteArray × Unit)) (v5 : Int) : Nat := ((v0.length : Int) - v5).toNat + 1
noncomputable def tr_laws_eqPairS_5 {R : Type}  (NX : ((List (ByteArray × ByteArray × Unit)) × (List (ByteArray × ByteArray × Unit)) × (Int) × Unit) → Option R) (X2 : (Unit) → Option R) (X1 : ((Bool) × Unit) → Option R) (v0 : List (ByteArray × ByteArray × Unit)) (v1 : List (ByteArray × ByteArray × Unit)) (v5 : Int) : Option R :=
  bif decide (v5 < nI (List.length v0)) then
    bif decide (0 ≤ v5) then
      bif decide (v5 < nI (List.length v0)) then
        bif decide (0 ≤ v5) then
          bif decide (v5 < nI (List.length v1)) then
            Option.bind
              (Option.bind
                (m_laws_eqPair ((List.getD v0 (Int.toNat v5) (ByteArray.mk #[], ByteArray.mk #[], ())).fst, (List.getD v0 (Int.toNat v5) (ByteArray.mk #[], ByteArray.mk #[], ())).snd.fst, ())
                  ((List.getD v1 (Int.toNat v5) (ByteArray.mk #[], ByteArray.mk #[], ())).fst, (List.getD v1 (Int.toNat v5) (ByteArray.mk #[], ByteArray.mk #[], ())).snd.fst, ()))
                fun val => some ((val, ()), ()))
              fun val => bif !val.fst.fst then X1 (false, ()) else NX (v0, v1, IntKind.wrap IntKind.i64 (v5 + 1), ())
          else none
        else none
      else none
    else none
  else X2 PUnit.unit
noncomputable def lo_laws_eqPairS_5 : Nat → (List (ByteArray × ByteArray × Unit)) → (List (ByteArray × ByteArray × Unit)) → (Int) →  Option ((Unit) ⊕ ((Bool) × Unit))
  | 0, _, _, _ => none
  | m + 1, v0, v1, v5 => tr_laws_eqPairS_5  (fun d => lo_laws_eqPairS_5 m d.1 d.2.1 d.2.2.1) (fun d => some (.inl (d))) (fun d => some (.inr (d))) v0 v1 v5
theorem na_laws_eqPairS_5 {R S : Type}  (NX : ((List (ByteArray × ByteArray × Unit)) × (List (ByteArray × ByteArray × Unit)) × (Int) × Unit) → Option R) (X2 : (Unit) → Option R) (X1 : ((Bool) × Unit) → Option R) (v0 : List (ByteArray × ByteArray × Unit)) (v1 : List (ByteArray × ByteArray × Unit)) (v5 : Int) (f : R → Option S) : tr_laws_eqPairS_5  (fun d => (NX d).bind f) (fun d => (X2 d).bind f) (fun d => (X1 d).bind f) v0 v1 v5 = (tr_laws_eqPairS_5  NX X2 X1 v0 v1 v5).bind f := by
  unfold tr_laws_eqPairS_5
  simp only [cond_bind, ite_bind, onSum_bind, Option.bind_assoc, Option.bind_none, Option.bind_some]
noncomputable def de_laws_eqPairS (a0 : List (ByteArray × ByteArray × Unit)) (a1 : List (ByteArray × ByteArray × Unit)) : Option ((((Bool) × Unit) × (Unit))) :=
  bif nI (List.length a0) != nI (List.length a1) then some ((false, ()), ())
  else Option.bind ((fun d => lo_laws_eqPairS_5 (fu_laws_eqPairS_5 d.1 d.2.1 d.2.2.1) d.1 d.2.1 d.2.2.1) (a0, a1, 0, ())) fun val => onSum (fun val => some ((true, ()), ())) (fun val => some ((val.fst, ()), ())) val
theorem eq_laws_eqPairS (a0 : List (ByteArray × ByteArray × Unit)) (a1 : List (ByteArray × ByteArray × Unit)) r (h : m_laws_eqPairS a0 a1 = some r) : de_laws_eqPairS a0 a1 = some ((r, ()), (())) := by
  obtain ⟨hc, hd, rfl⟩ := eqM_some (t := .sl (.pair .str (.pair .str .unit))) h
  obtain ⟨hlx0, hx⟩ := fineB_sl hc
  obtain ⟨hly0, hy⟩ := fineB_sl hd
  have hlx : a0.length < 1152921504606846976 := hlx0
  have hly : a1.length < 1152921504606846976 := hly0
  clear hlx0 hly0 hc hd h
  · unfold de_laws_eqPairS
    by_cases hl : a1.length = a0.length
    · have c1 : (nI a0.length != nI a1.length) = false := by simp [nI, hl]
      have hL := eq_loop (xs := a0) (ys := a1) ((ByteArray.mk #[]), (ByteArray.mk #[]), ()) (fun x y : ByteArray × ByteArray × Unit => eqB (.pair .str (.pair .str .unit)) x y) (g := fun m i => lo_laws_eqPairS_5 m a0 a1 i) (ok := .inl ()) (bad := .inr (false, ())) hl (fun m i hi => by
        show lo_laws_eqPairS_5 (m + 1) a0 a1 i = _
        simp only [lo_laws_eqPairS_5, tr_laws_eqPairS_5]
        rw [cLt hi, cLe0, cLt (show i < a1.length by omega), wI (by omega)]
        simp only [cond_true, Int.toNat_natCast]
        have f1 : fineB (.pair .str (.pair .str .unit)) (List.getD (α := ByteArray × ByteArray × Unit) a0 i ((ByteArray.mk #[]), (ByteArray.mk #[]), ())) = true := hx _ (getD_mem ((ByteArray.mk #[]), (ByteArray.mk #[]), ()) hi)
        have f2 : fineB (.pair .str (.pair .str .unit)) (List.getD (α := ByteArray × ByteArray × Unit) a1 i ((ByteArray.mk #[]), (ByteArray.mk #[]), ())) = true := hy _ (getD_mem ((ByteArray.mk #[]), (ByteArray.mk #[]), ()) (by omega))
        have hE : m_laws_eqPair ((List.getD (α := ByteArray × ByteArray × Unit) a0 i ((ByteArray.mk #[]), (ByteArray.mk #[]), ())).fst, (List.getD (α := ByteArray × ByteArray × Unit) a0 i ((ByteArray.mk #[]), (ByteArray.mk #[]), ())).snd.fst, ()) ((List.getD (α := ByteArray × ByteArray × Unit) a1 i ((ByteArray.mk #[]), (ByteArray.mk #[]), ())).fst, (List.getD (α := ByteArray × ByteArray × Unit) a1 i ((ByteArray.mk #[]), (ByteArray.mk #[]), ())).snd.fst, ()) = some (eqB (.pair .str (.pair .str .unit)) (List.getD (α := ByteArray × ByteArray × Unit) a0 i ((ByteArray.mk #[]), (ByteArray.mk #[]), ())) (List.getD (α := ByteArray × ByteArray × Unit) a1 i ((ByteArray.mk #[]), (ByteArray.mk #[]), ()))) := by
          exact eqM_is (t := (.pair .str (.pair .str .unit))) (x := (List.getD (α := ByteArray × ByteArray × Unit) a0 i ((ByteArray.mk #[]), (ByteArray.mk #[]), ()))) (y := (List.getD (α := ByteArray × ByteArray × Unit) a1 i ((ByteArray.mk #[]), (ByteArray.mk #[]), ()))) f1 f2
        rw [hE]
        cases q : eqB (.pair .str (.pair .str .unit)) (List.getD (α := ByteArray × ByteArray × Unit) a0 i ((ByteArray.mk #[]), (ByteArray.mk #[]), ())) (List.getD (α := ByteArray × ByteArray × Unit) a1 i ((ByteArray.mk #[]), (ByteArray.mk #[]), ())) <;> simp only [Option.bind_some, q] <;> rfl) (fun m => by
        show lo_laws_eqPairS_5 (m + 1) a0 a1 a0.length = _
        simp only [lo_laws_eqPairS_5, tr_laws_eqPairS_5]
        rw [cLtF]
        rfl) (fu_laws_eqPairS_5 a0 a1 0) 0 (by omega) (by simp [fu_laws_eqPairS_5])
      rw [c1]
      have hL' : lo_laws_eqPairS_5 (fu_laws_eqPairS_5 a0 a1 0) a0 a1 0 = _ := hL
      show (lo_laws_eqPairS_5 (fu_laws_eqPairS_5 a0 a1 0) a0 a1 0).bind _ = some ((eqL (α := ByteArray × ByteArray × Unit) (fun x y : ByteArray × ByteArray × Unit => eqB (.pair .str (.pair .str .unit)) x y) a0 a1, ()), ())
      rw [hL', List.drop_zero, List.drop_zero]
      cases eqL (α := ByteArray × ByteArray × Unit) (fun x y : ByteArray × ByteArray × Unit => eqB (.pair .str (.pair .str .unit)) x y) a0 a1 <;> rfl
    · have c1 : (nI a0.length != nI a1.length) = true := by simp [nI]; omega
      rw [c1]
      show _ = some ((eqL (α := ByteArray × ByteArray × Unit) (fun x y : ByteArray × ByteArray × Unit => eqB (.pair .str (.pair .str .unit)) x y) a0 a1, ()), ())
      rw [eqL_len (fun q => hl q.symm)]
      rfl
noncomputable def ou_laws_eqPairS_5 {R : Type} (k : Kt R) : ((Unit) ⊕ ((Bool) × Unit)) → Option R := (onSum (fun d => k (.exit 0) (((pa_laws_eqPairS 5).2 2).st d) (((pa_laws_eqPairS 5).2 2).nid)) (fun d => k .ret (((pa_laws_eqPairS 5).2 1).st d) (((pa_laws_eqPairS 5).2 1).nid)))
noncomputable def L_laws_eqPairS {R : Type} : Lt R pa_laws_eqPairS := (addL (pat := pa_laws_eqPairS) 5 (fun d k => (lo_laws_eqPairS_5 (fu_laws_eqPairS_5 d.1 d.2.1 d.2.2.1) d.1 d.2.1 d.2.2.1).bind (ou_laws_eqPairS_5 k)) noL)
theorem rd_laws_eqPairS_5 {R : Type} (nx : (pa_laws_eqPairS 5).1.D → Kt R → Option R) (k : Kt R) (v0 : List (ByteArray × ByteArray × Unit)) (v1 : List (ByteArray × ByteArray × Unit)) (v5 : Int) : ev Try.prog ⟨ta_laws_eqPairS, 0, 27, pa_laws_eqPairS⟩ L_laws_eqPairS co_laws_eqPairS_5 ((pa_laws_eqPairS 5).1.st (v0, v1, v5, ())) (pa_laws_eqPairS 5).1.nid (roundK 0 (pa_laws_eqPairS 5) nx k) = tr_laws_eqPairS_5  (fun d => nx d k) (fun d => k (.exit 0) (((pa_laws_eqPairS 5).2 2).st d) (((pa_laws_eqPairS 5).2 2).nid)) (fun d => k .ret (((pa_laws_eqPairS 5).2 1).st d) (((pa_laws_eqPairS 5).2 1).nid)) v0 v1 v5 := by kernel_rfl
theorem lp_laws_eqPairS_5 {R : Type} : ∀ (m : Nat) (d : (pa_laws_eqPairS 5).1.D) (k : Kt R), loopN 0 (pa_laws_eqPairS 5) (fun s nid k => ev Try.prog ⟨ta_laws_eqPairS, 0, 27, pa_laws_eqPairS⟩ L_laws_eqPairS co_laws_eqPairS_5 s nid k) m d k = (lo_laws_eqPairS_5 m d.1 d.2.1 d.2.2.1).bind (ou_laws_eqPairS_5 k)
  | 0, _, _ => rfl
  | m + 1, ⟨v0, v1, v5, ⟨⟩⟩, k => (rd_laws_eqPairS_5 _ k v0 v1 v5).trans ((congrArg (fun F => tr_laws_eqPairS_5  F (fun d => k (.exit 0) (((pa_laws_eqPairS 5).2 2).st d) (((pa_laws_eqPairS 5).2 2).nid)) (fun d => k .ret (((pa_laws_eqPairS 5).2 1).st d) (((pa_laws_eqPairS 5).2 1).nid)) v0 v1 v5) (funext fun d => lp_laws_eqPairS_5 m d k)).trans (na_laws_eqPairS_5 (f := ou_laws_eqPairS_5 k)  (fun d => lo_laws_eqPairS_5 m d.1 d.2.1 d.2.2.1) (fun d => some (.inl (d))) (fun d => some (.inr (d))) v0 v1 v5))
theorem en_laws_eqPairS (a0 : List (ByteArray × ByteArray × Unit)) (a1 : List (ByteArray × ByteArray × Unit)) : evalF Try.prog ta_laws_eqPairS pa_laws_eqPairS sg_laws_eqPairS Try.f128 L_laws_eqPairS (a0, a1, ()) = de_laws_eqPairS a0 a1 := by kernel_rfl
theorem si_laws_eqPairS : SigsOk Try.prog ta_laws_eqPairS := SigsOk.of fun f sd h => by
  try dsimp only [Tb.of, ta_laws_eqPairS] at h
  split at h
  · rename_i e; subst e; cases h; exact sn_laws_eqPair
  cases h
theorem lk_laws_eqPairS_5 {R : Type} : LoopOk Try.prog R 27 0 pa_laws_eqPairS L_laws_eqPairS co_laws_eqPairS_5 :=
  loop_key (cfg := ⟨ta_laws_eqPairS, 0, 27, pa_laws_eqPairS⟩) (key := 5) (by kernel_rfl) (by kernel_rfl) si_laws_eqPairS rfl rfl (fun d k r h => ⟨fu_laws_eqPairS_5 d.1 d.2.1 d.2.2.1, (lp_laws_eqPairS_5 _ d k).trans h⟩) (fun c hc => by rw [show loopsIn co_laws_eqPairS_5 = [] from by kernel_rfl] at hc; cases hc)
theorem sn_laws_eqPairS : Callable Try.prog 128 ∧ Sound Try.prog 128 sd_laws_eqPairS.sg sd_laws_eqPairS.den :=
  fn_loops (pat := pa_laws_eqPairS) L_laws_eqPairS (by kernel_rfl) si_laws_eqPairS Try.func128 (by kernel_rfl) (by kernel_rfl) (fun c hc => by rw [show loopsIn (bodyOf Try.f128) = [co_laws_eqPairS_5] from by kernel_rfl] at hc; simp only [List.mem_cons, List.not_mem_nil, or_false] at hc; rcases hc with rfl <;> first | exact lk_laws_eqPairS_5) fun x r h => by
    obtain ⟨a0, a1, ⟨⟩⟩ := x; obtain ⟨y, h1, h2⟩ := Option.bind_eq_some_iff.1 (show (m_laws_eqPairS a0 a1).bind (fun r => some ((r, ()), (()))) = some r from h); cases h2; exact (en_laws_eqPairS a0 a1).trans (eq_laws_eqPairS a0 a1 _ h1)
def m_laws_eqState (a b : (List (ByteArray × ByteArray × Unit)) × Unit) : Option Bool := eqM (.pair (.sl (.pair .str (.pair .str .unit))) .unit) a b
def sg_laws_eqState : Sig := ⟨[.rd (.pair (.sl (.pair .str (.pair .str .unit))) .unit), .rd (.pair (.sl (.pair .str (.pair .str .unit))) .unit)], [some 1, some 1], [.rd .bool], [none]⟩
noncomputable def sd_laws_eqState : SD := ⟨sg_laws_eqState, fun x => (m_laws_eqState x.1 x.2.1).bind fun r => some ((r, ()), (()))⟩
noncomputable def ta_laws_eqState : Tb := Tb.of fun f => if f = 128 then some sd_laws_eqPairS else none
def pa_laws_eqState : Nat → Pat × (Nat → Pat) := fun k => (⟨[], [], []⟩, fun _ => ⟨[], [], []⟩)
noncomputable def de_laws_eqState (a0 : (List (ByteArray × ByteArray × Unit)) × Unit) (a1 : (List (ByteArray × ByteArray × Unit)) × Unit) : Option ((((Bool) × Unit) × (Unit))) :=
  Option.bind (Option.bind (m_laws_eqPairS a0.fst a1.fst) fun val => some ((val, ()), ())) fun val => bif !val.fst.fst then some ((false, ()), ()) else some ((true, ()), ())
theorem eq_laws_eqState (a0 : (List (ByteArray × ByteArray × Unit)) × Unit) (a1 : (List (ByteArray × ByteArray × Unit)) × Unit) r (h : m_laws_eqState a0 a1 = some r) : de_laws_eqState a0 a1 = some ((r, ()), (())) := by
  obtain ⟨hc, hd, rfl⟩ := eqM_some (t := (.pair (.sl (.pair .str (.pair .str .unit))) .unit)) h
  obtain ⟨hc0, _⟩ : fineB (.sl (.pair .str (.pair .str .unit))) a0.1 = true ∧ True := by
    have s := hc
    obtain ⟨h0, s⟩ := fineB_pair s
    exact ⟨h0, trivial⟩
  obtain ⟨hd0, _⟩ : fineB (.sl (.pair .str (.pair .str .unit))) a1.1 = true ∧ True := by
    have s := hd
    obtain ⟨h0, s⟩ := fineB_pair s
    exact ⟨h0, trivial⟩
  unfold de_laws_eqState
  have e0 : m_laws_eqPairS a0.1 a1.1 = some (eqB (.sl (.pair .str (.pair .str .unit))) a0.1 a1.1) := eqM_is (t := (.sl (.pair .str (.pair .str .unit)))) hc0 hd0
  simp only [e0, Option.bind_some]
  show _ = some (((eqB (.sl (.pair .str (.pair .str .unit))) a0.1 a1.1 && true), ()), ())
  generalize eqB (.sl (.pair .str (.pair .str .unit))) a0.1 a1.1 = p0
  cases p0 <;> rfl
theorem en_laws_eqState (a0 : (List (ByteArray × ByteArray × Unit)) × Unit) (a1 : (List (ByteArray × ByteArray × Unit)) × Unit) : evalF Try.prog ta_laws_eqState pa_laws_eqState sg_laws_eqState Try.f56 noL (a0, a1, ()) = de_laws_eqState a0 a1 := by kernel_rfl
theorem si_laws_eqState : SigsOk Try.prog ta_laws_eqState := SigsOk.of fun f sd h => by
  try dsimp only [Tb.of, ta_laws_eqState] at h
  split at h
  · rename_i e; subst e; cases h; exact sn_laws_eqPairS
  cases h
theorem sn_laws_eqState : Callable Try.prog 56 ∧ Sound Try.prog 56 sd_laws_eqState.sg sd_laws_eqState.den :=
  fn_plain (pat := pa_laws_eqState) (by kernel_rfl) si_laws_eqState Try.func56 (by kernel_rfl) (by kernel_rfl) (by kernel_rfl) fun x r h => by
    obtain ⟨a0, a1, ⟨⟩⟩ := x; obtain ⟨y, h1, h2⟩ := Option.bind_eq_some_iff.1 (show (m_laws_eqState a0 a1).bind (fun r => some ((r, ()), (()))) = some r from h); cases h2; exact (en_laws_eqState a0 a1).trans (eq_laws_eqState a0 a1 _ h1)
def m_laws_eqStore (a b : Int × Int × Int × (Int × Int × Int × Int × Unit) × Int × Int × ((List (ByteArray × ByteArray × Unit)) × Unit) × Unit) : Option Bool := eqM (.pair (.int .i64) (.pair (.int .i64) (.pair (.int .i64) (.pair (.pair (.int .i64) (.pair (.int .i64) (.pair (.int .i64) (.pair (.int .i64) .unit)))) (.pair (.int .i64) (.pair (.int .i64) (.pair (.pair (.sl (.pair .str (.pair .str .unit))) .unit) .unit))))))) a b
def sg_laws_eqStore : Sig := ⟨[.rd (.pair (.int .i64) (.pair (.int .i64) (.pair (.int .i64) (.pair (.pair (.int .i64) (.pair (.int .i64) (.pair (.int .i64) (.pair (.int .i64) .unit)))) (.pair (.int .i64) (.pair (.int .i64) (.pair (.pair (.sl (.pair .str (.pair .str .unit))) .unit) .unit))))))), .rd (.pair (.int .i64) (.pair (.int .i64) (.pair (.int .i64) (.pair (.pair (.int .i64) (.pair (.int .i64) (.pair (.int .i64) (.pair (.int .i64) .unit)))) (.pair (.int .i64) (.pair (.int .i64) (.pair (.pair (.sl (.pair .str (.pair .str .unit))) .unit) .unit)))))))], [some 10, some 10], [.rd .bool], [none]⟩
noncomputable def sd_laws_eqStore : SD := ⟨sg_laws_eqStore, fun x => (m_laws_eqStore x.1 x.2.1).bind fun r => some ((r, ()), (()))⟩
noncomputable def ta_laws_eqStore : Tb := Tb.of fun f => if f = 55 then some sd_laws_eqRoot else if f = 56 then some sd_laws_eqState else none
def pa_laws_eqStore : Nat → Pat × (Nat → Pat) := fun k => (⟨[], [], []⟩, fun _ => ⟨[], [], []⟩)
noncomputable def de_laws_eqStore (a0 : Int × Int × Int × (Int × Int × Int × Int × Unit) × Int × Int × ((List (ByteArray × ByteArray × Unit)) × Unit) × Unit) (a1 : Int × Int × Int × (Int × Int × Int × Int × Unit) × Int × Int × ((List (ByteArray × ByteArray × Unit)) × Unit) × Unit) : Option ((((Bool) × Unit) × (Unit))) :=
  bif a0.fst != a1.fst then some ((false, ()), ())
  else
    bif a0.snd.fst != a1.snd.fst then some ((false, ()), ())
    else
      bif a0.snd.snd.fst != a1.snd.snd.fst then some ((false, ()), ())
      else
        bif
            !(decide (a0.snd.snd.snd.fst.fst = a1.snd.snd.snd.fst.fst) &&
                (decide (a0.snd.snd.snd.fst.snd.fst = a1.snd.snd.snd.fst.snd.fst) &&
                  (decide (a0.snd.snd.snd.fst.snd.snd.fst = a1.snd.snd.snd.fst.snd.snd.fst) && (decide (a0.snd.snd.snd.fst.snd.snd.snd.fst = a1.snd.snd.snd.fst.snd.snd.snd.fst) && true)))) then
          some ((false, ()), ())
        else
          bif a0.snd.snd.snd.snd.fst != a1.snd.snd.snd.snd.fst then some ((false, ()), ())
          else
            bif a0.snd.snd.snd.snd.snd.fst != a1.snd.snd.snd.snd.snd.fst then some ((false, ()), ())
            else
              Option.bind (Option.bind (m_laws_eqState (a0.snd.snd.snd.snd.snd.snd.fst.fst, ()) (a1.snd.snd.snd.snd.snd.snd.fst.fst, ())) fun val => some ((val, ()), ())) fun val =>
                bif !val.fst.fst then some ((false, ()), ()) else some ((true, ()), ())
theorem eq_laws_eqStore (a0 : Int × Int × Int × (Int × Int × Int × Int × Unit) × Int × Int × ((List (ByteArray × ByteArray × Unit)) × Unit) × Unit) (a1 : Int × Int × Int × (Int × Int × Int × Int × Unit) × Int × Int × ((List (ByteArray × ByteArray × Unit)) × Unit) × Unit) r (h : m_laws_eqStore a0 a1 = some r) : de_laws_eqStore a0 a1 = some ((r, ()), (())) := by
  obtain ⟨hc, hd, rfl⟩ := eqM_some (t := (.pair (.int .i64) (.pair (.int .i64) (.pair (.int .i64) (.pair (.pair (.int .i64) (.pair (.int .i64) (.pair (.int .i64) (.pair (.int .i64) .unit)))) (.pair (.int .i64) (.pair (.int .i64) (.pair (.pair (.sl (.pair .str (.pair .str .unit))) .unit) .unit)))))))) h
  obtain ⟨hc0, hc1, hc2, hc3, hc4, hc5, hc6, _⟩ : fineB (.int .i64) a0.1 = true ∧ fineB (.int .i64) a0.2.1 = true ∧ fineB (.int .i64) a0.2.2.1 = true ∧ fineB (.pair (.int .i64) (.pair (.int .i64) (.pair (.int .i64) (.pair (.int .i64) .unit)))) a0.2.2.2.1 = true ∧ fineB (.int .i64) a0.2.2.2.2.1 = true ∧ fineB (.int .i64) a0.2.2.2.2.2.1 = true ∧ fineB (.pair (.sl (.pair .str (.pair .str .unit))) .unit) a0.2.2.2.2.2.2.1 = true ∧ True := by
    have s := hc
    obtain ⟨h0, s⟩ := fineB_pair s
    obtain ⟨h1, s⟩ := fineB_pair s
    obtain ⟨h2, s⟩ := fineB_pair s
    obtain ⟨h3, s⟩ := fineB_pair s
    obtain ⟨h4, s⟩ := fineB_pair s
    obtain ⟨h5, s⟩ := fineB_pair s
    obtain ⟨h6, s⟩ := fineB_pair s
    exact ⟨h0, h1, h2, h3, h4, h5, h6, trivial⟩
  obtain ⟨hd0, hd1, hd2, hd3, hd4, hd5, hd6, _⟩ : fineB (.int .i64) a1.1 = true ∧ fineB (.int .i64) a1.2.1 = true ∧ fineB (.int .i64) a1.2.2.1 = true ∧ fineB (.pair (.int .i64) (.pair (.int .i64) (.pair (.int .i64) (.pair (.int .i64) .unit)))) a1.2.2.2.1 = true ∧ fineB (.int .i64) a1.2.2.2.2.1 = true ∧ fineB (.int .i64) a1.2.2.2.2.2.1 = true ∧ fineB (.pair (.sl (.pair .str (.pair .str .unit))) .unit) a1.2.2.2.2.2.2.1 = true ∧ True := by
    have s := hd
    obtain ⟨h0, s⟩ := fineB_pair s
    obtain ⟨h1, s⟩ := fineB_pair s
    obtain ⟨h2, s⟩ := fineB_pair s
    obtain ⟨h3, s⟩ := fineB_pair s
    obtain ⟨h4, s⟩ := fineB_pair s
    obtain ⟨h5, s⟩ := fineB_pair s
    obtain ⟨h6, s⟩ := fineB_pair s
    exact ⟨h0, h1, h2, h3, h4, h5, h6, trivial⟩
  unfold de_laws_eqStore
  have e0 : (a0.1 != a1.1) = !eqI a0.1 a1.1 := bneI _ _
  have e1 : (a0.2.1 != a1.2.1) = !eqI a0.2.1 a1.2.1 := bneI _ _
  have e2 : (a0.2.2.1 != a1.2.2.1) = !eqI a0.2.2.1 a1.2.2.1 := bneI _ _
  have e4 : (a0.2.2.2.2.1 != a1.2.2.2.2.1) = !eqI a0.2.2.2.2.1 a1.2.2.2.2.1 := bneI _ _
  have e5 : (a0.2.2.2.2.2.1 != a1.2.2.2.2.2.1) = !eqI a0.2.2.2.2.2.1 a1.2.2.2.2.2.1 := bneI _ _
  have e6 : m_laws_eqState a0.2.2.2.2.2.2.1 a1.2.2.2.2.2.2.1 = some (eqB (.pair (.sl (.pair .str (.pair .str .unit))) .unit) a0.2.2.2.2.2.2.1 a1.2.2.2.2.2.2.1) := eqM_is (t := (.pair (.sl (.pair .str (.pair .str .unit))) .unit)) hc6 hd6
  have e6 : m_laws_eqState (a0.2.2.2.2.2.2.1.fst, ()) (a1.2.2.2.2.2.2.1.fst, ()) = some (eqB (.pair (.sl (.pair .str (.pair .str .unit))) .unit) a0.2.2.2.2.2.2.1 a1.2.2.2.2.2.2.1) := e6
  simp only [e0, e1, e2, e4, e5, e6, Option.bind_some]
  show _ = some (((eqI a0.1 a1.1 && (eqI a0.2.1 a1.2.1 && (eqI a0.2.2.1 a1.2.2.1 && ((decide (a0.2.2.2.1.1 = a1.2.2.2.1.1) && (decide (a0.2.2.2.1.2.1 = a1.2.2.2.1.2.1) && (decide (a0.2.2.2.1.2.2.1 = a1.2.2.2.1.2.2.1) && (decide (a0.2.2.2.1.2.2.2.1 = a1.2.2.2.1.2.2.2.1) && true)))) && (eqI a0.2.2.2.2.1 a1.2.2.2.2.1 && (eqI a0.2.2.2.2.2.1 a1.2.2.2.2.2.1 && (eqB (.pair (.sl (.pair .str (.pair .str .unit))) .unit) a0.2.2.2.2.2.2.1 a1.2.2.2.2.2.2.1 && true))))))), ()), ())
  generalize eqI a0.1 a1.1 = p0
  generalize eqI a0.2.1 a1.2.1 = p1
  generalize eqI a0.2.2.1 a1.2.2.1 = p2
  generalize (decide (a0.2.2.2.1.1 = a1.2.2.2.1.1) && (decide (a0.2.2.2.1.2.1 = a1.2.2.2.1.2.1) && (decide (a0.2.2.2.1.2.2.1 = a1.2.2.2.1.2.2.1) && (decide (a0.2.2.2.1.2.2.2.1 = a1.2.2.2.1.2.2.2.1) && true)))) = p3
  generalize eqI a0.2.2.2.2.1 a1.2.2.2.2.1 = p4
  generalize eqI a0.2.2.2.2.2.1 a1.2.2.2.2.2.1 = p5
  generalize eqB (.pair (.sl (.pair .str (.pair .str .unit))) .unit) a0.2.2.2.2.2.2.1 a1.2.2.2.2.2.2.1 = p6
  cases p0 <;> cases p1 <;> cases p2 <;> cases p3 <;> cases p4 <;> cases p5 <;> cases p6 <;> rfl
theorem en_laws_eqStore (a0 : Int × Int × Int × (Int × Int × Int × Int × Unit) × Int × Int × ((List (ByteArray × ByteArray × Unit)) × Unit) × Unit) (a1 : Int × Int × Int × (Int × Int × Int × Int × Unit) × Int × Int × ((List (ByteArray × ByteArray × Unit)) × Unit) × Unit) : evalF Try.prog ta_laws_eqStore pa_laws_eqStore sg_laws_eqStore Try.f13 noL (a0, a1, ()) = de_laws_eqStore a0 a1 := by kernel_rfl
theorem si_laws_eqStore : SigsOk Try.prog ta_laws_eqStore := SigsOk.of fun f sd h => by
  try dsimp only [Tb.of, ta_laws_eqStore] at h
  split at h
  · rename_i e; subst e; cases h; exact sn_laws_eqRoot
  split at h
  · rename_i e; subst e; cases h; exact sn_laws_eqState
  cases h
theorem sn_laws_eqStore : Callable Try.prog 13 ∧ Sound Try.prog 13 sd_laws_eqStore.sg sd_laws_eqStore.den :=
  fn_plain (pat := pa_laws_eqStore) (by kernel_rfl) si_laws_eqStore Try.func13 (by kernel_rfl) (by kernel_rfl) (by kernel_rfl) fun x r h => by
    obtain ⟨a0, a1, ⟨⟩⟩ := x; obtain ⟨y, h1, h2⟩ := Option.bind_eq_some_iff.1 (show (m_laws_eqStore a0 a1).bind (fun r => some ((r, ()), (()))) = some r from h); cases h2; exact (en_laws_eqStore a0 a1).trans (eq_laws_eqStore a0 a1 _ h1)
def m_laws_eqOp (a b : Bool × Int × ByteArray × Unit) : Option Bool := eqM (.pair .bool (.pair (.int .i64) (.pair .str .unit))) a b
def sg_laws_eqOp : Sig := ⟨[.rd (.pair .bool (.pair (.int .i64) (.pair .str .unit))), .rd (.pair .bool (.pair (.int .i64) (.pair .str .unit)))], [some 3, some 3], [.rd .bool], [none]⟩
noncomputable def sd_laws_eqOp : SD := ⟨sg_laws_eqOp, fun x => (m_laws_eqOp x.1 x.2.1).bind fun r => some ((r, ()), (()))⟩
noncomputable def ta_laws_eqOp : Tb := Tb.of fun f => none
def pa_laws_eqOp : Nat → Pat × (Nat → Pat) := fun k => (⟨[], [], []⟩, fun _ => ⟨[], [], []⟩)
noncomputable def de_laws_eqOp (a0 : Bool × Int × ByteArray × Unit) (a1 : Bool × Int × ByteArray × Unit) : Option ((((Bool) × Unit) × (Unit))) :=
  bif !a0.fst == a1.fst then some ((false, ()), ())
  else bif a0.snd.fst != a1.snd.fst then some ((false, ()), ()) else bif !ByteArray.toList a0.snd.snd.fst == ByteArray.toList a1.snd.snd.fst then some ((false, ()), ()) else some ((true, ()), ())
theorem eq_laws_eqOp (a0 : Bool × Int × ByteArray × Unit) (a1 : Bool × Int × ByteArray × Unit) r (h : m_laws_eqOp a0 a1 = some r) : de_laws_eqOp a0 a1 = some ((r, ()), (())) := by
  obtain ⟨hc, hd, rfl⟩ := eqM_some (t := (.pair .bool (.pair (.int .i64) (.pair .str .unit)))) h
  obtain ⟨hc0, hc1, hc2, _⟩ : fineB .bool a0.1 = true ∧ fineB (.int .i64) a0.2.1 = true ∧ fineB .str a0.2.2.1 = true ∧ True := by
    have s := hc
    obtain ⟨h0, s⟩ := fineB_pair s
    obtain ⟨h1, s⟩ := fineB_pair s
    obtain ⟨h2, s⟩ := fineB_pair s
    exact ⟨h0, h1, h2, trivial⟩
  obtain ⟨hd0, hd1, hd2, _⟩ : fineB .bool a1.1 = true ∧ fineB (.int .i64) a1.2.1 = true ∧ fineB .str a1.2.2.1 = true ∧ True := by
    have s := hd
    obtain ⟨h0, s⟩ := fineB_pair s
    obtain ⟨h1, s⟩ := fineB_pair s
    obtain ⟨h2, s⟩ := fineB_pair s
    exact ⟨h0, h1, h2, trivial⟩
  unfold de_laws_eqOp
  have e0 : (!(a0.1 == a1.1)) = !eqO a0.1 a1.1 := rfl
  have e1 : (a0.2.1 != a1.2.1) = !eqI a0.2.1 a1.2.1 := bneI _ _
  have e2 : (!(ByteArray.toList a0.2.2.1 == ByteArray.toList a1.2.2.1)) = !eqS a0.2.2.1 a1.2.2.1 := rfl
  simp only [e0, e1, e2, Option.bind_some]
  show _ = some (((eqO a0.1 a1.1 && (eqI a0.2.1 a1.2.1 && (eqS a0.2.2.1 a1.2.2.1 && true))), ()), ())
  generalize eqO a0.1 a1.1 = p0
  generalize eqI a0.2.1 a1.2.1 = p1
  generalize eqS a0.2.2.1 a1.2.2.1 = p2
  cases p0 <;> cases p1 <;> cases p2 <;> rfl
theorem en_laws_eqOp (a0 : Bool × Int × ByteArray × Unit) (a1 : Bool × Int × ByteArray × Unit) : evalF Try.prog ta_laws_eqOp pa_laws_eqOp sg_laws_eqOp Try.f127 noL (a0, a1, ()) = de_laws_eqOp a0 a1 := by kernel_rfl
theorem si_laws_eqOp : SigsOk Try.prog ta_laws_eqOp := SigsOk.of fun f sd h => by
  try dsimp only [Tb.of, ta_laws_eqOp] at h
  cases h
theorem sn_laws_eqOp : Callable Try.prog 127 ∧ Sound Try.prog 127 sd_laws_eqOp.sg sd_laws_eqOp.den :=
  fn_plain (pat := pa_laws_eqOp) (by kernel_rfl) si_laws_eqOp Try.func127 (by kernel_rfl) (by kernel_rfl) (by kernel_rfl) fun x r h => by
    obtain ⟨a0, a1, ⟨⟩⟩ := x; obtain ⟨y, h1, h2⟩ := Option.bind_eq_some_iff.1 (show (m_laws_eqOp a0 a1).bind (fun r => some ((r, ()), (()))) = some r from h); cases h2; exact (en_laws_eqOp a0 a1).trans (eq_laws_eqOp a0 a1 _ h1)
def m_laws_eqOpS (a b : List (Bool × Int × ByteArray × Unit)) : Option Bool := eqM (.sl (.pair .bool (.pair (.int .i64) (.pair .str .unit)))) a b
def sg_laws_eqOpS : Sig := ⟨[.rd (.sl (.pair .bool (.pair (.int .i64) (.pair .str .unit)))), .rd (.sl (.pair .bool (.pair (.int .i64) (.pair .str .unit))))], [none, none], [.rd .bool], [none]⟩
noncomputable def sd_laws_eqOpS : SD := ⟨sg_laws_eqOpS, fun x => (m_laws_eqOpS x.1 x.2.1).bind fun r => some ((r, ()), (()))⟩
noncomputable def ta_laws_eqOpS : Tb := Tb.of fun f => if f = 127 then some sd_laws_eqOp else none
def pa_laws_eqOpS : Nat → Pat × (Nat → Pat) := fun k => if k = 5 then (⟨[.sl 0 0 (.pair .bool (.pair (.int .i64) (.pair .str .unit))), .sl 1 0 (.pair .bool (.pair (.int .i64) (.pair .str .unit)))], [(0, .lf (.d (.sl (.pair .bool (.pair (.int .i64) (.pair .str .unit)))))), (1, .lf (.d (.sl (.pair .bool (.pair (.int .i64) (.pair .str .unit)))))), (5, .lf (.d (.int .i64)))], []⟩, fun e => if e = 1 then ⟨[], [(4, .lf (.d .bool))], []⟩ else if e = 2 then ⟨[], [], []⟩ else ⟨[], [], []⟩) else (⟨[], [], []⟩, fun _ => ⟨[], [], []⟩)
noncomputable def co_laws_eqOpS_5 : Code := (loopsIn (bodyOf Try.f54)).getD 0 .skip
def fu_laws_eqOpS_5 (v0 : List (Bool × Int × ByteArray × Unit)) (v1 : List (Bool × Int × ByteArray × Unit)) (v5 : Int) : Nat := ((v0.length : Int) - v5).toNat + 1
noncomputable def tr_laws_eqOpS_5 {R : Type}  (NX : ((List (Bool × Int × ByteArray × Unit)) × (List (Bool × Int × ByteArray × Unit)) × (Int) × Unit) → Option R) (X2 : (Unit) → Option R) (X1 : ((Bool) × Unit) → Option R) (v0 : List (Bool × Int × ByteArray × Unit)) (v1 : List (Bool × Int × ByteArray × Unit)) (v5 : Int) : Option R :=
  bif decide (v5 < nI (List.length v0)) then
    bif decide (0 ≤ v5) then
      bif decide (v5 < nI (List.length v0)) then
        bif decide (0 ≤ v5) then
          bif decide (v5 < nI (List.length v1)) then
            Option.bind
              (Option.bind
                (m_laws_eqOp
                  ((List.getD v0 (Int.toNat v5) (false, 0, ByteArray.mk #[], ())).fst, (List.getD v0 (Int.toNat v5) (false, 0, ByteArray.mk #[], ())).snd.fst,
                    (List.getD v0 (Int.toNat v5) (false, 0, ByteArray.mk #[], ())).snd.snd.fst, ())
                  ((List.getD v1 (Int.toNat v5) (false, 0, ByteArray.mk #[], ())).fst, (List.getD v1 (Int.toNat v5) (false, 0, ByteArray.mk #[], ())).snd.fst,
                    (List.getD v1 (Int.toNat v5) (false, 0, ByteArray.mk #[], ())).snd.snd.fst, ()))
                fun val => some ((val, ()), ()))
              fun val => bif !val.fst.fst then X1 (false, ()) else NX (v0, v1, IntKind.wrap IntKind.i64 (v5 + 1), ())
          else none
        else none
      else none
    else none
  else X2 PUnit.unit
noncomputable def lo_laws_eqOpS_5 : Nat → (List (Bool × Int × ByteArray × Unit)) → (List (Bool × Int × ByteArray × Unit)) → (Int) →  Option ((Unit) ⊕ ((Bool) × Unit))
  | 0, _, _, _ => none
  | m + 1, v0, v1, v5 => tr_laws_eqOpS_5  (fun d => lo_laws_eqOpS_5 m d.1 d.2.1 d.2.2.1) (fun d => some (.inl (d))) (fun d => some (.inr (d))) v0 v1 v5
theorem na_laws_eqOpS_5 {R S : Type}  (NX : ((List (Bool × Int × ByteArray × Unit)) × (List (Bool × Int × ByteArray × Unit)) × (Int) × Unit) → Option R) (X2 : (Unit) → Option R) (X1 : ((Bool) × Unit) → Option R) (v0 : List (Bool × Int × ByteArray × Unit)) (v1 : List (Bool × Int × ByteArray × Unit)) (v5 : Int) (f : R → Option S) : tr_laws_eqOpS_5  (fun d => (NX d).bind f) (fun d => (X2 d).bind f) (fun d => (X1 d).bind f) v0 v1 v5 = (tr_laws_eqOpS_5  NX X2 X1 v0 v1 v5).bind f := by
  unfold tr_laws_eqOpS_5
  simp only [cond_bind, ite_bind, onSum_bind, Option.bind_assoc, Option.bind_none, Option.bind_some]
noncomputable def de_laws_eqOpS (a0 : List (Bool × Int × ByteArray × Unit)) (a1 : List (Bool × Int × ByteArray × Unit)) : Option ((((Bool) × Unit) × (Unit))) :=
  bif nI (List.length a0) != nI (List.length a1) then some ((false, ()), ())
  else Option.bind ((fun d => lo_laws_eqOpS_5 (fu_laws_eqOpS_5 d.1 d.2.1 d.2.2.1) d.1 d.2.1 d.2.2.1) (a0, a1, 0, ())) fun val => onSum (fun val => some ((true, ()), ())) (fun val => some ((val.fst, ()), ())) val
theorem eq_laws_eqOpS (a0 : List (Bool × Int × ByteArray × Unit)) (a1 : List (Bool × Int × ByteArray × Unit)) r (h : m_laws_eqOpS a0 a1 = some r) : de_laws_eqOpS a0 a1 = some ((r, ()), (())) := by
  obtain ⟨hc, hd, rfl⟩ := eqM_some (t := .sl (.pair .bool (.pair (.int .i64) (.pair .str .unit)))) h
  obtain ⟨hlx0, hx⟩ := fineB_sl hc
  obtain ⟨hly0, hy⟩ := fineB_sl hd
  have hlx : a0.length < 1152921504606846976 := hlx0
  have hly : a1.length < 1152921504606846976 := hly0
  clear hlx0 hly0 hc hd h
  · unfold de_laws_eqOpS
    by_cases hl : a1.length = a0.length
    · have c1 : (nI a0.length != nI a1.length) = false := by simp [nI, hl]
      have hL := eq_loop (xs := a0) (ys := a1) (false, 0, (ByteArray.mk #[]), ()) (fun x y : Bool × Int × ByteArray × Unit => eqB (.pair .bool (.pair (.int .i64) (.pair .str .unit))) x y) (g := fun m i => lo_laws_eqOpS_5 m a0 a1 i) (ok := .inl ()) (bad := .inr (false, ())) hl (fun m i hi => by
        show lo_laws_eqOpS_5 (m + 1) a0 a1 i = _
        simp only [lo_laws_eqOpS_5, tr_laws_eqOpS_5]
        rw [cLt hi, cLe0, cLt (show i < a1.length by omega), wI (by omega)]
        simp only [cond_true, Int.toNat_natCast]
        have f1 : fineB (.pair .bool (.pair (.int .i64) (.pair .str .unit))) (List.getD (α := Bool × Int × ByteArray × Unit) a0 i (false, 0, (ByteArray.mk #[]), ())) = true := hx _ (getD_mem (false, 0, (ByteArray.mk #[]), ()) hi)
        have f2 : fineB (.pair .bool (.pair (.int .i64) (.pair .str .unit))) (List.getD (α := Bool × Int × ByteArray × Unit) a1 i (false, 0, (ByteArray.mk #[]), ())) = true := hy _ (getD_mem (false, 0, (ByteArray.mk #[]), ()) (by omega))
        have hE : m_laws_eqOp ((List.getD (α := Bool × Int × ByteArray × Unit) a0 i (false, 0, (ByteArray.mk #[]), ())).fst, (List.getD (α := Bool × Int × ByteArray × Unit) a0 i (false, 0, (ByteArray.mk #[]), ())).snd.fst, (List.getD (α := Bool × Int × ByteArray × Unit) a0 i (false, 0, (ByteArray.mk #[]), ())).snd.snd.fst, ()) ((List.getD (α := Bool × Int × ByteArray × Unit) a1 i (false, 0, (ByteArray.mk #[]), ())).fst, (List.getD (α := Bool × Int × ByteArray × Unit) a1 i (false, 0, (ByteArray.mk #[]), ())).snd.fst, (List.getD (α := Bool × Int × ByteArray × Unit) a1 i (false, 0, (ByteArray.mk #[]), ())).snd.snd.fst, ()) = some (eqB (.pair .bool (.pair (.int .i64) (.pair .str .unit))) (List.getD (α := Bool × Int × ByteArray × Unit) a0 i (false, 0, (ByteArray.mk #[]), ())) (List.getD (α := Bool × Int × ByteArray × Unit) a1 i (false, 0, (ByteArray.mk #[]), ()))) := by
          exact eqM_is (t := (.pair .bool (.pair (.int .i64) (.pair .str .unit)))) (x := (List.getD (α := Bool × Int × ByteArray × Unit) a0 i (false, 0, (ByteArray.mk #[]), ()))) (y := (List.getD (α := Bool × Int × ByteArray × Unit) a1 i (false, 0, (ByteArray.mk #[]), ()))) f1 f2
        rw [hE]
        cases q : eqB (.pair .bool (.pair (.int .i64) (.pair .str .unit))) (List.getD (α := Bool × Int × ByteArray × Unit) a0 i (false, 0, (ByteArray.mk #[]), ())) (List.getD (α := Bool × Int × ByteArray × Unit) a1 i (false, 0, (ByteArray.mk #[]), ())) <;> simp only [Option.bind_some, q] <;> rfl) (fun m => by
        show lo_laws_eqOpS_5 (m + 1) a0 a1 a0.length = _
        simp only [lo_laws_eqOpS_5, tr_laws_eqOpS_5]
        rw [cLtF]
        rfl) (fu_laws_eqOpS_5 a0 a1 0) 0 (by omega) (by simp [fu_laws_eqOpS_5])
      rw [c1]
      have hL' : lo_laws_eqOpS_5 (fu_laws_eqOpS_5 a0 a1 0) a0 a1 0 = _ := hL
      show (lo_laws_eqOpS_5 (fu_laws_eqOpS_5 a0 a1 0) a0 a1 0).bind _ = some ((eqL (α := Bool × Int × ByteArray × Unit) (fun x y : Bool × Int × ByteArray × Unit => eqB (.pair .bool (.pair (.int .i64) (.pair .str .unit))) x y) a0 a1, ()), ())
      rw [hL', List.drop_zero, List.drop_zero]
      cases eqL (α := Bool × Int × ByteArray × Unit) (fun x y : Bool × Int × ByteArray × Unit => eqB (.pair .bool (.pair (.int .i64) (.pair .str .unit))) x y) a0 a1 <;> rfl
    · have c1 : (nI a0.length != nI a1.length) = true := by simp [nI]; omega
      rw [c1]
      show _ = some ((eqL (α := Bool × Int × ByteArray × Unit) (fun x y : Bool × Int × ByteArray × Unit => eqB (.pair .bool (.pair (.int .i64) (.pair .str .unit))) x y) a0 a1, ()), ())
      rw [eqL_len (fun q => hl q.symm)]
      rfl
noncomputable def ou_laws_eqOpS_5 {R : Type} (k : Kt R) : ((Unit) ⊕ ((Bool) × Unit)) → Option R := (onSum (fun d => k (.exit 0) (((pa_laws_eqOpS 5).2 2).st d) (((pa_laws_eqOpS 5).2 2).nid)) (fun d => k .ret (((pa_laws_eqOpS 5).2 1).st d) (((pa_laws_eqOpS 5).2 1).nid)))
noncomputable def L_laws_eqOpS {R : Type} : Lt R pa_laws_eqOpS := (addL (pat := pa_laws_eqOpS) 5 (fun d k => (lo_laws_eqOpS_5 (fu_laws_eqOpS_5 d.1 d.2.1 d.2.2.1) d.1 d.2.1 d.2.2.1).bind (ou_laws_eqOpS_5 k)) noL)
theorem rd_laws_eqOpS_5 {R : Type} (nx : (pa_laws_eqOpS 5).1.D → Kt R → Option R) (k : Kt R) (v0 : List (Bool × Int × ByteArray × Unit)) (v1 : List (Bool × Int × ByteArray × Unit)) (v5 : Int) : ev Try.prog ⟨ta_laws_eqOpS, 0, 27, pa_laws_eqOpS⟩ L_laws_eqOpS co_laws_eqOpS_5 ((pa_laws_eqOpS 5).1.st (v0, v1, v5, ())) (pa_laws_eqOpS 5).1.nid (roundK 0 (pa_laws_eqOpS 5) nx k) = tr_laws_eqOpS_5  (fun d => nx d k) (fun d => k (.exit 0) (((pa_laws_eqOpS 5).2 2).st d) (((pa_laws_eqOpS 5).2 2).nid)) (fun d => k .ret (((pa_laws_eqOpS 5).2 1).st d) (((pa_laws_eqOpS 5).2 1).nid)) v0 v1 v5 := by kernel_rfl
theorem lp_laws_eqOpS_5 {R : Type} : ∀ (m : Nat) (d : (pa_laws_eqOpS 5).1.D) (k : Kt R), loopN 0 (pa_laws_eqOpS 5) (fun s nid k => ev Try.prog ⟨ta_laws_eqOpS, 0, 27, pa_laws_eqOpS⟩ L_laws_eqOpS co_laws_eqOpS_5 s nid k) m d k = (lo_laws_eqOpS_5 m d.1 d.2.1 d.2.2.1).bind (ou_laws_eqOpS_5 k)
  | 0, _, _ => rfl
  | m + 1, ⟨v0, v1, v5, ⟨⟩⟩, k => (rd_laws_eqOpS_5 _ k v0 v1 v5).trans ((congrArg (fun F => tr_laws_eqOpS_5  F (fun d => k (.exit 0) (((pa_laws_eqOpS 5).2 2).st d) (((pa_laws_eqOpS 5).2 2).nid)) (fun d => k .ret (((pa_laws_eqOpS 5).2 1).st d) (((pa_laws_eqOpS 5).2 1).nid)) v0 v1 v5) (funext fun d => lp_laws_eqOpS_5 m d k)).trans (na_laws_eqOpS_5 (f := ou_laws_eqOpS_5 k)  (fun d => lo_laws_eqOpS_5 m d.1 d.2.1 d.2.2.1) (fun d => some (.inl (d))) (fun d => some (.inr (d))) v0 v1 v5))
theorem en_laws_eqOpS (a0 : List (Bool × Int × ByteArray × Unit)) (a1 : List (Bool × Int × ByteArray × Unit)) : evalF Try.prog ta_laws_eqOpS pa_laws_eqOpS sg_laws_eqOpS Try.f54 L_laws_eqOpS (a0, a1, ()) = de_laws_eqOpS a0 a1 := by kernel_rfl
theorem si_laws_eqOpS : SigsOk Try.prog ta_laws_eqOpS := SigsOk.of fun f sd h => by
  try dsimp only [Tb.of, ta_laws_eqOpS] at h
  split at h
  · rename_i e; subst e; cases h; exact sn_laws_eqOp
  cases h
theorem lk_laws_eqOpS_5 {R : Type} : LoopOk Try.prog R 27 0 pa_laws_eqOpS L_laws_eqOpS co_laws_eqOpS_5 :=
  loop_key (cfg := ⟨ta_laws_eqOpS, 0, 27, pa_laws_eqOpS⟩) (key := 5) (by kernel_rfl) (by kernel_rfl) si_laws_eqOpS rfl rfl (fun d k r h => ⟨fu_laws_eqOpS_5 d.1 d.2.1 d.2.2.1, (lp_laws_eqOpS_5 _ d k).trans h⟩) (fun c hc => by rw [show loopsIn co_laws_eqOpS_5 = [] from by kernel_rfl] at hc; cases hc)
theorem sn_laws_eqOpS : Callable Try.prog 54 ∧ Sound Try.prog 54 sd_laws_eqOpS.sg sd_laws_eqOpS.den :=
  fn_loops (pat := pa_laws_eqOpS) L_laws_eqOpS (by kernel_rfl) si_laws_eqOpS Try.func54 (by kernel_rfl) (by kernel_rfl) (fun c hc => by rw [show loopsIn (bodyOf Try.f54) = [co_laws_eqOpS_5] from by kernel_rfl] at hc; simp only [List.mem_cons, List.not_mem_nil, or_false] at hc; rcases hc with rfl <;> first | exact lk_laws_eqOpS_5) fun x r h => by
    obtain ⟨a0, a1, ⟨⟩⟩ := x; obtain ⟨y, h1, h2⟩ := Option.bind_eq_some_iff.1 (show (m_laws_eqOpS a0 a1).bind (fun r => some ((r, ()), (()))) = some r from h); cases h2; exact (en_laws_eqOpS a0 a1).trans (eq_laws_eqOpS a0 a1 _ h1)
def m_laws_eqDone (a b : Int × (Int × Int × Int × (Int × Int × Int × Int × Unit) × Int × Int × ((List (ByteArray × ByteArray × Unit)) × Unit) × Unit) × (List (Bool × Int × ByteArray × Unit)) × Unit) : Option Bool := eqM (.pair (.int .i64) (.pair (.pair (.int .i64) (.pair (.int .i64) (.pair (.int .i64) (.pair (.pair (.int .i64) (.pair (.int .i64) (.pair (.int .i64) (.pair (.int .i64) .unit)))) (.pair (.int .i64) (.pair (.int .i64) (.pair (.pair (.sl (.pair .str (.pair .str .unit))) .unit) .unit))))))) (.pair (.sl (.pair .bool (.pair (.int .i64) (.pair .str .unit)))) .unit))) a b
def sg_laws_eqDone : Sig := ⟨[.rd (.pair (.int .i64) (.pair (.pair (.int .i64) (.pair (.int .i64) (.pair (.int .i64) (.pair (.pair (.int .i64) (.pair (.int .i64) (.pair (.int .i64) (.pair (.int .i64) .unit)))) (.pair (.int .i64) (.pair (.int .i64) (.pair (.pair (.sl (.pair .str (.pair .str .unit))) .unit) .unit))))))) (.pair (.sl (.pair .bool (.pair (.int .i64) (.pair .str .unit)))) .unit))), .rd (.pair (.int .i64) (.pair (.pair (.int .i64) (.pair (.int .i64) (.pair (.int .i64) (.pair (.pair (.int .i64) (.pair (.int .i64) (.pair (.int .i64) (.pair (.int .i64) .unit)))) (.pair (.int .i64) (.pair (.int .i64) (.pair (.pair (.sl (.pair .str (.pair .str .unit))) .unit) .unit))))))) (.pair (.sl (.pair .bool (.pair (.int .i64) (.pair .str .unit)))) .unit)))], [some 12, some 12], [.rd .bool], [none]⟩
noncomputable def sd_laws_eqDone : SD := ⟨sg_laws_eqDone, fun x => (m_laws_eqDone x.1 x.2.1).bind fun r => some ((r, ()), (()))⟩
noncomputable def ta_laws_eqDone : Tb := Tb.of fun f => if f = 13 then some sd_laws_eqStore else if f = 54 then some sd_laws_eqOpS else none
def pa_laws_eqDone : Nat → Pat × (Nat → Pat) := fun k => (⟨[], [], []⟩, fun _ => ⟨[], [], []⟩)
noncomputable def de_laws_eqDone (a0 : Int × (Int × Int × Int × (Int × Int × Int × Int × Unit) × Int × Int × ((List (ByteArray × ByteArray × Unit)) × Unit) × Unit) × (List (Bool × Int × ByteArray × Unit)) × Unit) (a1 : Int × (Int × Int × Int × (Int × Int × Int × Int × Unit) × Int × Int × ((List (ByteArray × ByteArray × Unit)) × Unit) × Unit) × (List (Bool × Int × ByteArray × Unit)) × Unit) : Option ((((Bool) × Unit) × (Unit))) :=
  bif a0.fst != a1.fst then some ((false, ()), ())
  else
    Option.bind
      (Option.bind
        (m_laws_eqStore
          (a0.snd.fst.fst, a0.snd.fst.snd.fst, a0.snd.fst.snd.snd.fst,
            (a0.snd.fst.snd.snd.snd.fst.fst, a0.snd.fst.snd.snd.snd.fst.snd.fst, a0.snd.fst.snd.snd.snd.fst.snd.snd.fst, a0.snd.fst.snd.snd.snd.fst.snd.snd.snd.fst, ()), a0.snd.fst.snd.snd.snd.snd.fst,
            a0.snd.fst.snd.snd.snd.snd.snd.fst, (a0.snd.fst.snd.snd.snd.snd.snd.snd.fst.fst, ()), ())
          (a1.snd.fst.fst, a1.snd.fst.snd.fst, a1.snd.fst.snd.snd.fst,
            (a1.snd.fst.snd.snd.snd.fst.fst, a1.snd.fst.snd.snd.snd.fst.snd.fst, a1.snd.fst.snd.snd.snd.fst.snd.snd.fst, a1.snd.fst.snd.snd.snd.fst.snd.snd.snd.fst, ()), a1.snd.fst.snd.snd.snd.snd.fst,
            a1.snd.fst.snd.snd.snd.snd.snd.fst, (a1.snd.fst.snd.snd.snd.snd.snd.snd.fst.fst, ()), ()))
        fun val => some ((val, ()), ()))
      fun val =>
      bif !val.fst.fst then some ((false, ()), ())
      else Option.bind (Option.bind (m_laws_eqOpS a0.snd.snd.fst a1.snd.snd.fst) fun val => some ((val, ()), ())) fun val => bif !val.fst.fst then some ((false, ()), ()) else some ((true, ()), ())
theorem eq_laws_eqDone (a0 : Int × (Int × Int × Int × (Int × Int × Int × Int × Unit) × Int × Int × ((List (ByteArray × ByteArray × Unit)) × Unit) × Unit) × (List (Bool × Int × ByteArray × Unit)) × Unit) (a1 : Int × (Int × Int × Int × (Int × Int × Int × Int × Unit) × Int × Int × ((List (ByteArray × ByteArray × Unit)) × Unit) × Unit) × (List (Bool × Int × ByteArray × Unit)) × Unit) r (h : m_laws_eqDone a0 a1 = some r) : de_laws_eqDone a0 a1 = some ((r, ()), (())) := by
  obtain ⟨hc, hd, rfl⟩ := eqM_some (t := (.pair (.int .i64) (.pair (.pair (.int .i64) (.pair (.int .i64) (.pair (.int .i64) (.pair (.pair (.int .i64) (.pair (.int .i64) (.pair (.int .i64) (.pair (.int .i64) .unit)))) (.pair (.int .i64) (.pair (.int .i64) (.pair (.pair (.sl (.pair .str (.pair .str .unit))) .unit) .unit))))))) (.pair (.sl (.pair .bool (.pair (.int .i64) (.pair .str .unit)))) .unit)))) h
  obtain ⟨hc0, hc1, hc2, _⟩ : fineB (.int .i64) a0.1 = true ∧ fineB (.pair (.int .i64) (.pair (.int .i64) (.pair (.int .i64) (.pair (.pair (.int .i64) (.pair (.int .i64) (.pair (.int .i64) (.pair (.int .i64) .unit)))) (.pair (.int .i64) (.pair (.int .i64) (.pair (.pair (.sl (.pair .str (.pair .str .unit))) .unit) .unit))))))) a0.2.1 = true ∧ fineB (.sl (.pair .bool (.pair (.int .i64) (.pair .str .unit)))) a0.2.2.1 = true ∧ True := by
    have s := hc
    obtain ⟨h0, s⟩ := fineB_pair s
    obtain ⟨h1, s⟩ := fineB_pair s
    obtain ⟨h2, s⟩ := fineB_pair s
    exact ⟨h0, h1, h2, trivial⟩
  obtain ⟨hd0, hd1, hd2, _⟩ : fineB (.int .i64) a1.1 = true ∧ fineB (.pair (.int .i64) (.pair (.int .i64) (.pair (.int .i64) (.pair (.pair (.int .i64) (.pair (.int .i64) (.pair (.int .i64) (.pair (.int .i64) .unit)))) (.pair (.int .i64) (.pair (.int .i64) (.pair (.pair (.sl (.pair .str (.pair .str .unit))) .unit) .unit))))))) a1.2.1 = true ∧ fineB (.sl (.pair .bool (.pair (.int .i64) (.pair .str .unit)))) a1.2.2.1 = true ∧ True := by
    have s := hd
    obtain ⟨h0, s⟩ := fineB_pair s
    obtain ⟨h1, s⟩ := fineB_pair s
    obtain ⟨h2, s⟩ := fineB_pair s
    exact ⟨h0, h1, h2, trivial⟩
  unfold de_laws_eqDone
  have e0 : (a0.1 != a1.1) = !eqI a0.1 a1.1 := bneI _ _
  have e1 : m_laws_eqStore a0.2.1 a1.2.1 = some (eqB (.pair (.int .i64) (.pair (.int .i64) (.pair (.int .i64) (.pair (.pair (.int .i64) (.pair (.int .i64) (.pair (.int .i64) (.pair (.int .i64) .unit)))) (.pair (.int .i64) (.pair (.int .i64) (.pair (.pair (.sl (.pair .str (.pair .str .unit))) .unit) .unit))))))) a0.2.1 a1.2.1) := eqM_is (t := (.pair (.int .i64) (.pair (.int .i64) (.pair (.int .i64) (.pair (.pair (.int .i64) (.pair (.int .i64) (.pair (.int .i64) (.pair (.int .i64) .unit)))) (.pair (.int .i64) (.pair (.int .i64) (.pair (.pair (.sl (.pair .str (.pair .str .unit))) .unit) .unit)))))))) hc1 hd1
  have e1 : m_laws_eqStore (a0.2.1.fst, a0.2.1.snd.fst, a0.2.1.snd.snd.fst, (a0.2.1.snd.snd.snd.fst.fst, a0.2.1.snd.snd.snd.fst.snd.fst, a0.2.1.snd.snd.snd.fst.snd.snd.fst, a0.2.1.snd.snd.snd.fst.snd.snd.snd.fst, ()), a0.2.1.snd.snd.snd.snd.fst, a0.2.1.snd.snd.snd.snd.snd.fst, (a0.2.1.snd.snd.snd.snd.snd.snd.fst.fst, ()), ()) (a1.2.1.fst, a1.2.1.snd.fst, a1.2.1.snd.snd.fst, (a1.2.1.snd.snd.snd.fst.fst, a1.2.1.snd.snd.snd.fst.snd.fst, a1.2.1.snd.snd.snd.fst.snd.snd.fst, a1.2.1.snd.snd.snd.fst.snd.snd.snd.fst, ()), a1.2.1.snd.snd.snd.snd.fst, a1.2.1.snd.snd.snd.snd.snd.fst, (a1.2.1.snd.snd.snd.snd.snd.snd.fst.fst, ()), ()) = some (eqB (.pair (.int .i64) (.pair (.int .i64) (.pair (.int .i64) (.pair (.pair (.int .i64) (.pair (.int .i64) (.pair (.int .i64) (.pair (.int .i64) .unit)))) (.pair (.int .i64) (.pair (.int .i64) (.pair (.pair (.sl (.pair .str (.pair .str .unit))) .unit) .unit))))))) a0.2.1 a1.2.1) := e1
  have e2 : m_laws_eqOpS a0.2.2.1 a1.2.2.1 = some (eqB (.sl (.pair .bool (.pair (.int .i64) (.pair .str .unit)))) a0.2.2.1 a1.2.2.1) := eqM_is (t := (.sl (.pair .bool (.pair (.int .i64) (.pair .str .unit))))) hc2 hd2
  simp only [e0, e1, e2, Option.bind_some]
  show _ = some (((eqI a0.1 a1.1 && (eqB (.pair (.int .i64) (.pair (.int .i64) (.pair (.int .i64) (.pair (.pair (.int .i64) (.pair (.int .i64) (.pair (.int .i64) (.pair (.int .i64) .unit)))) (.pair (.int .i64) (.pair (.int .i64) (.pair (.pair (.sl (.pair .str (.pair .str .unit))) .unit) .unit))))))) a0.2.1 a1.2.1 && (eqB (.sl (.pair .bool (.pair (.int .i64) (.pair .str .unit)))) a0.2.2.1 a1.2.2.1 && true))), ()), ())
  generalize eqI a0.1 a1.1 = p0
  generalize eqB (.pair (.int .i64) (.pair (.int .i64) (.pair (.int .i64) (.pair (.pair (.int .i64) (.pair (.int .i64) (.pair (.int .i64) (.pair (.int .i64) .unit)))) (.pair (.int .i64) (.pair (.int .i64) (.pair (.pair (.sl (.pair .str (.pair .str .unit))) .unit) .unit))))))) a0.2.1 a1.2.1 = p1
  generalize eqB (.sl (.pair .bool (.pair (.int .i64) (.pair .str .unit)))) a0.2.2.1 a1.2.2.1 = p2
  cases p0 <;> cases p1 <;> cases p2 <;> rfl
theorem en_laws_eqDone (a0 : Int × (Int × Int × Int × (Int × Int × Int × Int × Unit) × Int × Int × ((List (ByteArray × ByteArray × Unit)) × Unit) × Unit) × (List (Bool × Int × ByteArray × Unit)) × Unit) (a1 : Int × (Int × Int × Int × (Int × Int × Int × Int × Unit) × Int × Int × ((List (ByteArray × ByteArray × Unit)) × Unit) × Unit) × (List (Bool × Int × ByteArray × Unit)) × Unit) : evalF Try.prog ta_laws_eqDone pa_laws_eqDone sg_laws_eqDone Try.f12 noL (a0, a1, ()) = de_laws_eqDone a0 a1 := by kernel_rfl
theorem si_laws_eqDone : SigsOk Try.prog ta_laws_eqDone := SigsOk.of fun f sd h => by
  try dsimp only [Tb.of, ta_laws_eqDone] at h
  split at h
  · rename_i e; subst e; cases h; exact sn_laws_eqStore
  split at h
  · rename_i e; subst e; cases h; exact sn_laws_eqOpS
  cases h
theorem sn_laws_eqDone : Callable Try.prog 12 ∧ Sound Try.prog 12 sd_laws_eqDone.sg sd_laws_eqDone.den :=
  fn_plain (pat := pa_laws_eqDone) (by kernel_rfl) si_laws_eqDone Try.func12 (by kernel_rfl) (by kernel_rfl) (by kernel_rfl) fun x r h => by
    obtain ⟨a0, a1, ⟨⟩⟩ := x; obtain ⟨y, h1, h2⟩ := Option.bind_eq_some_iff.1 (show (m_laws_eqDone a0 a1).bind (fun r => some ((r, ()), (()))) = some r from h); cases h2; exact (en_laws_eqDone a0 a1).trans (eq_laws_eqDone a0 a1 _ h1)
def m_laws_markText (k : Int) : Option ByteArray := if k ≤ 36028797018963968 then some (mkT k) else none
def fu_laws_markText_5 (v0 : Int) (v3 : ByteArray) : Nat := 21
def sg_laws_markText : Sig := ⟨[.rd (.int .i64)], [none], [.rd .str], [none]⟩
noncomputable def sd_laws_markText : SD := ⟨sg_laws_markText, fun x => (m_laws_markText x.1).bind fun r => some ((r, ()), (()))⟩
noncomputable def ta_laws_markText : Tb := Tb.of fun f => none
def pa_laws_markText : Nat → Pat × (Nat → Pat) := fun k => if k = 5 then (⟨[], [(0, .lf (.d (.int .i64))), (3, .lf (.d .str))], []⟩, fun e => if e = 2 then ⟨[], [(3, .lf (.d .str))], []⟩ else ⟨[], [], []⟩) else (⟨[], [], []⟩, fun _ => ⟨[], [], []⟩)
noncomputable def co_laws_markText_5 : Code := (loopsIn (bodyOf Try.f130)).getD 0 .skip
noncomputable def tr_laws_markText_5 {R : Type}  (NX : ((Int) × (ByteArray) × Unit) → Option R) (X2 : ((ByteArray) × Unit) → Option R) (v0 : Int) (v3 : ByteArray) : Option R :=
  bif decide (v0 > 0) then
    bif decide (ByteArray.size (strOfNums [IntKind.wrap IntKind.u8 (IntKind.wrap IntKind.i64 (48 + Int.tmod v0 10))]) + ByteArray.size v3 ≤ 9223372036854775807) then
      NX (IntKind.wrap IntKind.i64 (Int.tdiv v0 10), strOfNums [IntKind.wrap IntKind.u8 (IntKind.wrap IntKind.i64 (48 + Int.tmod v0 10))] ++ v3, ())
    else none
  else X2 (v3, ())
noncomputable def lo_laws_markText_5 : Nat → (Int) → (ByteArray) →  Option ((ByteArray) × Unit)
  | 0, _, _ => none
  | m + 1, v0, v3 => tr_laws_markText_5  (fun d => lo_laws_markText_5 m d.1 d.2.1) (fun d => some (d)) v0 v3
theorem na_laws_markText_5 {R S : Type}  (NX : ((Int) × (ByteArray) × Unit) → Option R) (X2 : ((ByteArray) × Unit) → Option R) (v0 : Int) (v3 : ByteArray) (f : R → Option S) : tr_laws_markText_5  (fun d => (NX d).bind f) (fun d => (X2 d).bind f) v0 v3 = (tr_laws_markText_5  NX X2 v0 v3).bind f := by
  unfold tr_laws_markText_5
  simp only [cond_bind, ite_bind, onSum_bind, Option.bind_assoc, Option.bind_none, Option.bind_some]
noncomputable def de_laws_markText (a0 : Int) : Option ((((ByteArray) × Unit) × (Unit))) :=
  bif decide (a0 ≤ 0) then some ((ByteArray.mk #[109, 48], ()), ())
  else
    Option.bind ((fun d => lo_laws_markText_5 (fu_laws_markText_5 d.1 d.2.1) d.1 d.2.1) (a0, ByteArray.mk #[], ())) fun val =>
      bif decide (ByteArray.size (ByteArray.mk #[109]) + ByteArray.size val.fst ≤ 9223372036854775807) then some ((ByteArray.mk #[109] ++ val.fst, ()), ()) else none
theorem digit_byte {k : Int} (h : 0 ≤ k) : IntKind.wrap .u8 (IntKind.wrap .i64 (48 + Int.tmod k 10)) = 48 + k % 10 := by
  rw [Int.tmod_eq_emod_of_nonneg h]
  have h1 : 0 ≤ k % 10 := Int.emod_nonneg _ (by omega)
  have h2 : k % 10 < 10 := Int.emod_lt_of_pos _ (by omega)
  have e1 : IntKind.wrap .i64 (48 + k % 10) = 48 + k % 10 := wrap_ok (by omega) (by omega)
  rw [e1]
  simp [IntKind.wrap, IntKind.bits, IntKind.signed]
  omega
theorem lo_laws_markText : ∀ (m : Nat) (k : Int) (out : ByteArray), 0 ≤ k → k ≤ 36028797018963968 → k < 10 ^ m → out.size + m ≤ 100 → lo_laws_markText_5 (m + 1) k out = some (digsGo m k out, ())
  | 0, k, out, h0, hb, h1, _ => by
    simp only [lo_laws_markText_5, tr_laws_markText_5]
    have : ¬ k > 0 := by simp at h1; omega
    rw [decide_eq_false this]
    rfl
  | m + 1, k, out, h0, hb, h1, h2 => by
    rw [lo_laws_markText_5]
    simp only [tr_laws_markText_5, digsGo]
    by_cases h : k > 0
    · have e : IntKind.wrap .i64 (Int.tdiv k 10) = k / 10 := by
        rw [Int.tdiv_eq_ediv_of_nonneg h0]
        exact wrap_ok (by omega) (by omega)
      have hs : ByteArray.size (strOfNums [48 + k % 10]) = 1 := strOfNums_size _
      have h3 : k / 10 < 10 ^ m := Int.ediv_lt_of_lt_mul (by omega) (by rw [Int.pow_succ] at h1; exact h1)
      have c : ByteArray.size (strOfNums [48 + k % 10]) + ByteArray.size out ≤ 9223372036854775807 := by rw [hs]; omega
      have ih := lo_laws_markText m (k / 10) (strOfNums [48 + k % 10] ++ out) (by omega) (by omega) h3 (by rw [ByteArray.size_append, hs]; omega)
      rw [digit_byte h0, decide_eq_true h, if_pos h, e, decide_eq_true c]
      exact ih
    · rw [decide_eq_false h, if_neg h]
      rfl
theorem digsGo_size : ∀ (m : Nat) (k : Int) (out : ByteArray), (digsGo m k out).size ≤ out.size + m
  | 0, k, out => Nat.le_refl _
  | m + 1, k, out => by
    simp only [digsGo]
    split
    · have := digsGo_size m (k / 10) (strOfNums [48 + k % 10] ++ out)
      rw [ByteArray.size_append, strOfNums_size] at this
      simp at this
      omega
    · omega
theorem eq_laws_markText (a0 : Int) r (h : m_laws_markText a0 = some r) : de_laws_markText a0 = some ((r, ()), (())) := by
  unfold m_laws_markText at h
  split at h
  · rename_i hc
    cases h
    unfold de_laws_markText mkT
    by_cases q : a0 ≤ 0
    · rw [decide_eq_true q, if_pos q]; rfl
    · rw [decide_eq_false q, if_neg q]
      have hL := lo_laws_markText 20 a0 ⟨#[]⟩ (by omega) hc (by omega) (by decide)
      have hL' : lo_laws_markText_5 (fu_laws_markText_5 a0 ⟨#[]⟩) a0 ⟨#[]⟩ = _ := hL
      show (lo_laws_markText_5 (fu_laws_markText_5 a0 ⟨#[]⟩) a0 ⟨#[]⟩).bind _ = _
      rw [hL']
      have := digsGo_size 20 a0 ⟨#[]⟩
      have h0 : ByteArray.size ⟨#[]⟩ = 0 := rfl
      have h1 : ByteArray.size ⟨#[109]⟩ = 1 := rfl
      have c : ByteArray.size ⟨#[109]⟩ + ByteArray.size (digsGo 20 a0 ⟨#[]⟩) ≤ 9223372036854775807 := by omega
      show (bif decide (ByteArray.size ⟨#[109]⟩ + ByteArray.size (digsGo 20 a0 ⟨#[]⟩) ≤ 9223372036854775807) then _ else _) = _
      rw [decide_eq_true c]
      rfl
  · cases h
noncomputable def ou_laws_markText_5 {R : Type} (k : Kt R) : ((ByteArray) × Unit) → Option R := (fun d => k (.exit 0) (((pa_laws_markText 5).2 2).st d) (((pa_laws_markText 5).2 2).nid))
noncomputable def L_laws_markText {R : Type} : Lt R pa_laws_markText := (addL (pat := pa_laws_markText) 5 (fun d k => (lo_laws_markText_5 (fu_laws_markText_5 d.1 d.2.1) d.1 d.2.1).bind (ou_laws_markText_5 k)) noL)
theorem rd_laws_markText_5 {R : Type} (nx : (pa_laws_markText 5).1.D → Kt R → Option R) (k : Kt R) (v0 : Int) (v3 : ByteArray) : ev Try.prog ⟨ta_laws_markText, 0, 20, pa_laws_markText⟩ L_laws_markText co_laws_markText_5 ((pa_laws_markText 5).1.st (v0, v3, ())) (pa_laws_markText 5).1.nid (roundK 0 (pa_laws_markText 5) nx k) = tr_laws_markText_5  (fun d => nx d k) (fun d => k (.exit 0) (((pa_laws_markText 5).2 2).st d) (((pa_laws_markText 5).2 2).nid)) v0 v3 := by kernel_rfl
theorem lp_laws_markText_5 {R : Type} : ∀ (m : Nat) (d : (pa_laws_markText 5).1.D) (k : Kt R), loopN 0 (pa_laws_markText 5) (fun s nid k => ev Try.prog ⟨ta_laws_markText, 0, 20, pa_laws_markText⟩ L_laws_markText co_laws_markText_5 s nid k) m d k = (lo_laws_markText_5 m d.1 d.2.1).bind (ou_laws_markText_5 k)
  | 0, _, _ => rfl
  | m + 1, ⟨v0, v3, ⟨⟩⟩, k => (rd_laws_markText_5 _ k v0 v3).trans ((congrArg (fun F => tr_laws_markText_5  F (fun d => k (.exit 0) (((pa_laws_markText 5).2 2).st d) (((pa_laws_markText 5).2 2).nid)) v0 v3) (funext fun d => lp_laws_markText_5 m d k)).trans (na_laws_markText_5 (f := ou_laws_markText_5 k)  (fun d => lo_laws_markText_5 m d.1 d.2.1) (fun d => some (d)) v0 v3))
theorem en_laws_markText (a0 : Int) : evalF Try.prog ta_laws_markText pa_laws_markText sg_laws_markText Try.f130 L_laws_markText (a0, ()) = de_laws_markText a0 := by kernel_rfl
theorem si_laws_markText : SigsOk Try.prog ta_laws_markText := SigsOk.of fun f sd h => by
  try dsimp only [Tb.of, ta_laws_markText] at h
  cases h
theorem lk_laws_markText_5 {R : Type} : LoopOk Try.prog R 20 0 pa_laws_markText L_laws_markText co_laws_markText_5 :=
  loop_key (cfg := ⟨ta_laws_markText, 0, 20, pa_laws_markText⟩) (key := 5) (by kernel_rfl) (by kernel_rfl) si_laws_markText rfl rfl (fun d k r h => ⟨fu_laws_markText_5 d.1 d.2.1, (lp_laws_markText_5 _ d k).trans h⟩) (fun c hc => by rw [show loopsIn co_laws_markText_5 = [] from by kernel_rfl] at hc; cases hc)
theorem sn_laws_markText : Callable Try.prog 130 ∧ Sound Try.prog 130 sd_laws_markText.sg sd_laws_markText.den :=
  fn_loops (pat := pa_laws_markText) L_laws_markText (by kernel_rfl) si_laws_markText Try.func130 (by kernel_rfl) (by kernel_rfl) (fun c hc => by rw [show loopsIn (bodyOf Try.f130) = [co_laws_markText_5] from by kernel_rfl] at hc; simp only [List.mem_cons, List.not_mem_nil, or_false] at hc; rcases hc with rfl <;> first | exact lk_laws_markText_5) fun x r h => by
    obtain ⟨a0, ⟨⟩⟩ := x; obtain ⟨y, h1, h2⟩ := Option.bind_eq_some_iff.1 (show (m_laws_markText a0).bind (fun r => some ((r, ()), (()))) = some r from h); cases h2; exact (en_laws_markText a0).trans (eq_laws_markText a0 _ h1)
def m_laws_markPairS (a : List (ByteArray × ByteArray × Unit)) (k : Int) : Option (Int × (List (ByteArray × ByteArray × Unit))) := markM (.pair .str (.pair .str .unit)) a k
def sg_laws_markPairS : Sig := ⟨[.mu 151 (.pair .str (.pair .str .unit)), .rd (.int .i64)], [none, none], [.rd (.int .i64)], [none]⟩
noncomputable def sd_laws_markPairS : SD := ⟨sg_laws_markPairS, fun x => (m_laws_markPairS x.1 x.2.1).bind fun r => some ((r.1, ()), (r.2, ()))⟩
noncomputable def ta_laws_markPairS : Tb := Tb.of fun f => if f = 130 then some sd_laws_markText else none
def pa_laws_markPairS : Nat → Pat × (Nat → Pat) := fun k => if k = 3 then (⟨[], [(0, .lf (.row 0)), (1, .lf (.d (.int .i64))), (5, .lf (.d (.int .i64)))], [.row 151 (.pair .str (.pair .str .unit))]⟩, fun e => if e = 2 then ⟨[], [(1, .lf (.d (.int .i64)))], [.row 151 (.pair .str (.pair .str .unit))]⟩ else ⟨[], [], []⟩) else (⟨[], [], []⟩, fun _ => ⟨[], [], []⟩)
noncomputable def co_laws_markPairS_3 : Code := (loopsIn (bodyOf Try.f129)).getD 0 .skip
def fu_laws_markPairS_3 (v1 : Int) (v5 : Int) (r0 : List (ByteArray × ByteArray × Unit)) : Nat := ((r0.length : Int) - v5).toNat + 1
noncomputable def tr_laws_markPairS_3 {R : Type}  (NX : ((Int) × (Int) × (List (ByteArray × ByteArray × Unit)) × Unit) → Option R) (X2 : ((Int) × (List (ByteArray × ByteArray × Unit)) × Unit) → Option R) (v1 : Int) (v5 : Int) (r0 : List (ByteArray × ByteArray × Unit)) : Option R :=
  bif decide (v5 < nI (List.length r0)) then
    Option.bind (Option.bind (m_laws_markText v1) fun val => some ((val, ()), ())) fun val =>
      bif decide (0 ≤ v5) then
        bif decide (v5 < nI (List.length r0)) then
          bif decide (Int.toNat v5 < List.length r0) then
            Option.bind (Option.bind (m_laws_markText (IntKind.wrap IntKind.i64 (v1 + 1))) fun val => some ((val, ()), ())) fun val_1 =>
              bif decide (0 ≤ v5) then
                bif decide (v5 < nI (List.length (List.set r0 (Int.toNat v5) (val.fst.fst, (List.getD r0 (Int.toNat v5) (ByteArray.mk #[], ByteArray.mk #[], ())).snd.fst, ())))) then
                  bif decide (Int.toNat v5 < List.length (List.set r0 (Int.toNat v5) (val.fst.fst, (List.getD r0 (Int.toNat v5) (ByteArray.mk #[], ByteArray.mk #[], ())).snd.fst, ()))) then
                    NX
                      (IntKind.wrap IntKind.i64 (IntKind.wrap IntKind.i64 (v1 + 1) + 1), IntKind.wrap IntKind.i64 (v5 + 1),
                        List.set (List.set r0 (Int.toNat v5) (val.fst.fst, (List.getD r0 (Int.toNat v5) (ByteArray.mk #[], ByteArray.mk #[], ())).snd.fst, ())) (Int.toNat v5)
                          ((List.getD (List.set r0 (Int.toNat v5) (val.fst.fst, (List.getD r0 (Int.toNat v5) (ByteArray.mk #[], ByteArray.mk #[], ())).snd.fst, ())) (Int.toNat v5)
                                (ByteArray.mk #[], ByteArray.mk #[], ())).fst,
                            val_1.fst.fst, ()),
                        ())
                  else none
                else none
              else none
          else none
        else none
      else none
  else X2 (v1, r0, ())
noncomputable def lo_laws_markPairS_3 : Nat → (Int) → (Int) → (List (ByteArray × ByteArray × Unit)) →  Option ((Int) × (List (ByteArray × ByteArray × Unit)) × Unit)
  | 0, _, _, _ => none
  | m + 1, v1, v5, r0 => tr_laws_markPairS_3  (fun d => lo_laws_markPairS_3 m d.1 d.2.1 d.2.2.1) (fun d => some (d)) v1 v5 r0
theorem na_laws_markPairS_3 {R S : Type}  (NX : ((Int) × (Int) × (List (ByteArray × ByteArray × Unit)) × Unit) → Option R) (X2 : ((Int) × (List (ByteArray × ByteArray × Unit)) × Unit) → Option R) (v1 : Int) (v5 : Int) (r0 : List (ByteArray × ByteArray × Unit)) (f : R → Option S) : tr_laws_markPairS_3  (fun d => (NX d).bind f) (fun d => (X2 d).bind f) v1 v5 r0 = (tr_laws_markPairS_3  NX X2 v1 v5 r0).bind f := by
  unfold tr_laws_markPairS_3
  simp only [cond_bind, ite_bind, onSum_bind, Option.bind_assoc, Option.bind_none, Option.bind_some]
noncomputable def de_laws_markPairS (a0 : List (ByteArray × ByteArray × Unit)) (a1 : Int) : Option ((((Int) × Unit) × ((List (ByteArray × ByteArray × Unit)) × Unit))) :=
  Option.bind ((fun d => lo_laws_markPairS_3 (fu_laws_markPairS_3 d.1 d.2.1 d.2.2.1) d.1 d.2.1 d.2.2.1) (a1, 0, a0, ())) fun val => some ((val.fst, ()), val.snd.fst, ())
theorem eq_laws_markPairS (a0 : List (ByteArray × ByteArray × Unit)) (a1 : Int) r (h : m_laws_markPairS a0 a1 = some r) : de_laws_markPairS a0 a1 = some ((r.1, ()), (r.2, ())) := by
  obtain ⟨g0, g1, hl0, rfl⟩ := markM_some (t := (.pair .str (.pair .str .unit))) h
  have hl : a0.length ≤ 1125899906842624 := hl0
  have hEE : (fun k : Int => (show ByteArray × ByteArray × Unit from (mkE (.pair .str (.pair .str .unit)) k).1)) = (fun k : Int => (mkT (k), mkT (k + 1), ())) := funext fun k => by
    show (mkT (k), mkT (k + 1), ()) = (mkT (k), mkT (k + 1), ())
    try simp only [Int.add_assoc, Int.add_zero]
    try rfl
  show _ = some ((a1 + (a0.length : Int) * 2, ()), (gL (fun k : Int => (show ByteArray × ByteArray × Unit from (mkE (.pair .str (.pair .str .unit)) k).1)) 2 a0.length a1, ()))
  rw [hEE]
  unfold de_laws_markPairS
  have hL := mark_loop (fun k : Int => (mkT (k), mkT (k + 1), ())) 2 (n := a0.length) (K := 36028797018963000) (g := fun m k i r => lo_laws_markPairS_3 m k i r) (ok := fun k r => (k, r, ())) (fun m i k r hi hr h1 hK => by
    show lo_laws_markPairS_3 (m + 1) k i r = _
    have hK1 : k + 2 ≤ 36028797018963000 := by
      have : (1 : Int) ≤ (a0.length - i : Nat) := by omega
      omega
    rw [show lo_laws_markPairS_3 (m + 1) k i r = lo_laws_markPairS_3 (m + 1) (k + 0) i r from by rw [Int.add_zero]]
    have k0 : k = k + 0 := (Int.add_zero k).symm
    have t0 : m_laws_markText (k + 0) = some (mkT (k + 0)) := if_pos (by omega)
    have t1 : m_laws_markText (k + 1) = some (mkT (k + 1)) := if_pos (by omega)
    have w0 : IntKind.wrap IntKind.i64 (k + 0 + 1) = k + 1 := by rw [wrap_ok (by omega) (by omega)]; omega
    have w1 : IntKind.wrap IntKind.i64 (k + 1 + 1) = k + 2 := by rw [wrap_ok (by omega) (by omega)]; omega
    have hir : i < r.length := by omega
    simp only [lo_laws_markPairS_3, tr_laws_markPairS_3]
    simp only [t0, t1,  Option.bind_some, w0, w1,  List.length_set, List.set_set, cLt hir, cLe0, cLtN hir, wI (show i < 4611686018427387904 by omega), cond_true, Int.toNat_natCast, getD_set hir]
    first | rfl | (rw [Int.add_zero]; rfl) | (simp only [Int.add_zero]; rfl)) (fun m k r hr => by
    show lo_laws_markPairS_3 (m + 1) k a0.length r = _
    simp only [lo_laws_markPairS_3, tr_laws_markPairS_3, hr]
    rw [cLtF]
    rfl) (fu_laws_markPairS_3 a1 0 a0) 0 a1 a0 (by omega) (by simp [fu_laws_markPairS_3]) rfl g0 (by omega)
  have hL' : lo_laws_markPairS_3 (fu_laws_markPairS_3 a1 0 a0) a1 0 a0 = _ := hL
  show (lo_laws_markPairS_3 (fu_laws_markPairS_3 a1 0 a0) a1 0 a0).bind _ = _
  rw [hL']
  rfl
noncomputable def ou_laws_markPairS_3 {R : Type} (k : Kt R) : ((Int) × (List (ByteArray × ByteArray × Unit)) × Unit) → Option R := (fun d => k (.exit 0) (((pa_laws_markPairS 3).2 2).st d) (((pa_laws_markPairS 3).2 2).nid))
noncomputable def L_laws_markPairS {R : Type} : Lt R pa_laws_markPairS := (addL (pat := pa_laws_markPairS) 3 (fun d k => (lo_laws_markPairS_3 (fu_laws_markPairS_3 d.1 d.2.1 d.2.2.1) d.1 d.2.1 d.2.2.1).bind (ou_laws_markPairS_3 k)) noL)
theorem rd_laws_markPairS_3 {R : Type} (nx : (pa_laws_markPairS 3).1.D → Kt R → Option R) (k : Kt R) (v1 : Int) (v5 : Int) (r0 : List (ByteArray × ByteArray × Unit)) : ev Try.prog ⟨ta_laws_markPairS, 1, 29, pa_laws_markPairS⟩ L_laws_markPairS co_laws_markPairS_3 ((pa_laws_markPairS 3).1.st (v1, v5, r0, ())) (pa_laws_markPairS 3).1.nid (roundK 1 (pa_laws_markPairS 3) nx k) = tr_laws_markPairS_3  (fun d => nx d k) (fun d => k (.exit 0) (((pa_laws_markPairS 3).2 2).st d) (((pa_laws_markPairS 3).2 2).nid)) v1 v5 r0 := by kernel_rfl
theorem lp_laws_markPairS_3 {R : Type} : ∀ (m : Nat) (d : (pa_laws_markPairS 3).1.D) (k : Kt R), loopN 1 (pa_laws_markPairS 3) (fun s nid k => ev Try.prog ⟨ta_laws_markPairS, 1, 29, pa_laws_markPairS⟩ L_laws_markPairS co_laws_markPairS_3 s nid k) m d k = (lo_laws_markPairS_3 m d.1 d.2.1 d.2.2.1).bind (ou_laws_markPairS_3 k)
  | 0, _, _ => rfl
  | m + 1, ⟨v1, v5, r0, ⟨⟩⟩, k => (rd_laws_markPairS_3 _ k v1 v5 r0).trans ((congrArg (fun F => tr_laws_markPairS_3  F (fun d => k (.exit 0) (((pa_laws_markPairS 3).2 2).st d) (((pa_laws_markPairS 3).2 2).nid)) v1 v5 r0) (funext fun d => lp_laws_markPairS_3 m d k)).trans (na_laws_markPairS_3 (f := ou_laws_markPairS_3 k)  (fun d => lo_laws_markPairS_3 m d.1 d.2.1 d.2.2.1) (fun d => some (d)) v1 v5 r0))
theorem en_laws_markPairS (a0 : List (ByteArray × ByteArray × Unit)) (a1 : Int) : evalF Try.prog ta_laws_markPairS pa_laws_markPairS sg_laws_markPairS Try.f129 L_laws_markPairS (a0, a1, ()) = de_laws_markPairS a0 a1 := by kernel_rfl
theorem si_laws_markPairS : SigsOk Try.prog ta_laws_markPairS := SigsOk.of fun f sd h => by
  try dsimp only [Tb.of, ta_laws_markPairS] at h
  split at h
  · rename_i e; subst e; cases h; exact sn_laws_markText
  cases h
theorem lk_laws_markPairS_3 {R : Type} : LoopOk Try.prog R 29 1 pa_laws_markPairS L_laws_markPairS co_laws_markPairS_3 :=
  loop_key (cfg := ⟨ta_laws_markPairS, 1, 29, pa_laws_markPairS⟩) (key := 3) (by kernel_rfl) (by kernel_rfl) si_laws_markPairS rfl rfl (fun d k r h => ⟨fu_laws_markPairS_3 d.1 d.2.1 d.2.2.1, (lp_laws_markPairS_3 _ d k).trans h⟩) (fun c hc => by rw [show loopsIn co_laws_markPairS_3 = [] from by kernel_rfl] at hc; cases hc)
theorem sn_laws_markPairS : Callable Try.prog 129 ∧ Sound Try.prog 129 sd_laws_markPairS.sg sd_laws_markPairS.den :=
  fn_loops (pat := pa_laws_markPairS) L_laws_markPairS (by kernel_rfl) si_laws_markPairS Try.func129 (by kernel_rfl) (by kernel_rfl) (fun c hc => by rw [show loopsIn (bodyOf Try.f129) = [co_laws_markPairS_3] from by kernel_rfl] at hc; simp only [List.mem_cons, List.not_mem_nil, or_false] at hc; rcases hc with rfl <;> first | exact lk_laws_markPairS_3) fun x r h => by
    obtain ⟨a0, a1, ⟨⟩⟩ := x; obtain ⟨y, h1, h2⟩ := Option.bind_eq_some_iff.1 (show (m_laws_markPairS a0 a1).bind (fun r => some ((r.1, ()), (r.2, ()))) = some r from h); cases h2; exact (en_laws_markPairS a0 a1).trans (eq_laws_markPairS a0 a1 _ h1)
def m_laws_markState (a : (List (ByteArray × ByteArray × Unit)) × Unit) (k : Int) : Option (Int × (List (ByteArray × ByteArray × Unit))) := (markM (.pair .str (.pair .str .unit)) a.1 k).bind fun r0 =>  some (r0.1, r0.2)
def sg_laws_markState : Sig := ⟨[.mu 151 (.pair .str (.pair .str .unit)), .rd (.int .i64)], [some 1, none], [.rd (.int .i64)], [none]⟩
noncomputable def sd_laws_markState : SD := ⟨sg_laws_markState, fun x => (m_laws_markState (x.1, ()) x.2.1).bind fun r => some ((r.1, ()), (r.2, ()))⟩
noncomputable def ta_laws_markState : Tb := Tb.of fun f => if f = 129 then some sd_laws_markPairS else none
def pa_laws_markState : Nat → Pat × (Nat → Pat) := fun k => (⟨[], [], []⟩, fun _ => ⟨[], [], []⟩)
noncomputable def de_laws_markState (a0 : List (ByteArray × ByteArray × Unit)) (a1 : Int) : Option ((((Int) × Unit) × ((List (ByteArray × ByteArray × Unit)) × Unit))) :=
  Option.bind (Option.bind (m_laws_markPairS a0 a1) fun val => some ((val.fst, ()), val.snd, ())) fun val => some ((val.fst.fst, ()), val.snd.fst, ())
theorem eq_laws_markState (a0 : List (ByteArray × ByteArray × Unit)) (a1 : Int) r (h : m_laws_markState (a0, ()) a1 = some r) : de_laws_markState a0 a1 = some ((r.1, ()), (r.2, ())) := by
  unfold m_laws_markState at h
  obtain ⟨⟨k0, x0⟩, e0, h⟩ := Option.bind_eq_some_iff.1 h
  have e0 : markM (.pair .str (.pair .str .unit)) a0 a1 = some (k0, x0) := e0
  cases h
  unfold de_laws_markState
  have c0 : m_laws_markPairS a0 a1 = (some (k0, x0) : Option (Int × (List (ByteArray × ByteArray × Unit)))) := e0
  rw [c0]
  simp only [Option.bind_some]
  try rfl
theorem en_laws_markState (a0 : List (ByteArray × ByteArray × Unit)) (a1 : Int) : evalF Try.prog ta_laws_markState pa_laws_markState sg_laws_markState Try.f57 noL (a0, a1, ()) = de_laws_markState a0 a1 := by kernel_rfl
theorem si_laws_markState : SigsOk Try.prog ta_laws_markState := SigsOk.of fun f sd h => by
  try dsimp only [Tb.of, ta_laws_markState] at h
  split at h
  · rename_i e; subst e; cases h; exact sn_laws_markPairS
  cases h
theorem sn_laws_markState : Callable Try.prog 57 ∧ Sound Try.prog 57 sd_laws_markState.sg sd_laws_markState.den :=
  fn_plain (pat := pa_laws_markState) (by kernel_rfl) si_laws_markState Try.func57 (by kernel_rfl) (by kernel_rfl) (by kernel_rfl) fun x r h => by
    obtain ⟨a0, a1, ⟨⟩⟩ := x; obtain ⟨y, h1, h2⟩ := Option.bind_eq_some_iff.1 (show (m_laws_markState (a0, ()) a1).bind (fun r => some ((r.1, ()), (r.2, ()))) = some r from h); cases h2; exact (en_laws_markState a0 a1).trans (eq_laws_markState a0 a1 _ h1)
def m_laws_markStore (a : Int × Int × Int × (Int × Int × Int × Int × Unit) × Int × Int × ((List (ByteArray × ByteArray × Unit)) × Unit) × Unit) (k : Int) : Option (Int × (List (ByteArray × ByteArray × Unit))) := (markM (.pair .str (.pair .str .unit)) a.2.2.2.2.2.2.1.1 k).bind fun r0 =>  some (r0.1, r0.2)
def sg_laws_markStore : Sig := ⟨[.rd (.int .i64), .rd (.int .i64), .rd (.int .i64), .rd (.int .i64), .rd (.int .i64), .rd (.int .i64), .rd (.int .i64), .rd (.int .i64), .rd (.int .i64), .mu 151 (.pair .str (.pair .str .unit)), .rd (.int .i64)], [some 10, none], [.rd (.int .i64)], [none]⟩
noncomputable def sd_laws_markStore : SD := ⟨sg_laws_markStore, fun x => (m_laws_markStore (x.1, x.2.1, x.2.2.1, (x.2.2.2.1, x.2.2.2.2.1, x.2.2.2.2.2.1, x.2.2.2.2.2.2.1, ()), x.2.2.2.2.2.2.2.1, x.2.2.2.2.2.2.2.2.1, (x.2.2.2.2.2.2.2.2.2.1, ()), ()) x.2.2.2.2.2.2.2.2.2.2.1).bind fun r => some ((r.1, ()), (r.2, ()))⟩
noncomputable def ta_laws_markStore : Tb := Tb.of fun f => if f = 57 then some sd_laws_markState else none
def pa_laws_markStore : Nat → Pat × (Nat → Pat) := fun k => (⟨[], [], []⟩, fun _ => ⟨[], [], []⟩)
noncomputable def de_laws_markStore (a0 : Int) (a1 : Int) (a2 : Int) (a3 : Int) (a4 : Int) (a5 : Int) (a6 : Int) (a7 : Int) (a8 : Int) (a9 : List (ByteArray × ByteArray × Unit)) (a10 : Int) : Option ((((Int) × Unit) × ((List (ByteArray × ByteArray × Unit)) × Unit))) :=
  Option.bind (Option.bind (m_laws_markState (a9, ()) a10) fun val => some ((val.fst, ()), val.snd, ())) fun val => some ((val.fst.fst, ()), val.snd.fst, ())
theorem eq_laws_markStore (a0 : Int) (a1 : Int) (a2 : Int) (a3 : Int) (a4 : Int) (a5 : Int) (a6 : Int) (a7 : Int) (a8 : Int) (a9 : List (ByteArray × ByteArray × Unit)) (a10 : Int) r (h : m_laws_markStore (a0, a1, a2, (a3, a4, a5, a6, ()), a7, a8, (a9, ()), ()) a10 = some r) : de_laws_markStore a0 a1 a2 a3 a4 a5 a6 a7 a8 a9 a10 = some ((r.1, ()), (r.2, ())) := by
  unfold m_laws_markStore at h
  obtain ⟨⟨k0, x0⟩, e0, h⟩ := Option.bind_eq_some_iff.1 h
  have e0 : markM (.pair .str (.pair .str .unit)) a9 a10 = some (k0, x0) := e0
  cases h
  unfold de_laws_markStore
  have c0 : m_laws_markState (a9, ()) a10 = (some (k0, x0) : Option (Int × (List (ByteArray × ByteArray × Unit)))) := by
    unfold m_laws_markState
    show (markM (.pair .str (.pair .str .unit)) a9 a10).bind _ = _
    rw [e0]
    rfl
  rw [c0]
  simp only [Option.bind_some]
  try rfl
theorem en_laws_markStore (a0 : Int) (a1 : Int) (a2 : Int) (a3 : Int) (a4 : Int) (a5 : Int) (a6 : Int) (a7 : Int) (a8 : Int) (a9 : List (ByteArray × ByteArray × Unit)) (a10 : Int) : evalF Try.prog ta_laws_markStore pa_laws_markStore sg_laws_markStore Try.f14 noL (a0, a1, a2, a3, a4, a5, a6, a7, a8, a9, a10, ()) = de_laws_markStore a0 a1 a2 a3 a4 a5 a6 a7 a8 a9 a10 := by kernel_rfl
theorem si_laws_markStore : SigsOk Try.prog ta_laws_markStore := SigsOk.of fun f sd h => by
  try dsimp only [Tb.of, ta_laws_markStore] at h
  split at h
  · rename_i e; subst e; cases h; exact sn_laws_markState
  cases h
theorem sn_laws_markStore : Callable Try.prog 14 ∧ Sound Try.prog 14 sd_laws_markStore.sg sd_laws_markStore.den :=
  fn_plain (pat := pa_laws_markStore) (by kernel_rfl) si_laws_markStore Try.func14 (by kernel_rfl) (by kernel_rfl) (by kernel_rfl) fun x r h => by
    obtain ⟨a0, a1, a2, a3, a4, a5, a6, a7, a8, a9, a10, ⟨⟩⟩ := x; obtain ⟨y, h1, h2⟩ := Option.bind_eq_some_iff.1 (show (m_laws_markStore (a0, a1, a2, (a3, a4, a5, a6, ()), a7, a8, (a9, ()), ()) a10).bind (fun r => some ((r.1, ()), (r.2, ()))) = some r from h); cases h2; exact (en_laws_markStore a0 a1 a2 a3 a4 a5 a6 a7 a8 a9 a10).trans (eq_laws_markStore a0 a1 a2 a3 a4 a5 a6 a7 a8 a9 a10 _ h1)
end Go.Proofs.Yteaoabdlcefkhaa.V
