/- What the functions that FnExactCompact reaches come to: part 3. No condition. -/
import Derived.Test.YteaoabdlcefkhaaVFnExactCompactb
import Derived.KernelRfl
namespace Go.Proofs.Yteaoabdlcefkhaa.V
open Go Go.Proofs.Yteaoabdlcefkhaa.R Go.Proofs
set_option maxRecDepth 100000
set_option linter.unusedVariables false
set_option linter.unusedSimpArgs false
def m_laws_markOpS (a : List (Bool × Int × ByteArray × Unit)) (k : Int) : Option (Int × (List (Bool × Int × ByteArray × Unit))) := markM (.pair .bool (.pair (.int .i64) (.pair .str .unit))) a k
def sg_laws_markOpS : Sig := ⟨[.mu 57 (.pair .bool (.pair (.int .i64) (.pair .str .unit))), .rd (.int .i64)], [none, none], [.rd (.int .i64)], [none]⟩
noncomputable def sd_laws_markOpS : SD := ⟨sg_laws_markOpS, fun x => (m_laws_markOpS x.1 x.2.1).bind fun r => some ((r.1, ()), (r.2, ()))⟩
noncomputable def ta_laws_markOpS : Tb := Tb.of fun f => if f = 130 then some sd_laws_markText else none
def pa_laws_markOpS : Nat → Pat × (Nat → Pat) := fun k => if k = 3 then (⟨[], [(0, .lf (.row 0)), (1, .lf (.d (.int .i64))), (5, .lf (.d (.int .i64)))], [.row 57 (.pair .bool (.pair (.int .i64) (.pair .str .unit)))]⟩, fun e => if e = 2 then ⟨[], [(1, .lf (.d (.int .i64)))], [.row 57 (.pair .bool (.pair (.int .i64) (.pair .str .unit)))]⟩ else ⟨[], [], []⟩) else (⟨[], [], []⟩, fun _ => ⟨[], [], []⟩)
noncomputable def co_laws_markOpS_3 : Code := (loopsIn (bodyOf Try.f58)).getD 0 .skip
def fu_laws_markOpS_3 (v1 : Int) (v5 : Int) (r0 : List (Bool × Int × ByteArray × Unit)) : Nat := ((r0.length : Int) - v5).toNat + 1
noncomputable def tr_laws_markOpS_3 {R : Type}  (NX : ((Int) × (Int) × (List (Bool × Int × ByteArray × Unit)) × Unit) → Option R) (X2 : ((Int) × (List (Bool × Int × ByteArray × Unit)) × Unit) → Option R) (v1 : Int) (v5 : Int) (r0 : List (Bool × Int × ByteArray × Unit)) : Option R :=
  bif decide (v5 < nI (List.length r0)) then
    bif decide (0 ≤ v5) then
      bif decide (v5 < nI (List.length r0)) then
        bif decide (Int.toNat v5 < List.length r0) then
          bif decide (0 ≤ v5) then
            bif
                decide
                  (v5 <
                    nI
                      (List.length
                        (List.set r0 (Int.toNat v5)
                          (Int.tmod v1 3 == 0, (List.getD r0 (Int.toNat v5) (false, 0, ByteArray.mk #[], ())).snd.fst, (List.getD r0 (Int.toNat v5) (false, 0, ByteArray.mk #[], ())).snd.snd.fst,
                            ())))) then
              bif
                  decide
                    (Int.toNat v5 <
                      List.length
                        (List.set r0 (Int.toNat v5)
                          (Int.tmod v1 3 == 0, (List.getD r0 (Int.toNat v5) (false, 0, ByteArray.mk #[], ())).snd.fst, (List.getD r0 (Int.toNat v5) (false, 0, ByteArray.mk #[], ())).snd.snd.fst,
                            ()))) then
                Option.bind (Option.bind (m_laws_markText (IntKind.wrap IntKind.i64 (IntKind.wrap IntKind.i64 (v1 + 1) + 1))) fun val => some ((val, ()), ())) fun val =>
                  bif decide (0 ≤ v5) then
                    bif
                        decide
                          (v5 <
                            nI
                              (List.length
                                (List.set
                                  (List.set r0 (Int.toNat v5)
                                    (Int.tmod v1 3 == 0, (List.getD r0 (Int.toNat v5) (false, 0, ByteArray.mk #[], ())).snd.fst,
                                      (List.getD r0 (Int.toNat v5) (false, 0, ByteArray.mk #[], ())).snd.snd.fst, ()))
                                  (Int.toNat v5)
                                  ((List.getD
                                        (List.set r0 (Int.toNat v5)
                                          (Int.tmod v1 3 == 0, (List.getD r0 (Int.toNat v5) (false, 0, ByteArray.mk #[], ())).snd.fst,
                                            (List.getD r0 (Int.toNat v5) (false, 0, ByteArray.mk #[], ())).snd.snd.fst, ()))
                                        (Int.toNat v5) (false, 0, ByteArray.mk #[], ())).fst,
                                    IntKind.wrap IntKind.i64 (v1 + 1),
                                    (List.getD
                                            (List.set r0 (Int.toNat v5)
                                              (Int.tmod v1 3 == 0, (List.getD r0 (Int.toNat v5) (false, 0, ByteArray.mk #[], ())).snd.fst,
                                                (List.getD r0 (Int.toNat v5) (false, 0, ByteArray.mk #[], ())).snd.snd.fst, ()))
                                            (Int.toNat v5) (false, 0, ByteArray.mk #[], ())).snd.snd.fst,
                                    ())))) then
                      bif
                          decide
                            (Int.toNat v5 <
                              List.length
                                (List.set
                                  (List.set r0 (Int.toNat v5)
                                    (Int.tmod v1 3 == 0, (List.getD r0 (Int.toNat v5) (false, 0, ByteArray.mk #[], ())).snd.fst,
                                      (List.getD r0 (Int.toNat v5) (false, 0, ByteArray.mk #[], ())).snd.snd.fst, ()))
                                  (Int.toNat v5)
                                  ((List.getD
                                        (List.set r0 (Int.toNat v5)
                                          (Int.tmod v1 3 == 0, (List.getD r0 (Int.toNat v5) (false, 0, ByteArray.mk #[], ())).snd.fst,
                                            (List.getD r0 (Int.toNat v5) (false, 0, ByteArray.mk #[], ())).snd.snd.fst, ()))
                                        (Int.toNat v5) (false, 0, ByteArray.mk #[], ())).fst,
                                    IntKind.wrap IntKind.i64 (v1 + 1),
                                    (List.getD
                                            (List.set r0 (Int.toNat v5)
                                              (Int.tmod v1 3 == 0, (List.getD r0 (Int.toNat v5) (false, 0, ByteArray.mk #[], ())).snd.fst,
                                                (List.getD r0 (Int.toNat v5) (false, 0, ByteArray.mk #[], ())).snd.snd.fst, ()))
                                            (Int.toNat v5) (false, 0, ByteArray.mk #[], ())).snd.snd.fst,
                                    ()))) then
                        NX
                          (IntKind.wrap IntKind.i64 (IntKind.wrap IntKind.i64 (IntKind.wrap IntKind.i64 (v1 + 1) + 1) + 1), IntKind.wrap IntKind.i64 (v5 + 1),
                            List.set
                              (List.set
                                (List.set r0 (Int.toNat v5)
                                  (Int.tmod v1 3 == 0, (List.getD r0 (Int.toNat v5) (false, 0, ByteArray.mk #[], ())).snd.fst, (List.getD r0 (Int.toNat v5) (false, 0, ByteArray.mk #[], ())).snd.snd.fst,
                                    ()))
                                (Int.toNat v5)
                                ((List.getD
                                      (List.set r0 (Int.toNat v5)
                                        (Int.tmod v1 3 == 0, (List.getD r0 (Int.toNat v5) (false, 0, ByteArray.mk #[], ())).snd.fst,
                                          (List.getD r0 (Int.toNat v5) (false, 0, ByteArray.mk #[], ())).snd.snd.fst, ()))
                                      (Int.toNat v5) (false, 0, ByteArray.mk #[], ())).fst,
                                  IntKind.wrap IntKind.i64 (v1 + 1),
                                  (List.getD
                                          (List.set r0 (Int.toNat v5)
                                            (Int.tmod v1 3 == 0, (List.getD r0 (Int.toNat v5) (false, 0, ByteArray.mk #[], ())).snd.fst,
                                              (List.getD r0 (Int.toNat v5) (false, 0, ByteArray.mk #[], ())).snd.snd.fst, ()))
                                          (Int.toNat v5) (false, 0, ByteArray.mk #[], ())).snd.snd.fst,
                                  ()))
                              (Int.toNat v5)
                              ((List.getD
                                    (List.set
                                      (List.set r0 (Int.toNat v5)
                                        (Int.tmod v1 3 == 0, (List.getD r0 (Int.toNat v5) (false, 0, ByteArray.mk #[], ())).snd.fst,
                                          (List.getD r0 (Int.toNat v5) (false, 0, ByteArray.mk #[], ())).snd.snd.fst, ()))
                                      (Int.toNat v5)
                                      ((List.getD
                                            (List.set r0 (Int.toNat v5)
                                              (Int.tmod v1 3 == 0, (List.getD r0 (Int.toNat v5) (false, 0, ByteArray.mk #[], ())).snd.fst,
                                                (List.getD r0 (Int.toNat v5) (false, 0, ByteArray.mk #[], ())).snd.snd.fst, ()))
                                            (Int.toNat v5) (false, 0, ByteArray.mk #[], ())).fst,
                                        IntKind.wrap IntKind.i64 (v1 + 1),
                                        (List.getD
                                                (List.set r0 (Int.toNat v5)
                                                  (Int.tmod v1 3 == 0, (List.getD r0 (Int.toNat v5) (false, 0, ByteArray.mk #[], ())).snd.fst,
                                                    (List.getD r0 (Int.toNat v5) (false, 0, ByteArray.mk #[], ())).snd.snd.fst, ()))
                                                (Int.toNat v5) (false, 0, ByteArray.mk #[], ())).snd.snd.fst,
                                        ()))
                                    (Int.toNat v5) (false, 0, ByteArray.mk #[], ())).fst,
                                (List.getD
                                      (List.set
                                        (List.set r0 (Int.toNat v5)
                                          (Int.tmod v1 3 == 0, (List.getD r0 (Int.toNat v5) (false, 0, ByteArray.mk #[], ())).snd.fst,
                                            (List.getD r0 (Int.toNat v5) (false, 0, ByteArray.mk #[], ())).snd.snd.fst, ()))
                                        (Int.toNat v5)
                                        ((List.getD
                                              (List.set r0 (Int.toNat v5)
                                                (Int.tmod v1 3 == 0, (List.getD r0 (Int.toNat v5) (false, 0, ByteArray.mk #[], ())).snd.fst,
                                                  (List.getD r0 (Int.toNat v5) (false, 0, ByteArray.mk #[], ())).snd.snd.fst, ()))
                                              (Int.toNat v5) (false, 0, ByteArray.mk #[], ())).fst,
                                          IntKind.wrap IntKind.i64 (v1 + 1),
                                          (List.getD
                                                  (List.set r0 (Int.toNat v5)
                                                    (Int.tmod v1 3 == 0, (List.getD r0 (Int.toNat v5) (false, 0, ByteArray.mk #[], ())).snd.fst,
                                                      (List.getD r0 (Int.toNat v5) (false, 0, ByteArray.mk #[], ())).snd.snd.fst, ()))
                                                  (Int.toNat v5) (false, 0, ByteArray.mk #[], ())).snd.snd.fst,
                                          ()))
                                      (Int.toNat v5) (false, 0, ByteArray.mk #[], ())).snd.fst,
                                val.fst.fst, ()),
                            ())
                      else none
                    else none
                  else none
              else none
            else none
          else none
        else none
      else none
    else none
  else X2 (v1, r0, ())
noncomputable def lo_laws_markOpS_3 : Nat → (Int) → (Int) → (List (Bool × Int × ByteArray × Unit)) →  Option ((Int) × (List (Bool × Int × ByteArray × Unit)) × Unit)
  | 0, _, _, _ => none
  | m + 1, v1, v5, r0 => tr_laws_markOpS_3  (fun d => lo_laws_markOpS_3 m d.1 d.2.1 d.2.2.1) (fun d => some (d)) v1 v5 r0
theorem na_laws_markOpS_3 {R S : Type}  (NX : ((Int) × (Int) × (List (Bool × Int × ByteArray × Unit)) × Unit) → Option R) (X2 : ((Int) × (List (Bool × Int × ByteArray × Unit)) × Unit) → Option R) (v1 : Int) (v5 : Int) (r0 : List (Bool × Int × ByteArray × Unit)) (f : R → Option S) : tr_laws_markOpS_3  (fun d => (NX d).bind f) (fun d => (X2 d).bind f) v1 v5 r0 = (tr_laws_markOpS_3  NX X2 v1 v5 r0).bind f := by
  unfold tr_laws_markOpS_3
  simp only [cond_bind, ite_bind, onSum_bind, Option.bind_assoc, Option.bind_none, Option.bind_some]
noncomputable def de_laws_markOpS (a0 : List (Bool × Int × ByteArray × Unit)) (a1 : Int) : Option ((((Int) × Unit) × ((List (Bool × Int × ByteArray × Unit)) × Unit))) :=
  Option.bind ((fun d => lo_laws_markOpS_3 (fu_laws_markOpS_3 d.1 d.2.1 d.2.2.1) d.1 d.2.1 d.2.2.1) (a1, 0, a0, ())) fun val => some ((val.fst, ()), val.snd.fst, ())
theorem eq_laws_markOpS (a0 : List (Bool × Int × ByteArray × Unit)) (a1 : Int) r (h : m_laws_markOpS a0 a1 = some r) : de_laws_markOpS a0 a1 = some ((r.1, ()), (r.2, ())) := by
  obtain ⟨g0, g1, hl0, rfl⟩ := markM_some (t := (.pair .bool (.pair (.int .i64) (.pair .str .unit)))) h
  have hl : a0.length ≤ 1125899906842624 := hl0
  have hEE : (fun k : Int => (show Bool × Int × ByteArray × Unit from (mkE (.pair .bool (.pair (.int .i64) (.pair .str .unit))) k).1)) = (fun k : Int => (decide ((k) % 3 = 0), k + 1, mkT (k + 2), ())) := funext fun k => by
    show (decide ((k) % 3 = 0), k + 1, mkT (k + 1 + 1), ()) = (decide ((k) % 3 = 0), k + 1, mkT (k + 2), ())
    try simp only [Int.add_assoc, Int.add_zero]
    try rfl
  show _ = some ((a1 + (a0.length : Int) * 3, ()), (gL (fun k : Int => (show Bool × Int × ByteArray × Unit from (mkE (.pair .bool (.pair (.int .i64) (.pair .str .unit))) k).1)) 3 a0.length a1, ()))
  rw [hEE]
  unfold de_laws_markOpS
  have hL := mark_loop (fun k : Int => (decide ((k) % 3 = 0), k + 1, mkT (k + 2), ())) 3 (n := a0.length) (K := 36028797018963000) (g := fun m k i r => lo_laws_markOpS_3 m k i r) (ok := fun k r => (k, r, ())) (fun m i k r hi hr h1 hK => by
    show lo_laws_markOpS_3 (m + 1) k i r = _
    have hK1 : k + 3 ≤ 36028797018963000 := by
      have : (1 : Int) ≤ (a0.length - i : Nat) := by omega
      omega
    rw [show lo_laws_markOpS_3 (m + 1) k i r = lo_laws_markOpS_3 (m + 1) (k + 0) i r from by rw [Int.add_zero]]
    have k0 : k = k + 0 := (Int.add_zero k).symm
    have t2 : m_laws_markText (k + 2) = some (mkT (k + 2)) := if_pos (by omega)
    have w0 : IntKind.wrap IntKind.i64 (k + 0 + 1) = k + 1 := by rw [wrap_ok (by omega) (by omega)]; omega
    have w1 : IntKind.wrap IntKind.i64 (k + 1 + 1) = k + 2 := by rw [wrap_ok (by omega) (by omega)]; omega
    have w2 : IntKind.wrap IntKind.i64 (k + 2 + 1) = k + 3 := by rw [wrap_ok (by omega) (by omega)]; omega
    have u0 : (Int.tmod (k + 0) 3 == 0) = decide ((k + 0) % 3 = 0) := tmod3 (by omega)
    have hir : i < r.length := by omega
    simp only [lo_laws_markOpS_3, tr_laws_markOpS_3]
    simp only [t2,  Option.bind_some, w0, w1, w2, u0,  List.length_set, List.set_set, cLt hir, cLe0, cLtN hir, wI (show i < 4611686018427387904 by omega), cond_true, Int.toNat_natCast, getD_set hir]
    first | rfl | (rw [Int.add_zero]; rfl) | (simp only [Int.add_zero]; rfl)) (fun m k r hr => by
    show lo_laws_markOpS_3 (m + 1) k a0.length r = _
    simp only [lo_laws_markOpS_3, tr_laws_markOpS_3, hr]
    rw [cLtF]
    rfl) (fu_laws_markOpS_3 a1 0 a0) 0 a1 a0 (by omega) (by simp [fu_laws_markOpS_3]) rfl g0 (by omega)
  have hL' : lo_laws_markOpS_3 (fu_laws_markOpS_3 a1 0 a0) a1 0 a0 = _ := hL
  show (lo_laws_markOpS_3 (fu_laws_markOpS_3 a1 0 a0) a1 0 a0).bind _ = _
  rw [hL']
  rfl
noncomputable def ou_laws_markOpS_3 {R : Type} (k : Kt R) : ((Int) × (List (Bool × Int × ByteArray × Unit)) × Unit) → Option R := (fun d => k (.exit 0) (((pa_laws_markOpS 3).2 2).st d) (((pa_laws_markOpS 3).2 2).nid))
noncomputable def L_laws_markOpS {R : Type} : Lt R pa_laws_markOpS := (addL (pat := pa_laws_markOpS) 3 (fun d k => (lo_laws_markOpS_3 (fu_laws_markOpS_3 d.1 d.2.1 d.2.2.1) d.1 d.2.1 d.2.2.1).bind (ou_laws_markOpS_3 k)) noL)
theorem rd_laws_markOpS_3 {R : Type} (nx : (pa_laws_markOpS 3).1.D → Kt R → Option R) (k : Kt R) (v1 : Int) (v5 : Int) (r0 : List (Bool × Int × ByteArray × Unit)) : ev Try.prog ⟨ta_laws_markOpS, 1, 37, pa_laws_markOpS⟩ L_laws_markOpS co_laws_markOpS_3 ((pa_laws_markOpS 3).1.st (v1, v5, r0, ())) (pa_laws_markOpS 3).1.nid (roundK 1 (pa_laws_markOpS 3) nx k) = tr_laws_markOpS_3  (fun d => nx d k) (fun d => k (.exit 0) (((pa_laws_markOpS 3).2 2).st d) (((pa_laws_markOpS 3).2 2).nid)) v1 v5 r0 := by kernel_rfl
theorem lp_laws_markOpS_3 {R : Type} : ∀ (m : Nat) (d : (pa_laws_markOpS 3).1.D) (k : Kt R), loopN 1 (pa_laws_markOpS 3) (fun s nid k => ev Try.prog ⟨ta_laws_markOpS, 1, 37, pa_laws_markOpS⟩ L_laws_markOpS co_laws_markOpS_3 s nid k) m d k = (lo_laws_markOpS_3 m d.1 d.2.1 d.2.2.1).bind (ou_laws_markOpS_3 k)
  | 0, _, _ => rfl
  | m + 1, ⟨v1, v5, r0, ⟨⟩⟩, k => (rd_laws_markOpS_3 _ k v1 v5 r0).trans ((congrArg (fun F => tr_laws_markOpS_3  F (fun d => k (.exit 0) (((pa_laws_markOpS 3).2 2).st d) (((pa_laws_markOpS 3).2 2).nid)) v1 v5 r0) (funext fun d => lp_laws_markOpS_3 m d k)).trans (na_laws_markOpS_3 (f := ou_laws_markOpS_3 k)  (fun d => lo_laws_markOpS_3 m d.1 d.2.1 d.2.2.1) (fun d => some (d)) v1 v5 r0))
theorem en_laws_markOpS (a0 : List (Bool × Int × ByteArray × Unit)) (a1 : Int) : evalF Try.prog ta_laws_markOpS pa_laws_markOpS sg_laws_markOpS Try.f58 L_laws_markOpS (a0, a1, ()) = de_laws_markOpS a0 a1 := by kernel_rfl
theorem si_laws_markOpS : SigsOk Try.prog ta_laws_markOpS := SigsOk.of fun f sd h => by
  try dsimp only [Tb.of, ta_laws_markOpS] at h
  split at h
  · rename_i e; subst e; cases h; exact sn_laws_markText
  cases h
theorem lk_laws_markOpS_3 {R : Type} : LoopOk Try.prog R 37 1 pa_laws_markOpS L_laws_markOpS co_laws_markOpS_3 :=
  loop_key (cfg := ⟨ta_laws_markOpS, 1, 37, pa_laws_markOpS⟩) (key := 3) (by kernel_rfl) (by kernel_rfl) si_laws_markOpS rfl rfl (fun d k r h => ⟨fu_laws_markOpS_3 d.1 d.2.1 d.2.2.1, (lp_laws_markOpS_3 _ d k).trans h⟩) (fun c hc => by rw [show loopsIn co_laws_markOpS_3 = [] from by kernel_rfl] at hc; cases hc)
theorem sn_laws_markOpS : Callable Try.prog 58 ∧ Sound Try.prog 58 sd_laws_markOpS.sg sd_laws_markOpS.den :=
  fn_loops (pat := pa_laws_markOpS) L_laws_markOpS (by kernel_rfl) si_laws_markOpS Try.func58 (by kernel_rfl) (by kernel_rfl) (fun c hc => by rw [show loopsIn (bodyOf Try.f58) = [co_laws_markOpS_3] from by kernel_rfl] at hc; simp only [List.mem_cons, List.not_mem_nil, or_false] at hc; rcases hc with rfl <;> first | exact lk_laws_markOpS_3) fun x r h => by
    obtain ⟨a0, a1, ⟨⟩⟩ := x; obtain ⟨y, h1, h2⟩ := Option.bind_eq_some_iff.1 (show (m_laws_markOpS a0 a1).bind (fun r => some ((r.1, ()), (r.2, ()))) = some r from h); cases h2; exact (en_laws_markOpS a0 a1).trans (eq_laws_markOpS a0 a1 _ h1)
def m_laws_markDone (a : Int × (Int × Int × Int × (Int × Int × Int × Int × Unit) × Int × Int × ((List (ByteArray × ByteArray × Unit)) × Unit) × Unit) × (List (Bool × Int × ByteArray × Unit)) × Unit) (k : Int) : Option (Int × (List (ByteArray × ByteArray × Unit)) × (List (Bool × Int × ByteArray × Unit))) := (markM (.pair .str (.pair .str .unit)) a.2.1.2.2.2.2.2.2.1.1 k).bind fun r0 => (markM (.pair .bool (.pair (.int .i64) (.pair .str .unit))) a.2.2.1 r0.1).bind fun r1 =>  some (r1.1, r0.2, r1.2)
def sg_laws_markDone : Sig := ⟨[.rd (.int .i64), .rd (.int .i64), .rd (.int .i64), .rd (.int .i64), .rd (.int .i64), .rd (.int .i64), .rd (.int .i64), .rd (.int .i64), .rd (.int .i64), .rd (.int .i64), .mu 151 (.pair .str (.pair .str .unit)), .mu 57 (.pair .bool (.pair (.int .i64) (.pair .str .unit))), .rd (.int .i64)], [some 12, none], [.rd (.int .i64)], [none]⟩
noncomputable def sd_laws_markDone : SD := ⟨sg_laws_markDone, fun x => (m_laws_markDone (x.1, (x.2.1, x.2.2.1, x.2.2.2.1, (x.2.2.2.2.1, x.2.2.2.2.2.1, x.2.2.2.2.2.2.1, x.2.2.2.2.2.2.2.1, ()), x.2.2.2.2.2.2.2.2.1, x.2.2.2.2.2.2.2.2.2.1, (x.2.2.2.2.2.2.2.2.2.2.1, ()), ()), x.2.2.2.2.2.2.2.2.2.2.2.1, ()) x.2.2.2.2.2.2.2.2.2.2.2.2.1).bind fun r => some ((r.1, ()), (r.2.1, r.2.2, ()))⟩
noncomputable def ta_laws_markDone : Tb := Tb.of fun f => if f = 14 then some sd_laws_markStore else if f = 58 then some sd_laws_markOpS else none
def pa_laws_markDone : Nat → Pat × (Nat → Pat) := fun k => (⟨[], [], []⟩, fun _ => ⟨[], [], []⟩)
noncomputable def de_laws_markDone (a0 : Int) (a1 : Int) (a2 : Int) (a3 : Int) (a4 : Int) (a5 : Int) (a6 : Int) (a7 : Int) (a8 : Int) (a9 : Int) (a10 : List (ByteArray × ByteArray × Unit)) (a11 : List (Bool × Int × ByteArray × Unit)) (a12 : Int) : Option ((((Int) × Unit) × ((List (ByteArray × ByteArray × Unit)) × (List (Bool × Int × ByteArray × Unit)) × Unit))) :=
  Option.bind (Option.bind (m_laws_markStore (a1, a2, a3, (a4, a5, a6, a7, ()), a8, a9, (a10, ()), ()) a12) fun val => some ((val.fst, ()), val.snd, ())) fun val =>
    Option.bind (Option.bind (m_laws_markOpS a11 val.fst.fst) fun val => some ((val.fst, ()), val.snd, ())) fun val_1 => some ((val_1.fst.fst, ()), val.snd.fst, val_1.snd.fst, ())
theorem eq_laws_markDone (a0 : Int) (a1 : Int) (a2 : Int) (a3 : Int) (a4 : Int) (a5 : Int) (a6 : Int) (a7 : Int) (a8 : Int) (a9 : Int) (a10 : List (ByteArray × ByteArray × Unit)) (a11 : List (Bool × Int × ByteArray × Unit)) (a12 : Int) r (h : m_laws_markDone (a0, (a1, a2, a3, (a4, a5, a6, a7, ()), a8, a9, (a10, ()), ()), a11, ()) a12 = some r) : de_laws_markDone a0 a1 a2 a3 a4 a5 a6 a7 a8 a9 a10 a11 a12 = some ((r.1, ()), (r.2.1, r.2.2, ())) := by
  unfold m_laws_markDone at h
  obtain ⟨⟨k0, x0⟩, e0, h⟩ := Option.bind_eq_some_iff.1 h
  have e0 : markM (.pair .str (.pair .str .unit)) a10 a12 = some (k0, x0) := e0
  obtain ⟨⟨k1, x1⟩, e1, h⟩ := Option.bind_eq_some_iff.1 h
  have e1 : markM (.pair .bool (.pair (.int .i64) (.pair .str .unit))) a11 k0 = some (k1, x1) := e1
  cases h
  unfold de_laws_markDone
  have c0 : m_laws_markStore (a1, a2, a3, (a4, a5, a6, a7, ()), a8, a9, (a10, ()), ()) a12 = (some (k0, x0) : Option (Int × (List (ByteArray × ByteArray × Unit)))) := by
    unfold m_laws_markStore
    show (markM (.pair .str (.pair .str .unit)) a10 a12).bind _ = _
    rw [e0]
    rfl
  rw [c0]
  simp only [Option.bind_some]
  have c1 : m_laws_markOpS a11 k0 = (some (k1, x1) : Option (Int × (List (Bool × Int × ByteArray × Unit)))) := e1
  rw [c1]
  simp only [Option.bind_some]
  try rfl
theorem en_laws_markDone (a0 : Int) (a1 : Int) (a2 : Int) (a3 : Int) (a4 : Int) (a5 : Int) (a6 : Int) (a7 : Int) (a8 : Int) (a9 : Int) (a10 : List (ByteArray × ByteArray × Unit)) (a11 : List (Bool × Int × ByteArray × Unit)) (a12 : Int) : evalF Try.prog ta_laws_markDone pa_laws_markDone sg_laws_markDone Try.f15 noL (a0, a1, a2, a3, a4, a5, a6, a7, a8, a9, a10, a11, a12, ()) = de_laws_markDone a0 a1 a2 a3 a4 a5 a6 a7 a8 a9 a10 a11 a12 := by kernel_rfl
theorem si_laws_markDone : SigsOk Try.prog ta_laws_markDone := SigsOk.of fun f sd h => by
  try dsimp only [Tb.of, ta_laws_markDone] at h
  split at h
  · rename_i e; subst e; cases h; exact sn_laws_markStore
  split at h
  · rename_i e; subst e; cases h; exact sn_laws_markOpS
  cases h
theorem sn_laws_markDone : Callable Try.prog 15 ∧ Sound Try.prog 15 sd_laws_markDone.sg sd_laws_markDone.den :=
  fn_plain (pat := pa_laws_markDone) (by kernel_rfl) si_laws_markDone Try.func15 (by kernel_rfl) (by kernel_rfl) (by kernel_rfl) fun x r h => by
    obtain ⟨a0, a1, a2, a3, a4, a5, a6, a7, a8, a9, a10, a11, a12, ⟨⟩⟩ := x; obtain ⟨y, h1, h2⟩ := Option.bind_eq_some_iff.1 (show (m_laws_markDone (a0, (a1, a2, a3, (a4, a5, a6, a7, ()), a8, a9, (a10, ()), ()), a11, ()) a12).bind (fun r => some ((r.1, ()), (r.2.1, r.2.2, ()))) = some r from h); cases h2; exact (en_laws_markDone a0 a1 a2 a3 a4 a5 a6 a7 a8 a9 a10 a11 a12).trans (eq_laws_markDone a0 a1 a2 a3 a4 a5 a6 a7 a8 a9 a10 a11 a12 _ h1)
def m_laws_heldPairS (a : List (ByteArray × ByteArray × Unit)) (k : Int) : Option Int := heldM (.pair .str (.pair .str .unit)) a k
def sg_laws_heldPairS : Sig := ⟨[.rd (.sl (.pair .str (.pair .str .unit))), .rd (.int .i64)], [none, none], [.rd (.int .i64)], [none]⟩
noncomputable def sd_laws_heldPairS : SD := ⟨sg_laws_heldPairS, fun x => (m_laws_heldPairS x.1 x.2.1).bind fun r => some ((r, ()), (()))⟩
noncomputable def ta_laws_heldPairS : Tb := Tb.of fun f => if f = 130 then some sd_laws_markText else none
def pa_laws_heldPairS : Nat → Pat × (Nat → Pat) := fun k => if k = 3 then (⟨[.sl 0 0 (.pair .str (.pair .str .unit))], [(0, .lf (.d (.sl (.pair .str (.pair .str .unit))))), (1, .lf (.d (.int .i64))), (5, .lf (.d (.int .i64)))], []⟩, fun e => if e = 1 then ⟨[], [(4, .lf (.d (.int .i64)))], []⟩ else if e = 2 then ⟨[], [(1, .lf (.d (.int .i64)))], []⟩ else ⟨[], [], []⟩) else (⟨[], [], []⟩, fun _ => ⟨[], [], []⟩)
noncomputable def co_laws_heldPairS_3 : Code := (loopsIn (bodyOf Try.f166)).getD 0 .skip
def fu_laws_heldPairS_3 (v0 : List (ByteArray × ByteArray × Unit)) (v1 : Int) (v5 : Int) : Nat := ((v0.length : Int) - v5).toNat + 1
noncomputable def tr_laws_heldPairS_3 {R : Type}  (NX : ((List (ByteArray × ByteArray × Unit)) × (Int) × (Int) × Unit) → Option R) (X2 : ((Int) × Unit) → Option R) (X1 : ((Int) × Unit) → Option R) (v0 : List (ByteArray × ByteArray × Unit)) (v1 : Int) (v5 : Int) : Option R :=
  bif decide (v5 < nI (List.length v0)) then
    bif decide (0 ≤ v5) then
      bif decide (v5 < nI (List.length v0)) then
        Option.bind (Option.bind (m_laws_markText v1) fun val => some ((val, ()), ())) fun val =>
          bif !ByteArray.toList (List.getD v0 (Int.toNat v5) (ByteArray.mk #[], ByteArray.mk #[], ())).fst == ByteArray.toList val.fst.fst then X1 (-1, ())
          else
            bif decide (0 ≤ v5) then
              bif decide (v5 < nI (List.length v0)) then
                Option.bind (Option.bind (m_laws_markText (IntKind.wrap IntKind.i64 (v1 + 1))) fun val => some ((val, ()), ())) fun val =>
                  bif !ByteArray.toList (List.getD v0 (Int.toNat v5) (ByteArray.mk #[], ByteArray.mk #[], ())).snd.fst == ByteArray.toList val.fst.fst then X1 (-1, ())
                  else NX (v0, IntKind.wrap IntKind.i64 (IntKind.wrap IntKind.i64 (v1 + 1) + 1), IntKind.wrap IntKind.i64 (v5 + 1), ())
              else none
            else none
      else none
    else none
  else X2 (v1, ())
noncomputable def lo_laws_heldPairS_3 : Nat → (List (ByteArray × ByteArray × Unit)) → (Int) → (Int) →  Option (((Int) × Unit) ⊕ ((Int) × Unit))
  | 0, _, _, _ => none
  | m + 1, v0, v1, v5 => tr_laws_heldPairS_3  (fun d => lo_laws_heldPairS_3 m d.1 d.2.1 d.2.2.1) (fun d => some (.inl (d))) (fun d => some (.inr (d))) v0 v1 v5
theorem na_laws_heldPairS_3 {R S : Type}  (NX : ((List (ByteArray × ByteArray × Unit)) × (Int) × (Int) × Unit) → Option R) (X2 : ((Int) × Unit) → Option R) (X1 : ((Int) × Unit) → Option R) (v0 : List (ByteArray × ByteArray × Unit)) (v1 : Int) (v5 : Int) (f : R → Option S) : tr_laws_heldPairS_3  (fun d => (NX d).bind f) (fun d => (X2 d).bind f) (fun d => (X1 d).bind f) v0 v1 v5 = (tr_laws_heldPairS_3  NX X2 X1 v0 v1 v5).bind f := by
  unfold tr_laws_heldPairS_3
  simp only [cond_bind, ite_bind, onSum_bind, Option.bind_assoc, Option.bind_none, Option.bind_some]
noncomputable def de_laws_heldPairS (a0 : List (ByteArray × ByteArray × Unit)) (a1 : Int) : Option ((((Int) × Unit) × (Unit))) :=
  Option.bind ((fun d => lo_laws_heldPairS_3 (fu_laws_heldPairS_3 d.1 d.2.1 d.2.2.1) d.1 d.2.1 d.2.2.1) (a0, a1, 0, ())) fun val => onSum (fun val => some ((val.fst, ()), ())) (fun val => some ((val.fst, ()), ())) val
theorem eq_laws_heldPairS (a0 : List (ByteArray × ByteArray × Unit)) (a1 : Int) r (h : m_laws_heldPairS a0 a1 = some r) : de_laws_heldPairS a0 a1 = some ((r, ()), (())) := by
  obtain ⟨g0, g1, hl0, rfl⟩ := heldM_some (t := (.pair .str (.pair .str .unit))) h
  have hl : a0.length ≤ 1125899906842624 := hl0
  have hEE : (fun k : Int => (show ByteArray × ByteArray × Unit from (mkE (.pair .str (.pair .str .unit)) k).1)) = (fun k : Int => (mkT (k), mkT (k + 1), ())) := funext fun k => by
    show (mkT (k), mkT (k + 1), ()) = (mkT (k), mkT (k + 1), ())
    try simp only [Int.add_assoc, Int.add_zero]
    try rfl
  show _ = some ((if eqL (α := ByteArray × ByteArray × Unit) (fun x y : ByteArray × ByteArray × Unit => eqB (.pair .str (.pair .str .unit)) x y) a0 (gL (fun k : Int => (show ByteArray × ByteArray × Unit from (mkE (.pair .str (.pair .str .unit)) k).1)) 2 a0.length a1) = true then a1 + (a0.length : Int) * 2 else -1, ()), ())
  rw [hEE]
  unfold de_laws_heldPairS
  have hL := held_loop (xs := a0) ((ByteArray.mk #[]), (ByteArray.mk #[]), ()) (fun x y : ByteArray × ByteArray × Unit => eqB (.pair .str (.pair .str .unit)) x y) (fun k : Int => (mkT (k), mkT (k + 1), ())) 2 (K := 36028797018963000) (g := fun m k i => lo_laws_heldPairS_3 m a0 k i) (ok := fun k => .inl (k, ())) (bad := .inr (-1, ())) (fun m i k hi h1 hK => by
    show lo_laws_heldPairS_3 (m + 1) a0 k i = bif (fun x y : ByteArray × ByteArray × Unit => eqB (.pair .str (.pair .str .unit)) x y) (List.getD (α := ByteArray × ByteArray × Unit) a0 i ((ByteArray.mk #[]), (ByteArray.mk #[]), ())) ((fun k : Int => (mkT (k), mkT (k + 1), ())) k) then lo_laws_heldPairS_3 m a0 (k + 2) ((i + 1 : Nat) : Int) else _
    have hK1 : k + 2 ≤ 36028797018963000 := by
      have : (1 : Int) ≤ (a0.length - i : Nat) := by omega
      omega
    have hE : (fun x y : ByteArray × ByteArray × Unit => eqB (.pair .str (.pair .str .unit)) x y) (List.getD (α := ByteArray × ByteArray × Unit) a0 i ((ByteArray.mk #[]), (ByteArray.mk #[]), ())) ((fun k : Int => (mkT (k), mkT (k + 1), ())) k) = (eqS (List.getD (α := ByteArray × ByteArray × Unit) a0 i ((ByteArray.mk #[]), (ByteArray.mk #[]), ())).1 (mkT (k + 0)) && (eqS (List.getD (α := ByteArray × ByteArray × Unit) a0 i ((ByteArray.mk #[]), (ByteArray.mk #[]), ())).2.1 (mkT (k + 1)) && true)) := by
      try simp only [Int.add_zero]
      try rfl
    rw [hE, show lo_laws_heldPairS_3 (m + 1) a0 k i = lo_laws_heldPairS_3 (m + 1) a0 (k + 0) i from by rw [Int.add_zero]]
    have k0 : k = k + 0 := (Int.add_zero k).symm
    have t0 : m_laws_markText (k + 0) = some (mkT (k + 0)) := if_pos (by omega)
    have t1 : m_laws_markText (k + 1) = some (mkT (k + 1)) := if_pos (by omega)
    have w0 : IntKind.wrap IntKind.i64 (k + 0 + 1) = k + 1 := by rw [wrap_ok (by omega) (by omega)]; omega
    have w1 : IntKind.wrap IntKind.i64 (k + 1 + 1) = k + 2 := by rw [wrap_ok (by omega) (by omega)]; omega
    have v0 : (!(ByteArray.toList (List.getD (α := ByteArray × ByteArray × Unit) a0 i ((ByteArray.mk #[]), (ByteArray.mk #[]), ())).1 == ByteArray.toList (mkT (k + 0)))) = !eqS (List.getD (α := ByteArray × ByteArray × Unit) a0 i ((ByteArray.mk #[]), (ByteArray.mk #[]), ())).1 (mkT (k + 0)) := rfl
    have v1 : (!(ByteArray.toList (List.getD (α := ByteArray × ByteArray × Unit) a0 i ((ByteArray.mk #[]), (ByteArray.mk #[]), ())).2.1 == ByteArray.toList (mkT (k + 1)))) = !eqS (List.getD (α := ByteArray × ByteArray × Unit) a0 i ((ByteArray.mk #[]), (ByteArray.mk #[]), ())).2.1 (mkT (k + 1)) := rfl
    simp only [lo_laws_heldPairS_3, tr_laws_heldPairS_3]
    simp only [t0, t1,  Option.bind_some, w0, w1,  cLt hi, cLe0, wI (show i < 4611686018427387904 by omega), cond_true, Int.toNat_natCast, v0, v1]
    generalize eqS (List.getD (α := ByteArray × ByteArray × Unit) a0 i ((ByteArray.mk #[]), (ByteArray.mk #[]), ())).1 (mkT (k + 0)) = p0
    generalize eqS (List.getD (α := ByteArray × ByteArray × Unit) a0 i ((ByteArray.mk #[]), (ByteArray.mk #[]), ())).2.1 (mkT (k + 1)) = p1
    cases p0 <;> cases p1 <;> rfl) (fun m k => by
    show lo_laws_heldPairS_3 (m + 1) a0 k a0.length = _
    simp only [lo_laws_heldPairS_3, tr_laws_heldPairS_3]
    rw [cLtF]
    rfl) (fu_laws_heldPairS_3 a0 a1 0) 0 a1 (by omega) (by simp [fu_laws_heldPairS_3]) g0 (by omega)
  have hL' : lo_laws_heldPairS_3 (fu_laws_heldPairS_3 a0 a1 0) a0 a1 0 = _ := hL
  show (lo_laws_heldPairS_3 (fu_laws_heldPairS_3 a0 a1 0) a0 a1 0).bind _ = some ((if eqL (α := ByteArray × ByteArray × Unit) (fun x y : ByteArray × ByteArray × Unit => eqB (.pair .str (.pair .str .unit)) x y) a0 (gL (fun k : Int => (mkT (k), mkT (k + 1), ())) 2 a0.length a1) = true then a1 + (a0.length : Int) * 2 else -1, ()), ())
  rw [hL', List.drop_zero]
  cases eqL (α := ByteArray × ByteArray × Unit) (fun x y : ByteArray × ByteArray × Unit => eqB (.pair .str (.pair .str .unit)) x y) a0 (gL (fun k : Int => (mkT (k), mkT (k + 1), ())) 2 a0.length a1) <;> rfl
noncomputable def ou_laws_heldPairS_3 {R : Type} (k : Kt R) : (((Int) × Unit) ⊕ ((Int) × Unit)) → Option R := (onSum (fun d => k (.exit 0) (((pa_laws_heldPairS 3).2 2).st d) (((pa_laws_heldPairS 3).2 2).nid)) (fun d => k .ret (((pa_laws_heldPairS 3).2 1).st d) (((pa_laws_heldPairS 3).2 1).nid)))
noncomputable def L_laws_heldPairS {R : Type} : Lt R pa_laws_heldPairS := (addL (pat := pa_laws_heldPairS) 3 (fun d k => (lo_laws_heldPairS_3 (fu_laws_heldPairS_3 d.1 d.2.1 d.2.2.1) d.1 d.2.1 d.2.2.1).bind (ou_laws_heldPairS_3 k)) noL)
theorem rd_laws_heldPairS_3 {R : Type} (nx : (pa_laws_heldPairS 3).1.D → Kt R → Option R) (k : Kt R) (v0 : List (ByteArray × ByteArray × Unit)) (v1 : Int) (v5 : Int) : ev Try.prog ⟨ta_laws_heldPairS, 0, 33, pa_laws_heldPairS⟩ L_laws_heldPairS co_laws_heldPairS_3 ((pa_laws_heldPairS 3).1.st (v0, v1, v5, ())) (pa_laws_heldPairS 3).1.nid (roundK 0 (pa_laws_heldPairS 3) nx k) = tr_laws_heldPairS_3  (fun d => nx d k) (fun d => k (.exit 0) (((pa_laws_heldPairS 3).2 2).st d) (((pa_laws_heldPairS 3).2 2).nid)) (fun d => k .ret (((pa_laws_heldPairS 3).2 1).st d) (((pa_laws_heldPairS 3).2 1).nid)) v0 v1 v5 := by kernel_rfl
theorem lp_laws_heldPairS_3 {R : Type} : ∀ (m : Nat) (d : (pa_laws_heldPairS 3).1.D) (k : Kt R), loopN 0 (pa_laws_heldPairS 3) (fun s nid k => ev Try.prog ⟨ta_laws_heldPairS, 0, 33, pa_laws_heldPairS⟩ L_laws_heldPairS co_laws_heldPairS_3 s nid k) m d k = (lo_laws_heldPairS_3 m d.1 d.2.1 d.2.2.1).bind (ou_laws_heldPairS_3 k)
  | 0, _, _ => rfl
  | m + 1, ⟨v0, v1, v5, ⟨⟩⟩, k => (rd_laws_heldPairS_3 _ k v0 v1 v5).trans ((congrArg (fun F => tr_laws_heldPairS_3  F (fun d => k (.exit 0) (((pa_laws_heldPairS 3).2 2).st d) (((pa_laws_heldPairS 3).2 2).nid)) (fun d => k .ret (((pa_laws_heldPairS 3).2 1).st d) (((pa_laws_heldPairS 3).2 1).nid)) v0 v1 v5) (funext fun d => lp_laws_heldPairS_3 m d k)).trans (na_laws_heldPairS_3 (f := ou_laws_heldPairS_3 k)  (fun d => lo_laws_heldPairS_3 m d.1 d.2.1 d.2.2.1) (fun d => some (.inl (d))) (fun d => some (.inr (d))) v0 v1 v5))
theorem en_laws_heldPairS (a0 : List (ByteArray × ByteArray × Unit)) (a1 : Int) : evalF Try.prog ta_laws_heldPairS pa_laws_heldPairS sg_laws_heldPairS Try.f166 L_laws_heldPairS (a0, a1, ()) = de_laws_heldPairS a0 a1 := by kernel_rfl
theorem si_laws_heldPairS : SigsOk Try.prog ta_laws_heldPairS := SigsOk.of fun f sd h => by
  try dsimp only [Tb.of, ta_laws_heldPairS] at h
  split at h
  · rename_i e; subst e; cases h; exact sn_laws_markText
  cases h
theorem lk_laws_heldPairS_3 {R : Type} : LoopOk Try.prog R 33 0 pa_laws_heldPairS L_laws_heldPairS co_laws_heldPairS_3 :=
  loop_key (cfg := ⟨ta_laws_heldPairS, 0, 33, pa_laws_heldPairS⟩) (key := 3) (by kernel_rfl) (by kernel_rfl) si_laws_heldPairS rfl rfl (fun d k r h => ⟨fu_laws_heldPairS_3 d.1 d.2.1 d.2.2.1, (lp_laws_heldPairS_3 _ d k).trans h⟩) (fun c hc => by rw [show loopsIn co_laws_heldPairS_3 = [] from by kernel_rfl] at hc; cases hc)
theorem sn_laws_heldPairS : Callable Try.prog 166 ∧ Sound Try.prog 166 sd_laws_heldPairS.sg sd_laws_heldPairS.den :=
  fn_loops (pat := pa_laws_heldPairS) L_laws_heldPairS (by kernel_rfl) si_laws_heldPairS Try.func166 (by kernel_rfl) (by kernel_rfl) (fun c hc => by rw [show loopsIn (bodyOf Try.f166) = [co_laws_heldPairS_3] from by kernel_rfl] at hc; simp only [List.mem_cons, List.not_mem_nil, or_false] at hc; rcases hc with rfl <;> first | exact lk_laws_heldPairS_3) fun x r h => by
    obtain ⟨a0, a1, ⟨⟩⟩ := x; obtain ⟨y, h1, h2⟩ := Option.bind_eq_some_iff.1 (show (m_laws_heldPairS a0 a1).bind (fun r => some ((r, ()), (()))) = some r from h); cases h2; exact (en_laws_heldPairS a0 a1).trans (eq_laws_heldPairS a0 a1 _ h1)
def m_laws_heldState (a : (List (ByteArray × ByteArray × Unit)) × Unit) (k : Int) : Option Int := (heldM (.pair .str (.pair .str .unit)) a.1 k).bind fun r0 =>  some (if r0 < 0 then -1 else r0)
def sg_laws_heldState : Sig := ⟨[.rd (.pair (.sl (.pair .str (.pair .str .unit))) .unit), .rd (.int .i64)], [some 1, none], [.rd (.int .i64)], [none]⟩
noncomputable def sd_laws_heldState : SD := ⟨sg_laws_heldState, fun x => (m_laws_heldState x.1 x.2.1).bind fun r => some ((r, ()), (()))⟩
noncomputable def ta_laws_heldState : Tb := Tb.of fun f => if f = 166 then some sd_laws_heldPairS else none
def pa_laws_heldState : Nat → Pat × (Nat → Pat) := fun k => (⟨[], [], []⟩, fun _ => ⟨[], [], []⟩)
noncomputable def de_laws_heldState (a0 : (List (ByteArray × ByteArray × Unit)) × Unit) (a1 : Int) : Option ((((Int) × Unit) × (Unit))) :=
  Option.bind (Option.bind (m_laws_heldPairS a0.fst a1) fun val => some ((val, ()), ())) fun val => bif decide (val.fst.fst < 0) then some ((-1, ()), ()) else some ((val.fst.fst, ()), ())
theorem eq_laws_heldState (a0 : (List (ByteArray × ByteArray × Unit)) × Unit) (a1 : Int) r (h : m_laws_heldState a0 a1 = some r) : de_laws_heldState a0 a1 = some ((r, ()), (())) := by
  unfold m_laws_heldState at h
  unfold de_laws_heldState
  obtain ⟨r0, e0, h⟩ := Option.bind_eq_some_iff.1 h
  have e0 : heldM (.pair .str (.pair .str .unit)) a0.1 a1 = some r0 := e0
  simp only [m_laws_heldPairS]
  simp only [e0, Option.bind_some]
  by_cases q0 : r0 < 0
  · simp only [if_pos q0] at h; cases h; simp only [if_pos q0, decide_eq_true q0, cond_true, show decide ((-1 : Int) < 0) = true from rfl]
  · simp only [if_neg q0] at h; cases h; simp only [if_neg q0, decide_eq_false q0, cond_false]
theorem en_laws_heldState (a0 : (List (ByteArray × ByteArray × Unit)) × Unit) (a1 : Int) : evalF Try.prog ta_laws_heldState pa_laws_heldState sg_laws_heldState Try.f131 noL (a0, a1, ()) = de_laws_heldState a0 a1 := by kernel_rfl
theorem si_laws_heldState : SigsOk Try.prog ta_laws_heldState := SigsOk.of fun f sd h => by
  try dsimp only [Tb.of, ta_laws_heldState] at h
  split at h
  · rename_i e; subst e; cases h; exact sn_laws_heldPairS
  cases h
theorem sn_laws_heldState : Callable Try.prog 131 ∧ Sound Try.prog 131 sd_laws_heldState.sg sd_laws_heldState.den :=
  fn_plain (pat := pa_laws_heldState) (by kernel_rfl) si_laws_heldState Try.func131 (by kernel_rfl) (by kernel_rfl) (by kernel_rfl) fun x r h => by
    obtain ⟨a0, a1, ⟨⟩⟩ := x; obtain ⟨y, h1, h2⟩ := Option.bind_eq_some_iff.1 (show (m_laws_heldState a0 a1).bind (fun r => some ((r, ()), (()))) = some r from h); cases h2; exact (en_laws_heldState a0 a1).trans (eq_laws_heldState a0 a1 _ h1)
def m_laws_heldStore (a : Int × Int × Int × (Int × Int × Int × Int × Unit) × Int × Int × ((List (ByteArray × ByteArray × Unit)) × Unit) × Unit) (k : Int) : Option Int := (heldM (.pair .str (.pair .str .unit)) a.2.2.2.2.2.2.1.1 k).bind fun r0 =>  some (if r0 < 0 then -1 else r0)
def sg_laws_heldStore : Sig := ⟨[.rd (.pair (.int .i64) (.pair (.int .i64) (.pair (.int .i64) (.pair (.pair (.int .i64) (.pair (.int .i64) (.pair (.int .i64) (.pair (.int .i64) .unit)))) (.pair (.int .i64) (.pair (.int .i64) (.pair (.pair (.sl (.pair .str (.pair .str .unit))) .unit) .unit))))))), .rd (.int .i64)], [some 10, none], [.rd (.int .i64)], [none]⟩
noncomputable def sd_laws_heldStore : SD := ⟨sg_laws_heldStore, fun x => (m_laws_heldStore x.1 x.2.1).bind fun r => some ((r, ()), (()))⟩
noncomputable def ta_laws_heldStore : Tb := Tb.of fun f => if f = 131 then some sd_laws_heldState else none
def pa_laws_heldStore : Nat → Pat × (Nat → Pat) := fun k => (⟨[], [], []⟩, fun _ => ⟨[], [], []⟩)
noncomputable def de_laws_heldStore (a0 : Int × Int × Int × (Int × Int × Int × Int × Unit) × Int × Int × ((List (ByteArray × ByteArray × Unit)) × Unit) × Unit) (a1 : Int) : Option ((((Int) × Unit) × (Unit))) :=
  Option.bind (Option.bind (m_laws_heldState (a0.snd.snd.snd.snd.snd.snd.fst.fst, ()) a1) fun val => some ((val, ()), ())) fun val =>
    bif decide (val.fst.fst < 0) then some ((-1, ()), ()) else some ((val.fst.fst, ()), ())
theorem eq_laws_heldStore (a0 : Int × Int × Int × (Int × Int × Int × Int × Unit) × Int × Int × ((List (ByteArray × ByteArray × Unit)) × Unit) × Unit) (a1 : Int) r (h : m_laws_heldStore a0 a1 = some r) : de_laws_heldStore a0 a1 = some ((r, ()), (())) := by
  unfold m_laws_heldStore at h
  unfold de_laws_heldStore
  obtain ⟨r0, e0, h⟩ := Option.bind_eq_some_iff.1 h
  have e0 : heldM (.pair .str (.pair .str .unit)) a0.2.2.2.2.2.2.1.1 a1 = some r0 := e0
  simp only [m_laws_heldState]
  simp only [e0, Option.bind_some]
  by_cases q0 : r0 < 0
  · simp only [if_pos q0] at h; cases h; simp only [if_pos q0, decide_eq_true q0, cond_true, show decide ((-1 : Int) < 0) = true from rfl]
  · simp only [if_neg q0] at h; cases h; simp only [if_neg q0, decide_eq_false q0, cond_false]
theorem en_laws_heldStore (a0 : Int × Int × Int × (Int × Int × Int × Int × Unit) × Int × Int × ((List (ByteArray × ByteArray × Unit)) × Unit) × Unit) (a1 : Int) : evalF Try.prog ta_laws_heldStore pa_laws_heldStore sg_laws_heldStore Try.f59 noL (a0, a1, ()) = de_laws_heldStore a0 a1 := by kernel_rfl
theorem si_laws_heldStore : SigsOk Try.prog ta_laws_heldStore := SigsOk.of fun f sd h => by
  try dsimp only [Tb.of, ta_laws_heldStore] at h
  split at h
  · rename_i e; subst e; cases h; exact sn_laws_heldState
  cases h
theorem sn_laws_heldStore : Callable Try.prog 59 ∧ Sound Try.prog 59 sd_laws_heldStore.sg sd_laws_heldStore.den :=
  fn_plain (pat := pa_laws_heldStore) (by kernel_rfl) si_laws_heldStore Try.func59 (by kernel_rfl) (by kernel_rfl) (by kernel_rfl) fun x r h => by
    obtain ⟨a0, a1, ⟨⟩⟩ := x; obtain ⟨y, h1, h2⟩ := Option.bind_eq_some_iff.1 (show (m_laws_heldStore a0 a1).bind (fun r => some ((r, ()), (()))) = some r from h); cases h2; exact (en_laws_heldStore a0 a1).trans (eq_laws_heldStore a0 a1 _ h1)
def m_laws_heldOpS (a : List (Bool × Int × ByteArray × Unit)) (k : Int) : Option Int := heldM (.pair .bool (.pair (.int .i64) (.pair .str .unit))) a k
def sg_laws_heldOpS : Sig := ⟨[.rd (.sl (.pair .bool (.pair (.int .i64) (.pair .str .unit)))), .rd (.int .i64)], [none, none], [.rd (.int .i64)], [none]⟩
noncomputable def sd_laws_heldOpS : SD := ⟨sg_laws_heldOpS, fun x => (m_laws_heldOpS x.1 x.2.1).bind fun r => some ((r, ()), (()))⟩
noncomputable def ta_laws_heldOpS : Tb := Tb.of fun f => if f = 130 then some sd_laws_markText else none
def pa_laws_heldOpS : Nat → Pat × (Nat → Pat) := fun k => if k = 3 then (⟨[.sl 0 0 (.pair .bool (.pair (.int .i64) (.pair .str .unit)))], [(0, .lf (.d (.sl (.pair .bool (.pair (.int .i64) (.pair .str .unit)))))), (1, .lf (.d (.int .i64))), (5, .lf (.d (.int .i64)))], []⟩, fun e => if e = 1 then ⟨[], [(4, .lf (.d (.int .i64)))], []⟩ else if e = 2 then ⟨[], [(1, .lf (.d (.int .i64)))], []⟩ else ⟨[], [], []⟩) else (⟨[], [], []⟩, fun _ => ⟨[], [], []⟩)
noncomputable def co_laws_heldOpS_3 : Code := (loopsIn (bodyOf Try.f60)).getD 0 .skip
def fu_laws_heldOpS_3 (v0 : List (Bool × Int × ByteArray × Unit)) (v1 : Int) (v5 : Int) : Nat := ((v0.length : Int) - v5).toNat + 1
noncomputable def tr_laws_heldOpS_3 {R : Type}  (NX : ((List (Bool × Int × ByteArray × Unit)) × (Int) × (Int) × Unit) → Option R) (X2 : ((Int) × Unit) → Option R) (X1 : ((Int) × Unit) → Option R) (v0 : List (Bool × Int × ByteArray × Unit)) (v1 : Int) (v5 : Int) : Option R :=
  bif decide (v5 < nI (List.length v0)) then
    bif decide (0 ≤ v5) then
      bif decide (v5 < nI (List.length v0)) then
        bif !(List.getD v0 (Int.toNat v5) (false, 0, ByteArray.mk #[], ())).fst == (Int.tmod v1 3 == 0) then X1 (-1, ())
        else
          bif decide (0 ≤ v5) then
            bif decide (v5 < nI (List.length v0)) then
              bif (List.getD v0 (Int.toNat v5) (false, 0, ByteArray.mk #[], ())).snd.fst != IntKind.wrap IntKind.i64 (v1 + 1) then X1 (-1, ())
              else
                bif decide (0 ≤ v5) then
                  bif decide (v5 < nI (List.length v0)) then
                    Option.bind (Option.bind (m_laws_markText (IntKind.wrap IntKind.i64 (IntKind.wrap IntKind.i64 (v1 + 1) + 1))) fun val => some ((val, ()), ())) fun val =>
                      bif !ByteArray.toList (List.getD v0 (Int.toNat v5) (false, 0, ByteArray.mk #[], ())).snd.snd.fst == ByteArray.toList val.fst.fst then X1 (-1, ())
                      else NX (v0, IntKind.wrap IntKind.i64 (IntKind.wrap IntKind.i64 (IntKind.wrap IntKind.i64 (v1 + 1) + 1) + 1), IntKind.wrap IntKind.i64 (v5 + 1), ())
                  else none
                else none
            else none
          else none
      else none
    else none
  else X2 (v1, ())
noncomputable def lo_laws_heldOpS_3 : Nat → (List (Bool × Int × ByteArray × Unit)) → (Int) → (Int) →  Option (((Int) × Unit) ⊕ ((Int) × Unit))
  | 0, _, _, _ => none
  | m + 1, v0, v1, v5 => tr_laws_heldOpS_3  (fun d => lo_laws_heldOpS_3 m d.1 d.2.1 d.2.2.1) (fun d => some (.inl (d))) (fun d => some (.inr (d))) v0 v1 v5
theorem na_laws_heldOpS_3 {R S : Type}  (NX : ((List (Bool × Int × ByteArray × Unit)) × (Int) × (Int) × Unit) → Option R) (X2 : ((Int) × Unit) → Option R) (X1 : ((Int) × Unit) → Option R) (v0 : List (Bool × Int × ByteArray × Unit)) (v1 : Int) (v5 : Int) (f : R → Option S) : tr_laws_heldOpS_3  (fun d => (NX d).bind f) (fun d => (X2 d).bind f) (fun d => (X1 d).bind f) v0 v1 v5 = (tr_laws_heldOpS_3  NX X2 X1 v0 v1 v5).bind f := by
  unfold tr_laws_heldOpS_3
  simp only [cond_bind, ite_bind, onSum_bind, Option.bind_assoc, Option.bind_none, Option.bind_some]
noncomputable def de_laws_heldOpS (a0 : List (Bool × Int × ByteArray × Unit)) (a1 : Int) : Option ((((Int) × Unit) × (Unit))) :=
  Option.bind ((fun d => lo_laws_heldOpS_3 (fu_laws_heldOpS_3 d.1 d.2.1 d.2.2.1) d.1 d.2.1 d.2.2.1) (a0, a1, 0, ())) fun val => onSum (fun val => some ((val.fst, ()), ())) (fun val => some ((val.fst, ()), ())) val
theorem eq_laws_heldOpS (a0 : List (Bool × Int × ByteArray × Unit)) (a1 : Int) r (h : m_laws_heldOpS a0 a1 = some r) : de_laws_heldOpS a0 a1 = some ((r, ()), (())) := by
  obtain ⟨g0, g1, hl0, rfl⟩ := heldM_some (t := (.pair .bool (.pair (.int .i64) (.pair .str .unit)))) h
  have hl : a0.length ≤ 1125899906842624 := hl0
  have hEE : (fun k : Int => (show Bool × Int × ByteArray × Unit from (mkE (.pair .bool (.pair (.int .i64) (.pair .str .unit))) k).1)) = (fun k : Int => (decide ((k) % 3 = 0), k + 1, mkT (k + 2), ())) := funext fun k => by
    show (decide ((k) % 3 = 0), k + 1, mkT (k + 1 + 1), ()) = (decide ((k) % 3 = 0), k + 1, mkT (k + 2), ())
    try simp only [Int.add_assoc, Int.add_zero]
    try rfl
  show _ = some ((if eqL (α := Bool × Int × ByteArray × Unit) (fun x y : Bool × Int × ByteArray × Unit => eqB (.pair .bool (.pair (.int .i64) (.pair .str .unit))) x y) a0 (gL (fun k : Int => (show Bool × Int × ByteArray × Unit from (mkE (.pair .bool (.pair (.int .i64) (.pair .str .unit))) k).1)) 3 a0.length a1) = true then a1 + (a0.length : Int) * 3 else -1, ()), ())
  rw [hEE]
  unfold de_laws_heldOpS
  have hL := held_loop (xs := a0) (false, 0, (ByteArray.mk #[]), ()) (fun x y : Bool × Int × ByteArray × Unit => eqB (.pair .bool (.pair (.int .i64) (.pair .str .unit))) x y) (fun k : Int => (decide ((k) % 3 = 0), k + 1, mkT (k + 2), ())) 3 (K := 36028797018963000) (g := fun m k i => lo_laws_heldOpS_3 m a0 k i) (ok := fun k => .inl (k, ())) (bad := .inr (-1, ())) (fun m i k hi h1 hK => by
    show lo_laws_heldOpS_3 (m + 1) a0 k i = bif (fun x y : Bool × Int × ByteArray × Unit => eqB (.pair .bool (.pair (.int .i64) (.pair .str .unit))) x y) (List.getD (α := Bool × Int × ByteArray × Unit) a0 i (false, 0, (ByteArray.mk #[]), ())) ((fun k : Int => (decide ((k) % 3 = 0), k + 1, mkT (k + 2), ())) k) then lo_laws_heldOpS_3 m a0 (k + 3) ((i + 1 : Nat) : Int) else _
    have hK1 : k + 3 ≤ 36028797018963000 := by
      have : (1 : Int) ≤ (a0.length - i : Nat) := by omega
      omega
    have hE : (fun x y : Bool × Int × ByteArray × Unit => eqB (.pair .bool (.pair (.int .i64) (.pair .str .unit))) x y) (List.getD (α := Bool × Int × ByteArray × Unit) a0 i (false, 0, (ByteArray.mk #[]), ())) ((fun k : Int => (decide ((k) % 3 = 0), k + 1, mkT (k + 2), ())) k) = (eqO (List.getD (α := Bool × Int × ByteArray × Unit) a0 i (false, 0, (ByteArray.mk #[]), ())).1 (decide ((k + 0) % 3 = 0)) && (eqI (List.getD (α := Bool × Int × ByteArray × Unit) a0 i (false, 0, (ByteArray.mk #[]), ())).2.1 (k + 1) && (eqS (List.getD (α := Bool × Int × ByteArray × Unit) a0 i (false, 0, (ByteArray.mk #[]), ())).2.2.1 (mkT (k + 2)) && true))) := by
      try simp only [Int.add_zero]
      try rfl
    rw [hE, show lo_laws_heldOpS_3 (m + 1) a0 k i = lo_laws_heldOpS_3 (m + 1) a0 (k + 0) i from by rw [Int.add_zero]]
    have k0 : k = k + 0 := (Int.add_zero k).symm
    have t2 : m_laws_markText (k + 2) = some (mkT (k + 2)) := if_pos (by omega)
    have w0 : IntKind.wrap IntKind.i64 (k + 0 + 1) = k + 1 := by rw [wrap_ok (by omega) (by omega)]; omega
    have w1 : IntKind.wrap IntKind.i64 (k + 1 + 1) = k + 2 := by rw [wrap_ok (by omega) (by omega)]; omega
    have w2 : IntKind.wrap IntKind.i64 (k + 2 + 1) = k + 3 := by rw [wrap_ok (by omega) (by omega)]; omega
    have u0 : (Int.tmod (k + 0) 3 == 0) = decide ((k + 0) % 3 = 0) := tmod3 (by omega)
    have v0 : (!((List.getD (α := Bool × Int × ByteArray × Unit) a0 i (false, 0, (ByteArray.mk #[]), ())).1 == decide ((k + 0) % 3 = 0))) = !eqO (List.getD (α := Bool × Int × ByteArray × Unit) a0 i (false, 0, (ByteArray.mk #[]), ())).1 (decide ((k + 0) % 3 = 0)) := rfl
    have v1 : ((List.getD (α := Bool × Int × ByteArray × Unit) a0 i (false, 0, (ByteArray.mk #[]), ())).2.1 != k + 1) = !eqI (List.getD (α := Bool × Int × ByteArray × Unit) a0 i (false, 0, (ByteArray.mk #[]), ())).2.1 (k + 1) := bneI _ _
    have v2 : (!(ByteArray.toList (List.getD (α := Bool × Int × ByteArray × Unit) a0 i (false, 0, (ByteArray.mk #[]), ())).2.2.1 == ByteArray.toList (mkT (k + 2)))) = !eqS (List.getD (α := Bool × Int × ByteArray × Unit) a0 i (false, 0, (ByteArray.mk #[]), ())).2.2.1 (mkT (k + 2)) := rfl
    simp only [lo_laws_heldOpS_3, tr_laws_heldOpS_3]
    simp only [t2,  Option.bind_some, w0, w1, w2, u0,  cLt hi, cLe0, wI (show i < 4611686018427387904 by omega), cond_true, Int.toNat_natCast, v0, v1, v2]
    generalize eqO (List.getD (α := Bool × Int × ByteArray × Unit) a0 i (false, 0, (ByteArray.mk #[]), ())).1 (decide ((k + 0) % 3 = 0)) = p0
    generalize eqI (List.getD (α := Bool × Int × ByteArray × Unit) a0 i (false, 0, (ByteArray.mk #[]), ())).2.1 (k + 1) = p1
    generalize eqS (List.getD (α := Bool × Int × ByteArray × Unit) a0 i (false, 0, (ByteArray.mk #[]), ())).2.2.1 (mkT (k + 2)) = p2
    cases p0 <;> cases p1 <;> cases p2 <;> rfl) (fun m k => by
    show lo_laws_heldOpS_3 (m + 1) a0 k a0.length = _
    simp only [lo_laws_heldOpS_3, tr_laws_heldOpS_3]
    rw [cLtF]
    rfl) (fu_laws_heldOpS_3 a0 a1 0) 0 a1 (by omega) (by simp [fu_laws_heldOpS_3]) g0 (by omega)
  have hL' : lo_laws_heldOpS_3 (fu_laws_heldOpS_3 a0 a1 0) a0 a1 0 = _ := hL
  show (lo_laws_heldOpS_3 (fu_laws_heldOpS_3 a0 a1 0) a0 a1 0).bind _ = some ((if eqL (α := Bool × Int × ByteArray × Unit) (fun x y : Bool × Int × ByteArray × Unit => eqB (.pair .bool (.pair (.int .i64) (.pair .str .unit))) x y) a0 (gL (fun k : Int => (decide ((k) % 3 = 0), k + 1, mkT (k + 2), ())) 3 a0.length a1) = true then a1 + (a0.length : Int) * 3 else -1, ()), ())
  rw [hL', List.drop_zero]
  cases eqL (α := Bool × Int × ByteArray × Unit) (fun x y : Bool × Int × ByteArray × Unit => eqB (.pair .bool (.pair (.int .i64) (.pair .str .unit))) x y) a0 (gL (fun k : Int => (decide ((k) % 3 = 0), k + 1, mkT (k + 2), ())) 3 a0.length a1) <;> rfl
noncomputable def ou_laws_heldOpS_3 {R : Type} (k : Kt R) : (((Int) × Unit) ⊕ ((Int) × Unit)) → Option R := (onSum (fun d => k (.exit 0) (((pa_laws_heldOpS 3).2 2).st d) (((pa_laws_heldOpS 3).2 2).nid)) (fun d => k .ret (((pa_laws_heldOpS 3).2 1).st d) (((pa_laws_heldOpS 3).2 1).nid)))
noncomputable def L_laws_heldOpS {R : Type} : Lt R pa_laws_heldOpS := (addL (pat := pa_laws_heldOpS) 3 (fun d k => (lo_laws_heldOpS_3 (fu_laws_heldOpS_3 d.1 d.2.1 d.2.2.1) d.1 d.2.1 d.2.2.1).bind (ou_laws_heldOpS_3 k)) noL)
theorem rd_laws_heldOpS_3 {R : Type} (nx : (pa_laws_heldOpS 3).1.D → Kt R → Option R) (k : Kt R) (v0 : List (Bool × Int × ByteArray × Unit)) (v1 : Int) (v5 : Int) : ev Try.prog ⟨ta_laws_heldOpS, 0, 43, pa_laws_heldOpS⟩ L_laws_heldOpS co_laws_heldOpS_3 ((pa_laws_heldOpS 3).1.st (v0, v1, v5, ())) (pa_laws_heldOpS 3).1.nid (roundK 0 (pa_laws_heldOpS 3) nx k) = tr_laws_heldOpS_3  (fun d => nx d k) (fun d => k (.exit 0) (((pa_laws_heldOpS 3).2 2).st d) (((pa_laws_heldOpS 3).2 2).nid)) (fun d => k .ret (((pa_laws_heldOpS 3).2 1).st d) (((pa_laws_heldOpS 3).2 1).nid)) v0 v1 v5 := by kernel_rfl
theorem lp_laws_heldOpS_3 {R : Type} : ∀ (m : Nat) (d : (pa_laws_heldOpS 3).1.D) (k : Kt R), loopN 0 (pa_laws_heldOpS 3) (fun s nid k => ev Try.prog ⟨ta_laws_heldOpS, 0, 43, pa_laws_heldOpS⟩ L_laws_heldOpS co_laws_heldOpS_3 s nid k) m d k = (lo_laws_heldOpS_3 m d.1 d.2.1 d.2.2.1).bind (ou_laws_heldOpS_3 k)
  | 0, _, _ => rfl
  | m + 1, ⟨v0, v1, v5, ⟨⟩⟩, k => (rd_laws_heldOpS_3 _ k v0 v1 v5).trans ((congrArg (fun F => tr_laws_heldOpS_3  F (fun d => k (.exit 0) (((pa_laws_heldOpS 3).2 2).st d) (((pa_laws_heldOpS 3).2 2).nid)) (fun d => k .ret (((pa_laws_heldOpS 3).2 1).st d) (((pa_laws_heldOpS 3).2 1).nid)) v0 v1 v5) (funext fun d => lp_laws_heldOpS_3 m d k)).trans (na_laws_heldOpS_3 (f := ou_laws_heldOpS_3 k)  (fun d => lo_laws_heldOpS_3 m d.1 d.2.1 d.2.2.1) (fun d => some (.inl (d))) (fun d => some (.inr (d))) v0 v1 v5))
theorem en_laws_heldOpS (a0 : List (Bool × Int × ByteArray × Unit)) (a1 : Int) : evalF Try.prog ta_laws_heldOpS pa_laws_heldOpS sg_laws_heldOpS Try.f60 L_laws_heldOpS (a0, a1, ()) = de_laws_heldOpS a0 a1 := by kernel_rfl
theorem si_laws_heldOpS : SigsOk Try.prog ta_laws_heldOpS := SigsOk.of fun f sd h => by
  try dsimp only [Tb.of, ta_laws_heldOpS] at h
  split at h
  · rename_i e; subst e; cases h; exact sn_laws_markText
  cases h
theorem lk_laws_heldOpS_3 {R : Type} : LoopOk Try.prog R 43 0 pa_laws_heldOpS L_laws_heldOpS co_laws_heldOpS_3 :=
  loop_key (cfg := ⟨ta_laws_heldOpS, 0, 43, pa_laws_heldOpS⟩) (key := 3) (by kernel_rfl) (by kernel_rfl) si_laws_heldOpS rfl rfl (fun d k r h => ⟨fu_laws_heldOpS_3 d.1 d.2.1 d.2.2.1, (lp_laws_heldOpS_3 _ d k).trans h⟩) (fun c hc => by rw [show loopsIn co_laws_heldOpS_3 = [] from by kernel_rfl] at hc; cases hc)
theorem sn_laws_heldOpS : Callable Try.prog 60 ∧ Sound Try.prog 60 sd_laws_heldOpS.sg sd_laws_heldOpS.den :=
  fn_loops (pat := pa_laws_heldOpS) L_laws_heldOpS (by kernel_rfl) si_laws_heldOpS Try.func60 (by kernel_rfl) (by kernel_rfl) (fun c hc => by rw [show loopsIn (bodyOf Try.f60) = [co_laws_heldOpS_3] from by kernel_rfl] at hc; simp only [List.mem_cons, List.not_mem_nil, or_false] at hc; rcases hc with rfl <;> first | exact lk_laws_heldOpS_3) fun x r h => by
    obtain ⟨a0, a1, ⟨⟩⟩ := x; obtain ⟨y, h1, h2⟩ := Option.bind_eq_some_iff.1 (show (m_laws_heldOpS a0 a1).bind (fun r => some ((r, ()), (()))) = some r from h); cases h2; exact (en_laws_heldOpS a0 a1).trans (eq_laws_heldOpS a0 a1 _ h1)
def m_laws_heldDone (a : Int × (Int × Int × Int × (Int × Int × Int × Int × Unit) × Int × Int × ((List (ByteArray × ByteArray × Unit)) × Unit) × Unit) × (List (Bool × Int × ByteArray × Unit)) × Unit) (k : Int) : Option Int := (heldM (.pair .str (.pair .str .unit)) a.2.1.2.2.2.2.2.2.1.1 k).bind fun r0 => if r0 < 0 then some (-1) else (heldM (.pair .bool (.pair (.int .i64) (.pair .str .unit))) a.2.2.1 r0).bind fun r1 =>  some (if r1 < 0 then -1 else r1)
def sg_laws_heldDone : Sig := ⟨[.rd (.pair (.int .i64) (.pair (.pair (.int .i64) (.pair (.int .i64) (.pair (.int .i64) (.pair (.pair (.int .i64) (.pair (.int .i64) (.pair (.int .i64) (.pair (.int .i64) .unit)))) (.pair (.int .i64) (.pair (.int .i64) (.pair (.pair (.sl (.pair .str (.pair .str .unit))) .unit) .unit))))))) (.pair (.sl (.pair .bool (.pair (.int .i64) (.pair .str .unit)))) .unit))), .rd (.int .i64)], [some 12, none], [.rd (.int .i64)], [none]⟩
noncomputable def sd_laws_heldDone : SD := ⟨sg_laws_heldDone, fun x => (m_laws_heldDone x.1 x.2.1).bind fun r => some ((r, ()), (()))⟩
noncomputable def ta_laws_heldDone : Tb := Tb.of fun f => if f = 59 then some sd_laws_heldStore else if f = 60 then some sd_laws_heldOpS else none
def pa_laws_heldDone : Nat → Pat × (Nat → Pat) := fun k => (⟨[], [], []⟩, fun _ => ⟨[], [], []⟩)
noncomputable def de_laws_heldDone (a0 : Int × (Int × Int × Int × (Int × Int × Int × Int × Unit) × Int × Int × ((List (ByteArray × ByteArray × Unit)) × Unit) × Unit) × (List (Bool × Int × ByteArray × Unit)) × Unit) (a1 : Int) : Option ((((Int) × Unit) × (Unit))) :=
  Option.bind
    (Option.bind
      (m_laws_heldStore
        (a0.snd.fst.fst, a0.snd.fst.snd.fst, a0.snd.fst.snd.snd.fst,
          (a0.snd.fst.snd.snd.snd.fst.fst, a0.snd.fst.snd.snd.snd.fst.snd.fst, a0.snd.fst.snd.snd.snd.fst.snd.snd.fst, a0.snd.fst.snd.snd.snd.fst.snd.snd.snd.fst, ()), a0.snd.fst.snd.snd.snd.snd.fst,
          a0.snd.fst.snd.snd.snd.snd.snd.fst, (a0.snd.fst.snd.snd.snd.snd.snd.snd.fst.fst, ()), ())
        a1)
      fun val => some ((val, ()), ()))
    fun val =>
    bif decide (val.fst.fst < 0) then some ((-1, ()), ())
    else
      Option.bind (Option.bind (m_laws_heldOpS a0.snd.snd.fst val.fst.fst) fun val => some ((val, ()), ())) fun val =>
        bif decide (val.fst.fst < 0) then some ((-1, ()), ()) else some ((val.fst.fst, ()), ())
theorem eq_laws_heldDone (a0 : Int × (Int × Int × Int × (Int × Int × Int × Int × Unit) × Int × Int × ((List (ByteArray × ByteArray × Unit)) × Unit) × Unit) × (List (Bool × Int × ByteArray × Unit)) × Unit) (a1 : Int) r (h : m_laws_heldDone a0 a1 = some r) : de_laws_heldDone a0 a1 = some ((r, ()), (())) := by
  unfold m_laws_heldDone at h
  unfold de_laws_heldDone
  obtain ⟨r0, e0, h⟩ := Option.bind_eq_some_iff.1 h
  have e0 : heldM (.pair .str (.pair .str .unit)) a0.2.1.2.2.2.2.2.2.1.1 a1 = some r0 := e0
  simp only [m_laws_heldStore, m_laws_heldOpS]
  simp only [e0, Option.bind_some]
  by_cases q0 : r0 < 0
  · simp only [if_pos q0] at h; cases h; simp only [if_pos q0, decide_eq_true q0, cond_true, show decide ((-1 : Int) < 0) = true from rfl]
  · simp only [if_neg q0] at h; simp only [if_neg q0, decide_eq_false q0, cond_false]
    obtain ⟨r1, e1, h⟩ := Option.bind_eq_some_iff.1 h
    have e1 : heldM (.pair .bool (.pair (.int .i64) (.pair .str .unit))) a0.2.2.1 r0 = some r1 := e1
    simp only [e1, Option.bind_some]
    by_cases q1 : r1 < 0
    · simp only [if_pos q1] at h; cases h; simp only [if_pos q1, decide_eq_true q1, cond_true, show decide ((-1 : Int) < 0) = true from rfl]
    · simp only [if_neg q1] at h; cases h; simp only [if_neg q1, decide_eq_false q1, cond_false]
theorem en_laws_heldDone (a0 : Int × (Int × Int × Int × (Int × Int × Int × Int × Unit) × Int × Int × ((List (ByteArray × ByteArray × Unit)) × Unit) × Unit) × (List (Bool × Int × ByteArray × Unit)) × Unit) (a1 : Int) : evalF Try.prog ta_laws_heldDone pa_laws_heldDone sg_laws_heldDone Try.f16 noL (a0, a1, ()) = de_laws_heldDone a0 a1 := by kernel_rfl
theorem si_laws_heldDone : SigsOk Try.prog ta_laws_heldDone := SigsOk.of fun f sd h => by
  try dsimp only [Tb.of, ta_laws_heldDone] at h
  split at h
  · rename_i e; subst e; cases h; exact sn_laws_heldStore
  split at h
  · rename_i e; subst e; cases h; exact sn_laws_heldOpS
  cases h
theorem sn_laws_heldDone : Callable Try.prog 16 ∧ Sound Try.prog 16 sd_laws_heldDone.sg sd_laws_heldDone.den :=
  fn_plain (pat := pa_laws_heldDone) (by kernel_rfl) si_laws_heldDone Try.func16 (by kernel_rfl) (by kernel_rfl) (by kernel_rfl) fun x r h => by
    obtain ⟨a0, a1, ⟨⟩⟩ := x; obtain ⟨y, h1, h2⟩ := Option.bind_eq_some_iff.1 (show (m_laws_heldDone a0 a1).bind (fun r => some ((r, ()), (()))) = some r from h); cases h2; exact (en_laws_heldDone a0 a1).trans (eq_laws_heldDone a0 a1 _ h1)
def sg_laws_FnExactCompact : Sig := ⟨[.rd (.pair (.int .i64) (.pair (.int .i64) (.pair (.int .i64) (.pair (.pair (.int .i64) (.pair (.int .i64) (.pair (.int .i64) (.pair (.int .i64) .unit)))) (.pair (.int .i64) (.pair (.int .i64) (.pair (.pair (.sl (.pair .str (.pair .str .unit))) .unit) .unit)))))))], [some 10], [.rd .bool], [none]⟩
noncomputable def ta_laws_FnExactCompact : Tb := Tb.of fun f => if f = 8 then some sd_laws_szStore else if f = 9 then some sd_spec_Compact else if f = 10 then some sd_laws_toStore else if f = 11 then some sd_impl_Compact else if f = 12 then some sd_laws_eqDone else if f = 13 then some sd_laws_eqStore else if f = 14 then some sd_laws_markStore else if f = 15 then some sd_laws_markDone else if f = 16 then some sd_laws_heldDone else none
def pa_laws_FnExactCompact : Nat → Pat × (Nat → Pat) := fun k => (⟨[], [], []⟩, fun _ => ⟨[], [], []⟩)
noncomputable def de_laws_FnExactCompact (a0 : Int × Int × Int × (Int × Int × Int × Int × Unit) × Int × Int × ((List (ByteArray × ByteArray × Unit)) × Unit) × Unit) : Option ((((Bool) × Unit) × (Unit))) :=
  Option.bind
    (Option.bind
      (m_laws_szStore
        (a0.fst, a0.snd.fst, a0.snd.snd.fst, (a0.snd.snd.snd.fst.fst, a0.snd.snd.snd.fst.snd.fst, a0.snd.snd.snd.fst.snd.snd.fst, a0.snd.snd.snd.fst.snd.snd.snd.fst, ()), a0.snd.snd.snd.snd.fst,
          a0.snd.snd.snd.snd.snd.fst, (a0.snd.snd.snd.snd.snd.snd.fst.fst, ()), ())
        1048576)
      fun val => some ((val, ()), ()))
    fun val =>
    bif decide (val.fst.fst < 0) then some ((true, ()), ())
    else
      Option.bind
        (Option.bind
          (m_laws_toStore
            (a0.fst, a0.snd.fst, a0.snd.snd.fst, (a0.snd.snd.snd.fst.fst, a0.snd.snd.snd.fst.snd.fst, a0.snd.snd.snd.fst.snd.snd.fst, a0.snd.snd.snd.fst.snd.snd.snd.fst, ()), a0.snd.snd.snd.snd.fst,
              a0.snd.snd.snd.snd.snd.fst, (a0.snd.snd.snd.snd.snd.snd.fst.fst, ()), ()))
          fun val =>
          some
            ((val.fst, val.snd.fst, val.snd.snd.fst, val.snd.snd.snd.fst.fst, val.snd.snd.snd.fst.snd.fst, val.snd.snd.snd.fst.snd.snd.fst, val.snd.snd.snd.fst.snd.snd.snd.fst, val.snd.snd.snd.snd.fst,
                val.snd.snd.snd.snd.snd.fst, val.snd.snd.snd.snd.snd.snd.fst.fst, ()),
              ()))
        fun val =>
        Option.bind
          (Option.bind
            (m_laws_toStore
              (a0.fst, a0.snd.fst, a0.snd.snd.fst, (a0.snd.snd.snd.fst.fst, a0.snd.snd.snd.fst.snd.fst, a0.snd.snd.snd.fst.snd.snd.fst, a0.snd.snd.snd.fst.snd.snd.snd.fst, ()), a0.snd.snd.snd.snd.fst,
                a0.snd.snd.snd.snd.snd.fst, (a0.snd.snd.snd.snd.snd.snd.fst.fst, ()), ()))
            fun val =>
            some
              ((val.fst, val.snd.fst, val.snd.snd.fst, val.snd.snd.snd.fst.fst, val.snd.snd.snd.fst.snd.fst, val.snd.snd.snd.fst.snd.snd.fst, val.snd.snd.snd.fst.snd.snd.snd.fst,
                  val.snd.snd.snd.snd.fst, val.snd.snd.snd.snd.snd.fst, val.snd.snd.snd.snd.snd.snd.fst.fst, ()),
                ()))
          fun val_1 =>
          Option.bind
            (Option.bind
              (m_laws_eqDone
                ((m_impl_Compact
                      (val_1.fst.fst, val_1.fst.snd.fst, val_1.fst.snd.snd.fst,
                        (val_1.fst.snd.snd.snd.fst, val_1.fst.snd.snd.snd.snd.fst, val_1.fst.snd.snd.snd.snd.snd.fst, val_1.fst.snd.snd.snd.snd.snd.snd.fst, ()),
                        val_1.fst.snd.snd.snd.snd.snd.snd.snd.fst, val_1.fst.snd.snd.snd.snd.snd.snd.snd.snd.fst, (val_1.fst.snd.snd.snd.snd.snd.snd.snd.snd.snd.fst, ()), ())).fst,
                  ((m_impl_Compact
                            (val_1.fst.fst, val_1.fst.snd.fst, val_1.fst.snd.snd.fst,
                              (val_1.fst.snd.snd.snd.fst, val_1.fst.snd.snd.snd.snd.fst, val_1.fst.snd.snd.snd.snd.snd.fst, val_1.fst.snd.snd.snd.snd.snd.snd.fst, ()),
                              val_1.fst.snd.snd.snd.snd.snd.snd.snd.fst, val_1.fst.snd.snd.snd.snd.snd.snd.snd.snd.fst, (val_1.fst.snd.snd.snd.snd.snd.snd.snd.snd.snd.fst, ()), ())).snd.fst.fst,
                    (m_impl_Compact
                              (val_1.fst.fst, val_1.fst.snd.fst, val_1.fst.snd.snd.fst,
                                (val_1.fst.snd.snd.snd.fst, val_1.fst.snd.snd.snd.snd.fst, val_1.fst.snd.snd.snd.snd.snd.fst, val_1.fst.snd.snd.snd.snd.snd.snd.fst, ()),
                                val_1.fst.snd.snd.snd.snd.snd.snd.snd.fst, val_1.fst.snd.snd.snd.snd.snd.snd.snd.snd.fst, (val_1.fst.snd.snd.snd.snd.snd.snd.snd.snd.snd.fst, ()), ())).snd.fst.snd.fst,
                    (m_impl_Compact
                                (val_1.fst.fst, val_1.fst.snd.fst, val_1.fst.snd.snd.fst,
                                  (val_1.fst.snd.snd.snd.fst, val_1.fst.snd.snd.snd.snd.fst, val_1.fst.snd.snd.snd.snd.snd.fst, val_1.fst.snd.snd.snd.snd.snd.snd.fst, ()),
                                  val_1.fst.snd.snd.snd.snd.snd.snd.snd.fst, val_1.fst.snd.snd.snd.snd.snd.snd.snd.snd.fst, (val_1.fst.snd.snd.snd.snd.snd.snd.snd.snd.snd.fst, ()),
                                  ())).snd.fst.snd.snd.fst,
                    ((m_impl_Compact
                                      (val_1.fst.fst, val_1.fst.snd.fst, val_1.fst.snd.snd.fst,
                                        (val_1.fst.snd.snd.snd.fst, val_1.fst.snd.snd.snd.snd.fst, val_1.fst.snd.snd.snd.snd.snd.fst, val_1.fst.snd.snd.snd.snd.snd.snd.fst, ()),
                                        val_1.fst.snd.snd.snd.snd.snd.snd.snd.fst, val_1.fst.snd.snd.snd.snd.snd.snd.snd.snd.fst, (val_1.fst.snd.snd.snd.snd.snd.snd.snd.snd.snd.fst, ()),
                                        ())).snd.fst.snd.snd.snd.fst.fst,
                      (m_impl_Compact
                                        (val_1.fst.fst, val_1.fst.snd.fst, val_1.fst.snd.snd.fst,
                                          (val_1.fst.snd.snd.snd.fst, val_1.fst.snd.snd.snd.snd.fst, val_1.fst.snd.snd.snd.snd.snd.fst, val_1.fst.snd.snd.snd.snd.snd.snd.fst, ()),
                                          val_1.fst.snd.snd.snd.snd.snd.snd.snd.fst, val_1.fst.snd.snd.snd.snd.snd.snd.snd.snd.fst, (val_1.fst.snd.snd.snd.snd.snd.snd.snd.snd.snd.fst, ()),
                                          ())).snd.fst.snd.snd.snd.fst.snd.fst,
                      (m_impl_Compact
                                          (val_1.fst.fst, val_1.fst.snd.fst, val_1.fst.snd.snd.fst,
                                            (val_1.fst.snd.snd.snd.fst, val_1.fst.snd.snd.snd.snd.fst, val_1.fst.snd.snd.snd.snd.snd.fst, val_1.fst.snd.snd.snd.snd.snd.snd.fst, ()),
                                            val_1.fst.snd.snd.snd.snd.snd.snd.snd.fst, val_1.fst.snd.snd.snd.snd.snd.snd.snd.snd.fst, (val_1.fst.snd.snd.snd.snd.snd.snd.snd.snd.snd.fst, ()),
                                            ())).snd.fst.snd.snd.snd.fst.snd.snd.fst,
                      (m_impl_Compact
                                            (val_1.fst.fst, val_1.fst.snd.fst, val_1.fst.snd.snd.fst,
                                              (val_1.fst.snd.snd.snd.fst, val_1.fst.snd.snd.snd.snd.fst, val_1.fst.snd.snd.snd.snd.snd.fst, val_1.fst.snd.snd.snd.snd.snd.snd.fst, ()),
                                              val_1.fst.snd.snd.snd.snd.snd.snd.snd.fst, val_1.fst.snd.snd.snd.snd.snd.snd.snd.snd.fst, (val_1.fst.snd.snd.snd.snd.snd.snd.snd.snd.snd.fst, ()),
                                              ())).snd.fst.snd.snd.snd.fst.snd.snd.snd.fst,
                      ()),
                    (m_impl_Compact
                                    (val_1.fst.fst, val_1.fst.snd.fst, val_1.fst.snd.snd.fst,
                                      (val_1.fst.snd.snd.snd.fst, val_1.fst.snd.snd.snd.snd.fst, val_1.fst.snd.snd.snd.snd.snd.fst, val_1.fst.snd.snd.snd.snd.snd.snd.fst, ()),
                                      val_1.fst.snd.snd.snd.snd.snd.snd.snd.fst, val_1.fst.snd.snd.snd.snd.snd.snd.snd.snd.fst, (val_1.fst.snd.snd.snd.snd.snd.snd.snd.snd.snd.fst, ()),
                                      ())).snd.fst.snd.snd.snd.snd.fst,
                    (m_impl_Compact
                                      (val_1.fst.fst, val_1.fst.snd.fst, val_1.fst.snd.snd.fst,
                                        (val_1.fst.snd.snd.snd.fst, val_1.fst.snd.snd.snd.snd.fst, val_1.fst.snd.snd.snd.snd.snd.fst, val_1.fst.snd.snd.snd.snd.snd.snd.fst, ()),
                                        val_1.fst.snd.snd.snd.snd.snd.snd.snd.fst, val_1.fst.snd.snd.snd.snd.snd.snd.snd.snd.fst, (val_1.fst.snd.snd.snd.snd.snd.snd.snd.snd.snd.fst, ()),
                                        ())).snd.fst.snd.snd.snd.snd.snd.fst,
                    ((m_impl_Compact
                                            (val_1.fst.fst, val_1.fst.snd.fst, val_1.fst.snd.snd.fst,
                                              (val_1.fst.snd.snd.snd.fst, val_1.fst.snd.snd.snd.snd.fst, val_1.fst.snd.snd.snd.snd.snd.fst, val_1.fst.snd.snd.snd.snd.snd.snd.fst, ()),
                                              val_1.fst.snd.snd.snd.snd.snd.snd.snd.fst, val_1.fst.snd.snd.snd.snd.snd.snd.snd.snd.fst, (val_1.fst.snd.snd.snd.snd.snd.snd.snd.snd.snd.fst, ()),
                                              ())).snd.fst.snd.snd.snd.snd.snd.snd.fst.fst,
                      ()),
                    ()),
                  (m_impl_Compact
                          (val_1.fst.fst, val_1.fst.snd.fst, val_1.fst.snd.snd.fst,
                            (val_1.fst.snd.snd.snd.fst, val_1.fst.snd.snd.snd.snd.fst, val_1.fst.snd.snd.snd.snd.snd.fst, val_1.fst.snd.snd.snd.snd.snd.snd.fst, ()),
                            val_1.fst.snd.snd.snd.snd.snd.snd.snd.fst, val_1.fst.snd.snd.snd.snd.snd.snd.snd.snd.fst, (val_1.fst.snd.snd.snd.snd.snd.snd.snd.snd.snd.fst, ()), ())).snd.snd.fst,
                  ())
                ((m_spec_Compact
                      (val.fst.fst, val.fst.snd.fst, val.fst.snd.snd.fst,
                        (val.fst.snd.snd.snd.fst, val.fst.snd.snd.snd.snd.fst, val.fst.snd.snd.snd.snd.snd.fst, val.fst.snd.snd.snd.snd.snd.snd.fst, ()), val.fst.snd.snd.snd.snd.snd.snd.snd.fst,
                        val.fst.snd.snd.snd.snd.snd.snd.snd.snd.fst, (val.fst.snd.snd.snd.snd.snd.snd.snd.snd.snd.fst, ()), ())).fst,
                  ((m_spec_Compact
                            (val.fst.fst, val.fst.snd.fst, val.fst.snd.snd.fst,
                              (val.fst.snd.snd.snd.fst, val.fst.snd.snd.snd.snd.fst, val.fst.snd.snd.snd.snd.snd.fst, val.fst.snd.snd.snd.snd.snd.snd.fst, ()), val.fst.snd.snd.snd.snd.snd.snd.snd.fst,
                              val.fst.snd.snd.snd.snd.snd.snd.snd.snd.fst, (val.fst.snd.snd.snd.snd.snd.snd.snd.snd.snd.fst, ()), ())).snd.fst.fst,
                    (m_spec_Compact
                              (val.fst.fst, val.fst.snd.fst, val.fst.snd.snd.fst,
                                (val.fst.snd.snd.snd.fst, val.fst.snd.snd.snd.snd.fst, val.fst.snd.snd.snd.snd.snd.fst, val.fst.snd.snd.snd.snd.snd.snd.fst, ()), val.fst.snd.snd.snd.snd.snd.snd.snd.fst,
                                val.fst.snd.snd.snd.snd.snd.snd.snd.snd.fst, (val.fst.snd.snd.snd.snd.snd.snd.snd.snd.snd.fst, ()), ())).snd.fst.snd.fst,
                    (m_spec_Compact
                                (val.fst.fst, val.fst.snd.fst, val.fst.snd.snd.fst,
                                  (val.fst.snd.snd.snd.fst, val.fst.snd.snd.snd.snd.fst, val.fst.snd.snd.snd.snd.snd.fst, val.fst.snd.snd.snd.snd.snd.snd.fst, ()),
                                  val.fst.snd.snd.snd.snd.snd.snd.snd.fst, val.fst.snd.snd.snd.snd.snd.snd.snd.snd.fst, (val.fst.snd.snd.snd.snd.snd.snd.snd.snd.snd.fst, ()), ())).snd.fst.snd.snd.fst,
                    ((m_spec_Compact
                                      (val.fst.fst, val.fst.snd.fst, val.fst.snd.snd.fst,
                                        (val.fst.snd.snd.snd.fst, val.fst.snd.snd.snd.snd.fst, val.fst.snd.snd.snd.snd.snd.fst, val.fst.snd.snd.snd.snd.snd.snd.fst, ()),
                                        val.fst.snd.snd.snd.snd.snd.snd.snd.fst, val.fst.snd.snd.snd.snd.snd.snd.snd.snd.fst, (val.fst.snd.snd.snd.snd.snd.snd.snd.snd.snd.fst, ()),
                                        ())).snd.fst.snd.snd.snd.fst.fst,
                      (m_spec_Compact
                                        (val.fst.fst, val.fst.snd.fst, val.fst.snd.snd.fst,
                                          (val.fst.snd.snd.snd.fst, val.fst.snd.snd.snd.snd.fst, val.fst.snd.snd.snd.snd.snd.fst, val.fst.snd.snd.snd.snd.snd.snd.fst, ()),
                                          val.fst.snd.snd.snd.snd.snd.snd.snd.fst, val.fst.snd.snd.snd.snd.snd.snd.snd.snd.fst, (val.fst.snd.snd.snd.snd.snd.snd.snd.snd.snd.fst, ()),
                                          ())).snd.fst.snd.snd.snd.fst.snd.fst,
                      (m_spec_Compact
                                          (val.fst.fst, val.fst.snd.fst, val.fst.snd.snd.fst,
                                            (val.fst.snd.snd.snd.fst, val.fst.snd.snd.snd.snd.fst, val.fst.snd.snd.snd.snd.snd.fst, val.fst.snd.snd.snd.snd.snd.snd.fst, ()),
                                            val.fst.snd.snd.snd.snd.snd.snd.snd.fst, val.fst.snd.snd.snd.snd.snd.snd.snd.snd.fst, (val.fst.snd.snd.snd.snd.snd.snd.snd.snd.snd.fst, ()),
                                            ())).snd.fst.snd.snd.snd.fst.snd.snd.fst,
                      (m_spec_Compact
                                            (val.fst.fst, val.fst.snd.fst, val.fst.snd.snd.fst,
                                              (val.fst.snd.snd.snd.fst, val.fst.snd.snd.snd.snd.fst, val.fst.snd.snd.snd.snd.snd.fst, val.fst.snd.snd.snd.snd.snd.snd.fst, ()),
                                              val.fst.snd.snd.snd.snd.snd.snd.snd.fst, val.fst.snd.snd.snd.snd.snd.snd.snd.snd.fst, (val.fst.snd.snd.snd.snd.snd.snd.snd.snd.snd.fst, ()),
                                              ())).snd.fst.snd.snd.snd.fst.snd.snd.snd.fst,
                      ()),
                    (m_spec_Compact
                                    (val.fst.fst, val.fst.snd.fst, val.fst.snd.snd.fst,
                                      (val.fst.snd.snd.snd.fst, val.fst.snd.snd.snd.snd.fst, val.fst.snd.snd.snd.snd.snd.fst, val.fst.snd.snd.snd.snd.snd.snd.fst, ()),
                                      val.fst.snd.snd.snd.snd.snd.snd.snd.fst, val.fst.snd.snd.snd.snd.snd.snd.snd.snd.fst, (val.fst.snd.snd.snd.snd.snd.snd.snd.snd.snd.fst, ()),
                                      ())).snd.fst.snd.snd.snd.snd.fst,
                    (m_spec_Compact
                                      (val.fst.fst, val.fst.snd.fst, val.fst.snd.snd.fst,
                                        (val.fst.snd.snd.snd.fst, val.fst.snd.snd.snd.snd.fst, val.fst.snd.snd.snd.snd.snd.fst, val.fst.snd.snd.snd.snd.snd.snd.fst, ()),
                                        val.fst.snd.snd.snd.snd.snd.snd.snd.fst, val.fst.snd.snd.snd.snd.snd.snd.snd.snd.fst, (val.fst.snd.snd.snd.snd.snd.snd.snd.snd.snd.fst, ()),
                                        ())).snd.fst.snd.snd.snd.snd.snd.fst,
                    ((m_spec_Compact
                                            (val.fst.fst, val.fst.snd.fst, val.fst.snd.snd.fst,
                                              (val.fst.snd.snd.snd.fst, val.fst.snd.snd.snd.snd.fst, val.fst.snd.snd.snd.snd.snd.fst, val.fst.snd.snd.snd.snd.snd.snd.fst, ()),
                                              val.fst.snd.snd.snd.snd.snd.snd.snd.fst, val.fst.snd.snd.snd.snd.snd.snd.snd.snd.fst, (val.fst.snd.snd.snd.snd.snd.snd.snd.snd.snd.fst, ()),
                                              ())).snd.fst.snd.snd.snd.snd.snd.snd.fst.fst,
                      ()),
                    ()),
                  (m_spec_Compact
                          (val.fst.fst, val.fst.snd.fst, val.fst.snd.snd.fst,
                            (val.fst.snd.snd.snd.fst, val.fst.snd.snd.snd.snd.fst, val.fst.snd.snd.snd.snd.snd.fst, val.fst.snd.snd.snd.snd.snd.snd.fst, ()), val.fst.snd.snd.snd.snd.snd.snd.snd.fst,
                            val.fst.snd.snd.snd.snd.snd.snd.snd.snd.fst, (val.fst.snd.snd.snd.snd.snd.snd.snd.snd.snd.fst, ()), ())).snd.snd.fst,
                  ()))
              fun val => some ((val, ()), ()))
            fun val_2 =>
            bif !val_2.fst.fst then some ((false, ()), ())
            else
              Option.bind
                (Option.bind
                  (m_laws_toStore
                    (a0.fst, a0.snd.fst, a0.snd.snd.fst, (a0.snd.snd.snd.fst.fst, a0.snd.snd.snd.fst.snd.fst, a0.snd.snd.snd.fst.snd.snd.fst, a0.snd.snd.snd.fst.snd.snd.snd.fst, ()),
                      a0.snd.snd.snd.snd.fst, a0.snd.snd.snd.snd.snd.fst, (a0.snd.snd.snd.snd.snd.snd.fst.fst, ()), ()))
                  fun val =>
                  some
                    ((val.fst, val.snd.fst, val.snd.snd.fst, val.snd.snd.snd.fst.fst, val.snd.snd.snd.fst.snd.fst, val.snd.snd.snd.fst.snd.snd.fst, val.snd.snd.snd.fst.snd.snd.snd.fst,
                        val.snd.snd.snd.snd.fst, val.snd.snd.snd.snd.snd.fst, val.snd.snd.snd.snd.snd.snd.fst.fst, ()),
                      ()))
                fun val_3 =>
                Option.bind
                  (Option.bind
                    (m_laws_eqStore
                      (val_1.fst.fst, val_1.fst.snd.fst, val_1.fst.snd.snd.fst,
                        (val_1.fst.snd.snd.snd.fst, val_1.fst.snd.snd.snd.snd.fst, val_1.fst.snd.snd.snd.snd.snd.fst, val_1.fst.snd.snd.snd.snd.snd.snd.fst, ()),
                        val_1.fst.snd.snd.snd.snd.snd.snd.snd.fst, val_1.fst.snd.snd.snd.snd.snd.snd.snd.snd.fst, (val_1.fst.snd.snd.snd.snd.snd.snd.snd.snd.snd.fst, ()), ())
                      (val_3.fst.fst, val_3.fst.snd.fst, val_3.fst.snd.snd.fst,
                        (val_3.fst.snd.snd.snd.fst, val_3.fst.snd.snd.snd.snd.fst, val_3.fst.snd.snd.snd.snd.snd.fst, val_3.fst.snd.snd.snd.snd.snd.snd.fst, ()),
                        val_3.fst.snd.snd.snd.snd.snd.snd.snd.fst, val_3.fst.snd.snd.snd.snd.snd.snd.snd.snd.fst, (val_3.fst.snd.snd.snd.snd.snd.snd.snd.snd.snd.fst, ()), ()))
                    fun val => some ((val, ()), ()))
                  fun val_4 =>
                  bif !val_4.fst.fst then some ((false, ()), ())
                  else
                    Option.bind
                      (Option.bind
                        (m_laws_markStore
                          (val_1.fst.fst, val_1.fst.snd.fst, val_1.fst.snd.snd.fst,
                            (val_1.fst.snd.snd.snd.fst, val_1.fst.snd.snd.snd.snd.fst, val_1.fst.snd.snd.snd.snd.snd.fst, val_1.fst.snd.snd.snd.snd.snd.snd.fst, ()),
                            val_1.fst.snd.snd.snd.snd.snd.snd.snd.fst, val_1.fst.snd.snd.snd.snd.snd.snd.snd.snd.fst, (val_1.fst.snd.snd.snd.snd.snd.snd.snd.snd.snd.fst, ()), ())
                          1)
                        fun val => some ((val.fst, ()), val.snd, ()))
                      fun val_5 =>
                      bif decide (val_5.fst.fst < 0) then some ((false, ()), ())
                      else
                        Option.bind
                          (Option.bind
                            (m_laws_eqDone
                              ((m_impl_Compact
                                    (val_1.fst.fst, val_1.fst.snd.fst, val_1.fst.snd.snd.fst,
                                      (val_1.fst.snd.snd.snd.fst, val_1.fst.snd.snd.snd.snd.fst, val_1.fst.snd.snd.snd.snd.snd.fst, val_1.fst.snd.snd.snd.snd.snd.snd.fst, ()),
                                      val_1.fst.snd.snd.snd.snd.snd.snd.snd.fst, val_1.fst.snd.snd.snd.snd.snd.snd.snd.snd.fst, (val_1.fst.snd.snd.snd.snd.snd.snd.snd.snd.snd.fst, ()), ())).fst,
                                ((m_impl_Compact
                                          (val_1.fst.fst, val_1.fst.snd.fst, val_1.fst.snd.snd.fst,
                                            (val_1.fst.snd.snd.snd.fst, val_1.fst.snd.snd.snd.snd.fst, val_1.fst.snd.snd.snd.snd.snd.fst, val_1.fst.snd.snd.snd.snd.snd.snd.fst, ()),
                                            val_1.fst.snd.snd.snd.snd.snd.snd.snd.fst, val_1.fst.snd.snd.snd.snd.snd.snd.snd.snd.fst, (val_1.fst.snd.snd.snd.snd.snd.snd.snd.snd.snd.fst, ()),
                                            ())).snd.fst.fst,
                                  (m_impl_Compact
                                            (val_1.fst.fst, val_1.fst.snd.fst, val_1.fst.snd.snd.fst,
                                              (val_1.fst.snd.snd.snd.fst, val_1.fst.snd.snd.snd.snd.fst, val_1.fst.snd.snd.snd.snd.snd.fst, val_1.fst.snd.snd.snd.snd.snd.snd.fst, ()),
                                              val_1.fst.snd.snd.snd.snd.snd.snd.snd.fst, val_1.fst.snd.snd.snd.snd.snd.snd.snd.snd.fst, (val_1.fst.snd.snd.snd.snd.snd.snd.snd.snd.snd.fst, ()),
                                              ())).snd.fst.snd.fst,
                                  (m_impl_Compact
                                              (val_1.fst.fst, val_1.fst.snd.fst, val_1.fst.snd.snd.fst,
                                                (val_1.fst.snd.snd.snd.fst, val_1.fst.snd.snd.snd.snd.fst, val_1.fst.snd.snd.snd.snd.snd.fst, val_1.fst.snd.snd.snd.snd.snd.snd.fst, ()),
                                                val_1.fst.snd.snd.snd.snd.snd.snd.snd.fst, val_1.fst.snd.snd.snd.snd.snd.snd.snd.snd.fst, (val_1.fst.snd.snd.snd.snd.snd.snd.snd.snd.snd.fst, ()),
                                                ())).snd.fst.snd.snd.fst,
                                  ((m_impl_Compact
                                                    (val_1.fst.fst, val_1.fst.snd.fst, val_1.fst.snd.snd.fst,
                                                      (val_1.fst.snd.snd.snd.fst, val_1.fst.snd.snd.snd.snd.fst, val_1.fst.snd.snd.snd.snd.snd.fst, val_1.fst.snd.snd.snd.snd.snd.snd.fst, ()),
                                                      val_1.fst.snd.snd.snd.snd.snd.snd.snd.fst, val_1.fst.snd.snd.snd.snd.snd.snd.snd.snd.fst, (val_1.fst.snd.snd.snd.snd.snd.snd.snd.snd.snd.fst, ()),
                                                      ())).snd.fst.snd.snd.snd.fst.fst,
                                    (m_impl_Compact
                                                      (val_1.fst.fst, val_1.fst.snd.fst, val_1.fst.snd.snd.fst,
                                                        (val_1.fst.snd.snd.snd.fst, val_1.fst.snd.snd.snd.snd.fst, val_1.fst.snd.snd.snd.snd.snd.fst, val_1.fst.snd.snd.snd.snd.snd.snd.fst, ()),
                                                        val_1.fst.snd.snd.snd.snd.snd.snd.snd.fst, val_1.fst.snd.snd.snd.snd.snd.snd.snd.snd.fst, (val_1.fst.snd.snd.snd.snd.snd.snd.snd.snd.snd.fst, ()),
                                                        ())).snd.fst.snd.snd.snd.fst.snd.fst,
                                    (m_impl_Compact
                                                        (val_1.fst.fst, val_1.fst.snd.fst, val_1.fst.snd.snd.fst,
                                                          (val_1.fst.snd.snd.snd.fst, val_1.fst.snd.snd.snd.snd.fst, val_1.fst.snd.snd.snd.snd.snd.fst, val_1.fst.snd.snd.snd.snd.snd.snd.fst, ()),
                                                          val_1.fst.snd.snd.snd.snd.snd.snd.snd.fst, val_1.fst.snd.snd.snd.snd.snd.snd.snd.snd.fst,
                                                          (val_1.fst.snd.snd.snd.snd.snd.snd.snd.snd.snd.fst, ()), ())).snd.fst.snd.snd.snd.fst.snd.snd.fst,
                                    (m_impl_Compact
                                                          (val_1.fst.fst, val_1.fst.snd.fst, val_1.fst.snd.snd.fst,
                                                            (val_1.fst.snd.snd.snd.fst, val_1.fst.snd.snd.snd.snd.fst, val_1.fst.snd.snd.snd.snd.snd.fst, val_1.fst.snd.snd.snd.snd.snd.snd.fst, ()),
                                                            val_1.fst.snd.snd.snd.snd.snd.snd.snd.fst, val_1.fst.snd.snd.snd.snd.snd.snd.snd.snd.fst,
                                                            (val_1.fst.snd.snd.snd.snd.snd.snd.snd.snd.snd.fst, ()), ())).snd.fst.snd.snd.snd.fst.snd.snd.snd.fst,
                                    ()),
                                  (m_impl_Compact
                                                  (val_1.fst.fst, val_1.fst.snd.fst, val_1.fst.snd.snd.fst,
                                                    (val_1.fst.snd.snd.snd.fst, val_1.fst.snd.snd.snd.snd.fst, val_1.fst.snd.snd.snd.snd.snd.fst, val_1.fst.snd.snd.snd.snd.snd.snd.fst, ()),
                                                    val_1.fst.snd.snd.snd.snd.snd.snd.snd.fst, val_1.fst.snd.snd.snd.snd.snd.snd.snd.snd.fst, (val_1.fst.snd.snd.snd.snd.snd.snd.snd.snd.snd.fst, ()),
                                                    ())).snd.fst.snd.snd.snd.snd.fst,
                                  (m_impl_Compact
                                                    (val_1.fst.fst, val_1.fst.snd.fst, val_1.fst.snd.snd.fst,
                                                      (val_1.fst.snd.snd.snd.fst, val_1.fst.snd.snd.snd.snd.fst, val_1.fst.snd.snd.snd.snd.snd.fst, val_1.fst.snd.snd.snd.snd.snd.snd.fst, ()),
                                                      val_1.fst.snd.snd.snd.snd.snd.snd.snd.fst, val_1.fst.snd.snd.snd.snd.snd.snd.snd.snd.fst, (val_1.fst.snd.snd.snd.snd.snd.snd.snd.snd.snd.fst, ()),
                                                      ())).snd.fst.snd.snd.snd.snd.snd.fst,
                                  ((m_impl_Compact
                                                          (val_1.fst.fst, val_1.fst.snd.fst, val_1.fst.snd.snd.fst,
                                                            (val_1.fst.snd.snd.snd.fst, val_1.fst.snd.snd.snd.snd.fst, val_1.fst.snd.snd.snd.snd.snd.fst, val_1.fst.snd.snd.snd.snd.snd.snd.fst, ()),
                                                            val_1.fst.snd.snd.snd.snd.snd.snd.snd.fst, val_1.fst.snd.snd.snd.snd.snd.snd.snd.snd.fst,
                                                            (val_1.fst.snd.snd.snd.snd.snd.snd.snd.snd.snd.fst, ()), ())).snd.fst.snd.snd.snd.snd.snd.snd.fst.fst,
                                    ()),
                                  ()),
                                (m_impl_Compact
                                        (val_1.fst.fst, val_1.fst.snd.fst, val_1.fst.snd.snd.fst,
                                          (val_1.fst.snd.snd.snd.fst, val_1.fst.snd.snd.snd.snd.fst, val_1.fst.snd.snd.snd.snd.snd.fst, val_1.fst.snd.snd.snd.snd.snd.snd.fst, ()),
                                          val_1.fst.snd.snd.snd.snd.snd.snd.snd.fst, val_1.fst.snd.snd.snd.snd.snd.snd.snd.snd.fst, (val_1.fst.snd.snd.snd.snd.snd.snd.snd.snd.snd.fst, ()),
                                          ())).snd.snd.fst,
                                ())
                              ((m_spec_Compact
                                    (val.fst.fst, val.fst.snd.fst, val.fst.snd.snd.fst,
                                      (val.fst.snd.snd.snd.fst, val.fst.snd.snd.snd.snd.fst, val.fst.snd.snd.snd.snd.snd.fst, val.fst.snd.snd.snd.snd.snd.snd.fst, ()),
                                      val.fst.snd.snd.snd.snd.snd.snd.snd.fst, val.fst.snd.snd.snd.snd.snd.snd.snd.snd.fst, (val.fst.snd.snd.snd.snd.snd.snd.snd.snd.snd.fst, ()), ())).fst,
                                ((m_spec_Compact
                                          (val.fst.fst, val.fst.snd.fst, val.fst.snd.snd.fst,
                                            (val.fst.snd.snd.snd.fst, val.fst.snd.snd.snd.snd.fst, val.fst.snd.snd.snd.snd.snd.fst, val.fst.snd.snd.snd.snd.snd.snd.fst, ()),
                                            val.fst.snd.snd.snd.snd.snd.snd.snd.fst, val.fst.snd.snd.snd.snd.snd.snd.snd.snd.fst, (val.fst.snd.snd.snd.snd.snd.snd.snd.snd.snd.fst, ()), ())).snd.fst.fst,
                                  (m_spec_Compact
                                            (val.fst.fst, val.fst.snd.fst, val.fst.snd.snd.fst,
                                              (val.fst.snd.snd.snd.fst, val.fst.snd.snd.snd.snd.fst, val.fst.snd.snd.snd.snd.snd.fst, val.fst.snd.snd.snd.snd.snd.snd.fst, ()),
                                              val.fst.snd.snd.snd.snd.snd.snd.snd.fst, val.fst.snd.snd.snd.snd.snd.snd.snd.snd.fst, (val.fst.snd.snd.snd.snd.snd.snd.snd.snd.snd.fst, ()),
                                              ())).snd.fst.snd.fst,
                                  (m_spec_Compact
                                              (val.fst.fst, val.fst.snd.fst, val.fst.snd.snd.fst,
                                                (val.fst.snd.snd.snd.fst, val.fst.snd.snd.snd.snd.fst, val.fst.snd.snd.snd.snd.snd.fst, val.fst.snd.snd.snd.snd.snd.snd.fst, ()),
                                                val.fst.snd.snd.snd.snd.snd.snd.snd.fst, val.fst.snd.snd.snd.snd.snd.snd.snd.snd.fst, (val.fst.snd.snd.snd.snd.snd.snd.snd.snd.snd.fst, ()),
                                                ())).snd.fst.snd.snd.fst,
                                  ((m_spec_Compact
                                                    (val.fst.fst, val.fst.snd.fst, val.fst.snd.snd.fst,
                                                      (val.fst.snd.snd.snd.fst, val.fst.snd.snd.snd.snd.fst, val.fst.snd.snd.snd.snd.snd.fst, val.fst.snd.snd.snd.snd.snd.snd.fst, ()),
                                                      val.fst.snd.snd.snd.snd.snd.snd.snd.fst, val.fst.snd.snd.snd.snd.snd.snd.snd.snd.fst, (val.fst.snd.snd.snd.snd.snd.snd.snd.snd.snd.fst, ()),
                                                      ())).snd.fst.snd.snd.snd.fst.fst,
                                    (m_spec_Compact
                                                      (val.fst.fst, val.fst.snd.fst, val.fst.snd.snd.fst,
                                                        (val.fst.snd.snd.snd.fst, val.fst.snd.snd.snd.snd.fst, val.fst.snd.snd.snd.snd.snd.fst, val.fst.snd.snd.snd.snd.snd.snd.fst, ()),
                                                        val.fst.snd.snd.snd.snd.snd.snd.snd.fst, val.fst.snd.snd.snd.snd.snd.snd.snd.snd.fst, (val.fst.snd.snd.snd.snd.snd.snd.snd.snd.snd.fst, ()),
                                                        ())).snd.fst.snd.snd.snd.fst.snd.fst,
                                    (m_spec_Compact
                                                        (val.fst.fst, val.fst.snd.fst, val.fst.snd.snd.fst,
                                                          (val.fst.snd.snd.snd.fst, val.fst.snd.snd.snd.snd.fst, val.fst.snd.snd.snd.snd.snd.fst, val.fst.snd.snd.snd.snd.snd.snd.fst, ()),
                                                          val.fst.snd.snd.snd.snd.snd.snd.snd.fst, val.fst.snd.snd.snd.snd.snd.snd.snd.snd.fst, (val.fst.snd.snd.snd.snd.snd.snd.snd.snd.snd.fst, ()),
                                                          ())).snd.fst.snd.snd.snd.fst.snd.snd.fst,
                                    (m_spec_Compact
                                                          (val.fst.fst, val.fst.snd.fst, val.fst.snd.snd.fst,
                                                            (val.fst.snd.snd.snd.fst, val.fst.snd.snd.snd.snd.fst, val.fst.snd.snd.snd.snd.snd.fst, val.fst.snd.snd.snd.snd.snd.snd.fst, ()),
                                                            val.fst.snd.snd.snd.snd.snd.snd.snd.fst, val.fst.snd.snd.snd.snd.snd.snd.snd.snd.fst, (val.fst.snd.snd.snd.snd.snd.snd.snd.snd.snd.fst, ()),
                                                            ())).snd.fst.snd.snd.snd.fst.snd.snd.snd.fst,
                                    ()),
                                  (m_spec_Compact
                                                  (val.fst.fst, val.fst.snd.fst, val.fst.snd.snd.fst,
                                                    (val.fst.snd.snd.snd.fst, val.fst.snd.snd.snd.snd.fst, val.fst.snd.snd.snd.snd.snd.fst, val.fst.snd.snd.snd.snd.snd.snd.fst, ()),
                                                    val.fst.snd.snd.snd.snd.snd.snd.snd.fst, val.fst.snd.snd.snd.snd.snd.snd.snd.snd.fst, (val.fst.snd.snd.snd.snd.snd.snd.snd.snd.snd.fst, ()),
                                                    ())).snd.fst.snd.snd.snd.snd.fst,
                                  (m_spec_Compact
                                                    (val.fst.fst, val.fst.snd.fst, val.fst.snd.snd.fst,
                                                      (val.fst.snd.snd.snd.fst, val.fst.snd.snd.snd.snd.fst, val.fst.snd.snd.snd.snd.snd.fst, val.fst.snd.snd.snd.snd.snd.snd.fst, ()),
                                                      val.fst.snd.snd.snd.snd.snd.snd.snd.fst, val.fst.snd.snd.snd.snd.snd.snd.snd.snd.fst, (val.fst.snd.snd.snd.snd.snd.snd.snd.snd.snd.fst, ()),
                                                      ())).snd.fst.snd.snd.snd.snd.snd.fst,
                                  ((m_spec_Compact
                                                          (val.fst.fst, val.fst.snd.fst, val.fst.snd.snd.fst,
                                                            (val.fst.snd.snd.snd.fst, val.fst.snd.snd.snd.snd.fst, val.fst.snd.snd.snd.snd.snd.fst, val.fst.snd.snd.snd.snd.snd.snd.fst, ()),
                                                            val.fst.snd.snd.snd.snd.snd.snd.snd.fst, val.fst.snd.snd.snd.snd.snd.snd.snd.snd.fst, (val.fst.snd.snd.snd.snd.snd.snd.snd.snd.snd.fst, ()),
                                                            ())).snd.fst.snd.snd.snd.snd.snd.snd.fst.fst,
                                    ()),
                                  ()),
                                (m_spec_Compact
                                        (val.fst.fst, val.fst.snd.fst, val.fst.snd.snd.fst,
                                          (val.fst.snd.snd.snd.fst, val.fst.snd.snd.snd.snd.fst, val.fst.snd.snd.snd.snd.snd.fst, val.fst.snd.snd.snd.snd.snd.snd.fst, ()),
                                          val.fst.snd.snd.snd.snd.snd.snd.snd.fst, val.fst.snd.snd.snd.snd.snd.snd.snd.snd.fst, (val.fst.snd.snd.snd.snd.snd.snd.snd.snd.snd.fst, ()), ())).snd.snd.fst,
                                ()))
                            fun val => some ((val, ()), ()))
                          fun val_6 =>
                          bif !val_6.fst.fst then some ((false, ()), ())
                          else
                            Option.bind
                              (Option.bind
                                (m_laws_markDone
                                  ((m_impl_Compact
                                        (val_1.fst.fst, val_1.fst.snd.fst, val_1.fst.snd.snd.fst,
                                          (val_1.fst.snd.snd.snd.fst, val_1.fst.snd.snd.snd.snd.fst, val_1.fst.snd.snd.snd.snd.snd.fst, val_1.fst.snd.snd.snd.snd.snd.snd.fst, ()),
                                          val_1.fst.snd.snd.snd.snd.snd.snd.snd.fst, val_1.fst.snd.snd.snd.snd.snd.snd.snd.snd.fst, (val_1.fst.snd.snd.snd.snd.snd.snd.snd.snd.snd.fst, ()), ())).fst,
                                    ((m_impl_Compact
                                              (val_1.fst.fst, val_1.fst.snd.fst, val_1.fst.snd.snd.fst,
                                                (val_1.fst.snd.snd.snd.fst, val_1.fst.snd.snd.snd.snd.fst, val_1.fst.snd.snd.snd.snd.snd.fst, val_1.fst.snd.snd.snd.snd.snd.snd.fst, ()),
                                                val_1.fst.snd.snd.snd.snd.snd.snd.snd.fst, val_1.fst.snd.snd.snd.snd.snd.snd.snd.snd.fst, (val_1.fst.snd.snd.snd.snd.snd.snd.snd.snd.snd.fst, ()),
                                                ())).snd.fst.fst,
                                      (m_impl_Compact
                                                (val_1.fst.fst, val_1.fst.snd.fst, val_1.fst.snd.snd.fst,
                                                  (val_1.fst.snd.snd.snd.fst, val_1.fst.snd.snd.snd.snd.fst, val_1.fst.snd.snd.snd.snd.snd.fst, val_1.fst.snd.snd.snd.snd.snd.snd.fst, ()),
                                                  val_1.fst.snd.snd.snd.snd.snd.snd.snd.fst, val_1.fst.snd.snd.snd.snd.snd.snd.snd.snd.fst, (val_1.fst.snd.snd.snd.snd.snd.snd.snd.snd.snd.fst, ()),
                                                  ())).snd.fst.snd.fst,
                                      (m_impl_Compact
                                                  (val_1.fst.fst, val_1.fst.snd.fst, val_1.fst.snd.snd.fst,
                                                    (val_1.fst.snd.snd.snd.fst, val_1.fst.snd.snd.snd.snd.fst, val_1.fst.snd.snd.snd.snd.snd.fst, val_1.fst.snd.snd.snd.snd.snd.snd.fst, ()),
                                                    val_1.fst.snd.snd.snd.snd.snd.snd.snd.fst, val_1.fst.snd.snd.snd.snd.snd.snd.snd.snd.fst, (val_1.fst.snd.snd.snd.snd.snd.snd.snd.snd.snd.fst, ()),
                                                    ())).snd.fst.snd.snd.fst,
                                      ((m_impl_Compact
                                                        (val_1.fst.fst, val_1.fst.snd.fst, val_1.fst.snd.snd.fst,
                                                          (val_1.fst.snd.snd.snd.fst, val_1.fst.snd.snd.snd.snd.fst, val_1.fst.snd.snd.snd.snd.snd.fst, val_1.fst.snd.snd.snd.snd.snd.snd.fst, ()),
                                                          val_1.fst.snd.snd.snd.snd.snd.snd.snd.fst, val_1.fst.snd.snd.snd.snd.snd.snd.snd.snd.fst,
                                                          (val_1.fst.snd.snd.snd.snd.snd.snd.snd.snd.snd.fst, ()), ())).snd.fst.snd.snd.snd.fst.fst,
                                        (m_impl_Compact
                                                          (val_1.fst.fst, val_1.fst.snd.fst, val_1.fst.snd.snd.fst,
                                                            (val_1.fst.snd.snd.snd.fst, val_1.fst.snd.snd.snd.snd.fst, val_1.fst.snd.snd.snd.snd.snd.fst, val_1.fst.snd.snd.snd.snd.snd.snd.fst, ()),
                                                            val_1.fst.snd.snd.snd.snd.snd.snd.snd.fst, val_1.fst.snd.snd.snd.snd.snd.snd.snd.snd.fst,
                                                            (val_1.fst.snd.snd.snd.snd.snd.snd.snd.snd.snd.fst, ()), ())).snd.fst.snd.snd.snd.fst.snd.fst,
                                        (m_impl_Compact
                                                            (val_1.fst.fst, val_1.fst.snd.fst, val_1.fst.snd.snd.fst,
                                                              (val_1.fst.snd.snd.snd.fst, val_1.fst.snd.snd.snd.snd.fst, val_1.fst.snd.snd.snd.snd.snd.fst, val_1.fst.snd.snd.snd.snd.snd.snd.fst, ()),
                                                              val_1.fst.snd.snd.snd.snd.snd.snd.snd.fst, val_1.fst.snd.snd.snd.snd.snd.snd.snd.snd.fst,
                                                              (val_1.fst.snd.snd.snd.snd.snd.snd.snd.snd.snd.fst, ()), ())).snd.fst.snd.snd.snd.fst.snd.snd.fst,
                                        (m_impl_Compact
                                                              (val_1.fst.fst, val_1.fst.snd.fst, val_1.fst.snd.snd.fst,
                                                                (val_1.fst.snd.snd.snd.fst, val_1.fst.snd.snd.snd.snd.fst, val_1.fst.snd.snd.snd.snd.snd.fst, val_1.fst.snd.snd.snd.snd.snd.snd.fst, ()),
                                                                val_1.fst.snd.snd.snd.snd.snd.snd.snd.fst, val_1.fst.snd.snd.snd.snd.snd.snd.snd.snd.fst,
                                                                (val_1.fst.snd.snd.snd.snd.snd.snd.snd.snd.snd.fst, ()), ())).snd.fst.snd.snd.snd.fst.snd.snd.snd.fst,
                                        ()),
                                      (m_impl_Compact
                                                      (val_1.fst.fst, val_1.fst.snd.fst, val_1.fst.snd.snd.fst,
                                                        (val_1.fst.snd.snd.snd.fst, val_1.fst.snd.snd.snd.snd.fst, val_1.fst.snd.snd.snd.snd.snd.fst, val_1.fst.snd.snd.snd.snd.snd.snd.fst, ()),
                                                        val_1.fst.snd.snd.snd.snd.snd.snd.snd.fst, val_1.fst.snd.snd.snd.snd.snd.snd.snd.snd.fst, (val_1.fst.snd.snd.snd.snd.snd.snd.snd.snd.snd.fst, ()),
                                                        ())).snd.fst.snd.snd.snd.snd.fst,
                                      (m_impl_Compact
                                                        (val_1.fst.fst, val_1.fst.snd.fst, val_1.fst.snd.snd.fst,
                                                          (val_1.fst.snd.snd.snd.fst, val_1.fst.snd.snd.snd.snd.fst, val_1.fst.snd.snd.snd.snd.snd.fst, val_1.fst.snd.snd.snd.snd.snd.snd.fst, ()),
                                                          val_1.fst.snd.snd.snd.snd.snd.snd.snd.fst, val_1.fst.snd.snd.snd.snd.snd.snd.snd.snd.fst,
                                                          (val_1.fst.snd.snd.snd.snd.snd.snd.snd.snd.snd.fst, ()), ())).snd.fst.snd.snd.snd.snd.snd.fst,
                                      ((m_impl_Compact
                                                              (val_1.fst.fst, val_1.fst.snd.fst, val_1.fst.snd.snd.fst,
                                                                (val_1.fst.snd.snd.snd.fst, val_1.fst.snd.snd.snd.snd.fst, val_1.fst.snd.snd.snd.snd.snd.fst, val_1.fst.snd.snd.snd.snd.snd.snd.fst, ()),
                                                                val_1.fst.snd.snd.snd.snd.snd.snd.snd.fst, val_1.fst.snd.snd.snd.snd.snd.snd.snd.snd.fst,
                                                                (val_1.fst.snd.snd.snd.snd.snd.snd.snd.snd.snd.fst, ()), ())).snd.fst.snd.snd.snd.snd.snd.snd.fst.fst,
                                        ()),
                                      ()),
                                    (m_impl_Compact
                                            (val_1.fst.fst, val_1.fst.snd.fst, val_1.fst.snd.snd.fst,
                                              (val_1.fst.snd.snd.snd.fst, val_1.fst.snd.snd.snd.snd.fst, val_1.fst.snd.snd.snd.snd.snd.fst, val_1.fst.snd.snd.snd.snd.snd.snd.fst, ()),
                                              val_1.fst.snd.snd.snd.snd.snd.snd.snd.fst, val_1.fst.snd.snd.snd.snd.snd.snd.snd.snd.fst, (val_1.fst.snd.snd.snd.snd.snd.snd.snd.snd.snd.fst, ()),
                                              ())).snd.snd.fst,
                                    ())
                                  1)
                                fun val => some ((val.fst, ()), val.snd.fst, val.snd.snd, ()))
                              fun val_7 =>
                              Option.bind
                                (Option.bind
                                  (m_laws_heldDone
                                    ((m_impl_Compact
                                          (val_1.fst.fst, val_1.fst.snd.fst, val_1.fst.snd.snd.fst,
                                            (val_1.fst.snd.snd.snd.fst, val_1.fst.snd.snd.snd.snd.fst, val_1.fst.snd.snd.snd.snd.snd.fst, val_1.fst.snd.snd.snd.snd.snd.snd.fst, ()),
                                            val_1.fst.snd.snd.snd.snd.snd.snd.snd.fst, val_1.fst.snd.snd.snd.snd.snd.snd.snd.snd.fst, (val_1.fst.snd.snd.snd.snd.snd.snd.snd.snd.snd.fst, ()), ())).fst,
                                      ((m_impl_Compact
                                                (val_1.fst.fst, val_1.fst.snd.fst, val_1.fst.snd.snd.fst,
                                                  (val_1.fst.snd.snd.snd.fst, val_1.fst.snd.snd.snd.snd.fst, val_1.fst.snd.snd.snd.snd.snd.fst, val_1.fst.snd.snd.snd.snd.snd.snd.fst, ()),
                                                  val_1.fst.snd.snd.snd.snd.snd.snd.snd.fst, val_1.fst.snd.snd.snd.snd.snd.snd.snd.snd.fst, (val_1.fst.snd.snd.snd.snd.snd.snd.snd.snd.snd.fst, ()),
                                                  ())).snd.fst.fst,
                                        (m_impl_Compact
                                                  (val_1.fst.fst, val_1.fst.snd.fst, val_1.fst.snd.snd.fst,
                                                    (val_1.fst.snd.snd.snd.fst, val_1.fst.snd.snd.snd.snd.fst, val_1.fst.snd.snd.snd.snd.snd.fst, val_1.fst.snd.snd.snd.snd.snd.snd.fst, ()),
                                                    val_1.fst.snd.snd.snd.snd.snd.snd.snd.fst, val_1.fst.snd.snd.snd.snd.snd.snd.snd.snd.fst, (val_1.fst.snd.snd.snd.snd.snd.snd.snd.snd.snd.fst, ()),
                                                    ())).snd.fst.snd.fst,
                                        (m_impl_Compact
                                                    (val_1.fst.fst, val_1.fst.snd.fst, val_1.fst.snd.snd.fst,
                                                      (val_1.fst.snd.snd.snd.fst, val_1.fst.snd.snd.snd.snd.fst, val_1.fst.snd.snd.snd.snd.snd.fst, val_1.fst.snd.snd.snd.snd.snd.snd.fst, ()),
                                                      val_1.fst.snd.snd.snd.snd.snd.snd.snd.fst, val_1.fst.snd.snd.snd.snd.snd.snd.snd.snd.fst, (val_1.fst.snd.snd.snd.snd.snd.snd.snd.snd.snd.fst, ()),
                                                      ())).snd.fst.snd.snd.fst,
                                        ((m_impl_Compact
                                                          (val_1.fst.fst, val_1.fst.snd.fst, val_1.fst.snd.snd.fst,
                                                            (val_1.fst.snd.snd.snd.fst, val_1.fst.snd.snd.snd.snd.fst, val_1.fst.snd.snd.snd.snd.snd.fst, val_1.fst.snd.snd.snd.snd.snd.snd.fst, ()),
                                                            val_1.fst.snd.snd.snd.snd.snd.snd.snd.fst, val_1.fst.snd.snd.snd.snd.snd.snd.snd.snd.fst,
                                                            (val_1.fst.snd.snd.snd.snd.snd.snd.snd.snd.snd.fst, ()), ())).snd.fst.snd.snd.snd.fst.fst,
                                          (m_impl_Compact
                                                            (val_1.fst.fst, val_1.fst.snd.fst, val_1.fst.snd.snd.fst,
                                                              (val_1.fst.snd.snd.snd.fst, val_1.fst.snd.snd.snd.snd.fst, val_1.fst.snd.snd.snd.snd.snd.fst, val_1.fst.snd.snd.snd.snd.snd.snd.fst, ()),
                                                              val_1.fst.snd.snd.snd.snd.snd.snd.snd.fst, val_1.fst.snd.snd.snd.snd.snd.snd.snd.snd.fst,
                                                              (val_1.fst.snd.snd.snd.snd.snd.snd.snd.snd.snd.fst, ()), ())).snd.fst.snd.snd.snd.fst.snd.fst,
                                          (m_impl_Compact
                                                              (val_1.fst.fst, val_1.fst.snd.fst, val_1.fst.snd.snd.fst,
                                                                (val_1.fst.snd.snd.snd.fst, val_1.fst.snd.snd.snd.snd.fst, val_1.fst.snd.snd.snd.snd.snd.fst, val_1.fst.snd.snd.snd.snd.snd.snd.fst, ()),
                                                                val_1.fst.snd.snd.snd.snd.snd.snd.snd.fst, val_1.fst.snd.snd.snd.snd.snd.snd.snd.snd.fst,
                                                                (val_1.fst.snd.snd.snd.snd.snd.snd.snd.snd.snd.fst, ()), ())).snd.fst.snd.snd.snd.fst.snd.snd.fst,
                                          (m_impl_Compact
                                                                (val_1.fst.fst, val_1.fst.snd.fst, val_1.fst.snd.snd.fst,
                                                                  (val_1.fst.snd.snd.snd.fst, val_1.fst.snd.snd.snd.snd.fst, val_1.fst.snd.snd.snd.snd.snd.fst, val_1.fst.snd.snd.snd.snd.snd.snd.fst,
                                                                    ()),
                                                                  val_1.fst.snd.snd.snd.snd.snd.snd.snd.fst, val_1.fst.snd.snd.snd.snd.snd.snd.snd.snd.fst,
                                                                  (val_1.fst.snd.snd.snd.snd.snd.snd.snd.snd.snd.fst, ()), ())).snd.fst.snd.snd.snd.fst.snd.snd.snd.fst,
                                          ()),
                                        (m_impl_Compact
                                                        (val_1.fst.fst, val_1.fst.snd.fst, val_1.fst.snd.snd.fst,
                                                          (val_1.fst.snd.snd.snd.fst, val_1.fst.snd.snd.snd.snd.fst, val_1.fst.snd.snd.snd.snd.snd.fst, val_1.fst.snd.snd.snd.snd.snd.snd.fst, ()),
                                                          val_1.fst.snd.snd.snd.snd.snd.snd.snd.fst, val_1.fst.snd.snd.snd.snd.snd.snd.snd.snd.fst,
                                                          (val_1.fst.snd.snd.snd.snd.snd.snd.snd.snd.snd.fst, ()), ())).snd.fst.snd.snd.snd.snd.fst,
                                        (m_impl_Compact
                                                          (val_1.fst.fst, val_1.fst.snd.fst, val_1.fst.snd.snd.fst,
                                                            (val_1.fst.snd.snd.snd.fst, val_1.fst.snd.snd.snd.snd.fst, val_1.fst.snd.snd.snd.snd.snd.fst, val_1.fst.snd.snd.snd.snd.snd.snd.fst, ()),
                                                            val_1.fst.snd.snd.snd.snd.snd.snd.snd.fst, val_1.fst.snd.snd.snd.snd.snd.snd.snd.snd.fst,
                                                            (val_1.fst.snd.snd.snd.snd.snd.snd.snd.snd.snd.fst, ()), ())).snd.fst.snd.snd.snd.snd.snd.fst,
                                        (val_7.snd.fst, ()), ()),
                                      val_7.snd.snd.fst, ())
                                    1)
                                  fun val => some ((val, ()), ()))
                                fun val_8 =>
                                bif decide (val_8.fst.fst < 0) then some ((false, ()), ())
                                else
                                  bif val_8.fst.fst != val_7.fst.fst then some ((false, ()), ())
                                  else
                                    Option.bind
                                      (Option.bind
                                        (m_laws_toStore
                                          (a0.fst, a0.snd.fst, a0.snd.snd.fst,
                                            (a0.snd.snd.snd.fst.fst, a0.snd.snd.snd.fst.snd.fst, a0.snd.snd.snd.fst.snd.snd.fst, a0.snd.snd.snd.fst.snd.snd.snd.fst, ()), a0.snd.snd.snd.snd.fst,
                                            a0.snd.snd.snd.snd.snd.fst, (a0.snd.snd.snd.snd.snd.snd.fst.fst, ()), ()))
                                        fun val =>
                                        some
                                          ((val.fst, val.snd.fst, val.snd.snd.fst, val.snd.snd.snd.fst.fst, val.snd.snd.snd.fst.snd.fst, val.snd.snd.snd.fst.snd.snd.fst,
                                              val.snd.snd.snd.fst.snd.snd.snd.fst, val.snd.snd.snd.snd.fst, val.snd.snd.snd.snd.snd.fst, val.snd.snd.snd.snd.snd.snd.fst.fst, ()),
                                            ()))
                                      fun val_9 =>
                                      Option.bind
                                        (Option.bind
                                          (m_laws_eqDone
                                            ((m_impl_Compact
                                                  (val_9.fst.fst, val_9.fst.snd.fst, val_9.fst.snd.snd.fst,
                                                    (val_9.fst.snd.snd.snd.fst, val_9.fst.snd.snd.snd.snd.fst, val_9.fst.snd.snd.snd.snd.snd.fst, val_9.fst.snd.snd.snd.snd.snd.snd.fst, ()),
                                                    val_9.fst.snd.snd.snd.snd.snd.snd.snd.fst, val_9.fst.snd.snd.snd.snd.snd.snd.snd.snd.fst, (val_9.fst.snd.snd.snd.snd.snd.snd.snd.snd.snd.fst, ()),
                                                    ())).fst,
                                              ((m_impl_Compact
                                                        (val_9.fst.fst, val_9.fst.snd.fst, val_9.fst.snd.snd.fst,
                                                          (val_9.fst.snd.snd.snd.fst, val_9.fst.snd.snd.snd.snd.fst, val_9.fst.snd.snd.snd.snd.snd.fst, val_9.fst.snd.snd.snd.snd.snd.snd.fst, ()),
                                                          val_9.fst.snd.snd.snd.snd.snd.snd.snd.fst, val_9.fst.snd.snd.snd.snd.snd.snd.snd.snd.fst,
                                                          (val_9.fst.snd.snd.snd.snd.snd.snd.snd.snd.snd.fst, ()), ())).snd.fst.fst,
                                                (m_impl_Compact
                                                          (val_9.fst.fst, val_9.fst.snd.fst, val_9.fst.snd.snd.fst,
                                                            (val_9.fst.snd.snd.snd.fst, val_9.fst.snd.snd.snd.snd.fst, val_9.fst.snd.snd.snd.snd.snd.fst, val_9.fst.snd.snd.snd.snd.snd.snd.fst, ()),
                                                            val_9.fst.snd.snd.snd.snd.snd.snd.snd.fst, val_9.fst.snd.snd.snd.snd.snd.snd.snd.snd.fst,
                                                            (val_9.fst.snd.snd.snd.snd.snd.snd.snd.snd.snd.fst, ()), ())).snd.fst.snd.fst,
                                                (m_impl_Compact
                                                            (val_9.fst.fst, val_9.fst.snd.fst, val_9.fst.snd.snd.fst,
                                                              (val_9.fst.snd.snd.snd.fst, val_9.fst.snd.snd.snd.snd.fst, val_9.fst.snd.snd.snd.snd.snd.fst, val_9.fst.snd.snd.snd.snd.snd.snd.fst, ()),
                                                              val_9.fst.snd.snd.snd.snd.snd.snd.snd.fst, val_9.fst.snd.snd.snd.snd.snd.snd.snd.snd.fst,
                                                              (val_9.fst.snd.snd.snd.snd.snd.snd.snd.snd.snd.fst, ()), ())).snd.fst.snd.snd.fst,
                                                ((m_impl_Compact
                                                                  (val_9.fst.fst, val_9.fst.snd.fst, val_9.fst.snd.snd.fst,
                                                                    (val_9.fst.snd.snd.snd.fst, val_9.fst.snd.snd.snd.snd.fst, val_9.fst.snd.snd.snd.snd.snd.fst, val_9.fst.snd.snd.snd.snd.snd.snd.fst,
                                                                      ()),
                                                                    val_9.fst.snd.snd.snd.snd.snd.snd.snd.fst, val_9.fst.snd.snd.snd.snd.snd.snd.snd.snd.fst,
                                                                    (val_9.fst.snd.snd.snd.snd.snd.snd.snd.snd.snd.fst, ()), ())).snd.fst.snd.snd.snd.fst.fst,
                                                  (m_impl_Compact
                                                                    (val_9.fst.fst, val_9.fst.snd.fst, val_9.fst.snd.snd.fst,
                                                                      (val_9.fst.snd.snd.snd.fst, val_9.fst.snd.snd.snd.snd.fst, val_9.fst.snd.snd.snd.snd.snd.fst, val_9.fst.snd.snd.snd.snd.snd.snd.fst,
                                                                        ()),
                                                                      val_9.fst.snd.snd.snd.snd.snd.snd.snd.fst, val_9.fst.snd.snd.snd.snd.snd.snd.snd.snd.fst,
                                                                      (val_9.fst.snd.snd.snd.snd.snd.snd.snd.snd.snd.fst, ()), ())).snd.fst.snd.snd.snd.fst.snd.fst,
                                                  (m_impl_Compact
                                                                      (val_9.fst.fst, val_9.fst.snd.fst, val_9.fst.snd.snd.fst,
                                                                        (val_9.fst.snd.snd.snd.fst, val_9.fst.snd.snd.snd.snd.fst, val_9.fst.snd.snd.snd.snd.snd.fst,
                                                                          val_9.fst.snd.snd.snd.snd.snd.snd.fst, ()),
                                                                        val_9.fst.snd.snd.snd.snd.snd.snd.snd.fst, val_9.fst.snd.snd.snd.snd.snd.snd.snd.snd.fst,
                                                                        (val_9.fst.snd.snd.snd.snd.snd.snd.snd.snd.snd.fst, ()), ())).snd.fst.snd.snd.snd.fst.snd.snd.fst,
                                                  (m_impl_Compact
                                                                        (val_9.fst.fst, val_9.fst.snd.fst, val_9.fst.snd.snd.fst,
                                                                          (val_9.fst.snd.snd.snd.fst, val_9.fst.snd.snd.snd.snd.fst, val_9.fst.snd.snd.snd.snd.snd.fst,
                                                                            val_9.fst.snd.snd.snd.snd.snd.snd.fst, ()),
                                                                          val_9.fst.snd.snd.snd.snd.snd.snd.snd.fst, val_9.fst.snd.snd.snd.snd.snd.snd.snd.snd.fst,
                                                                          (val_9.fst.snd.snd.snd.snd.snd.snd.snd.snd.snd.fst, ()), ())).snd.fst.snd.snd.snd.fst.snd.snd.snd.fst,
                                                  ()),
                                                (m_impl_Compact
                                                                (val_9.fst.fst, val_9.fst.snd.fst, val_9.fst.snd.snd.fst,
                                                                  (val_9.fst.snd.snd.snd.fst, val_9.fst.snd.snd.snd.snd.fst, val_9.fst.snd.snd.snd.snd.snd.fst, val_9.fst.snd.snd.snd.snd.snd.snd.fst,
                                                                    ()),
                                                                  val_9.fst.snd.snd.snd.snd.snd.snd.snd.fst, val_9.fst.snd.snd.snd.snd.snd.snd.snd.snd.fst,
                                                                  (val_9.fst.snd.snd.snd.snd.snd.snd.snd.snd.snd.fst, ()), ())).snd.fst.snd.snd.snd.snd.fst,
                                                (m_impl_Compact
                                                                  (val_9.fst.fst, val_9.fst.snd.fst, val_9.fst.snd.snd.fst,
                                                                    (val_9.fst.snd.snd.snd.fst, val_9.fst.snd.snd.snd.snd.fst, val_9.fst.snd.snd.snd.snd.snd.fst, val_9.fst.snd.snd.snd.snd.snd.snd.fst,
                                                                      ()),
                                                                    val_9.fst.snd.snd.snd.snd.snd.snd.snd.fst, val_9.fst.snd.snd.snd.snd.snd.snd.snd.snd.fst,
                                                                    (val_9.fst.snd.snd.snd.snd.snd.snd.snd.snd.snd.fst, ()), ())).snd.fst.snd.snd.snd.snd.snd.fst,
                                                ((m_impl_Compact
                                                                        (val_9.fst.fst, val_9.fst.snd.fst, val_9.fst.snd.snd.fst,
                                                                          (val_9.fst.snd.snd.snd.fst, val_9.fst.snd.snd.snd.snd.fst, val_9.fst.snd.snd.snd.snd.snd.fst,
                                                                            val_9.fst.snd.snd.snd.snd.snd.snd.fst, ()),
                                                                          val_9.fst.snd.snd.snd.snd.snd.snd.snd.fst, val_9.fst.snd.snd.snd.snd.snd.snd.snd.snd.fst,
                                                                          (val_9.fst.snd.snd.snd.snd.snd.snd.snd.snd.snd.fst, ()), ())).snd.fst.snd.snd.snd.snd.snd.snd.fst.fst,
                                                  ()),
                                                ()),
                                              (m_impl_Compact
                                                      (val_9.fst.fst, val_9.fst.snd.fst, val_9.fst.snd.snd.fst,
                                                        (val_9.fst.snd.snd.snd.fst, val_9.fst.snd.snd.snd.snd.fst, val_9.fst.snd.snd.snd.snd.snd.fst, val_9.fst.snd.snd.snd.snd.snd.snd.fst, ()),
                                                        val_9.fst.snd.snd.snd.snd.snd.snd.snd.fst, val_9.fst.snd.snd.snd.snd.snd.snd.snd.snd.fst, (val_9.fst.snd.snd.snd.snd.snd.snd.snd.snd.snd.fst, ()),
                                                        ())).snd.snd.fst,
                                              ())
                                            ((m_spec_Compact
                                                  (val.fst.fst, val.fst.snd.fst, val.fst.snd.snd.fst,
                                                    (val.fst.snd.snd.snd.fst, val.fst.snd.snd.snd.snd.fst, val.fst.snd.snd.snd.snd.snd.fst, val.fst.snd.snd.snd.snd.snd.snd.fst, ()),
                                                    val.fst.snd.snd.snd.snd.snd.snd.snd.fst, val.fst.snd.snd.snd.snd.snd.snd.snd.snd.fst, (val.fst.snd.snd.snd.snd.snd.snd.snd.snd.snd.fst, ()), ())).fst,
                                              ((m_spec_Compact
                                                        (val.fst.fst, val.fst.snd.fst, val.fst.snd.snd.fst,
                                                          (val.fst.snd.snd.snd.fst, val.fst.snd.snd.snd.snd.fst, val.fst.snd.snd.snd.snd.snd.fst, val.fst.snd.snd.snd.snd.snd.snd.fst, ()),
                                                          val.fst.snd.snd.snd.snd.snd.snd.snd.fst, val.fst.snd.snd.snd.snd.snd.snd.snd.snd.fst, (val.fst.snd.snd.snd.snd.snd.snd.snd.snd.snd.fst, ()),
                                                          ())).snd.fst.fst,
                                                (m_spec_Compact
                                                          (val.fst.fst, val.fst.snd.fst, val.fst.snd.snd.fst,
                                                            (val.fst.snd.snd.snd.fst, val.fst.snd.snd.snd.snd.fst, val.fst.snd.snd.snd.snd.snd.fst, val.fst.snd.snd.snd.snd.snd.snd.fst, ()),
                                                            val.fst.snd.snd.snd.snd.snd.snd.snd.fst, val.fst.snd.snd.snd.snd.snd.snd.snd.snd.fst, (val.fst.snd.snd.snd.snd.snd.snd.snd.snd.snd.fst, ()),
                                                            ())).snd.fst.snd.fst,
                                                (m_spec_Compact
                                                            (val.fst.fst, val.fst.snd.fst, val.fst.snd.snd.fst,
                                                              (val.fst.snd.snd.snd.fst, val.fst.snd.snd.snd.snd.fst, val.fst.snd.snd.snd.snd.snd.fst, val.fst.snd.snd.snd.snd.snd.snd.fst, ()),
                                                              val.fst.snd.snd.snd.snd.snd.snd.snd.fst, val.fst.snd.snd.snd.snd.snd.snd.snd.snd.fst, (val.fst.snd.snd.snd.snd.snd.snd.snd.snd.snd.fst, ()),
                                                              ())).snd.fst.snd.snd.fst,
                                                ((m_spec_Compact
                                                                  (val.fst.fst, val.fst.snd.fst, val.fst.snd.snd.fst,
                                                                    (val.fst.snd.snd.snd.fst, val.fst.snd.snd.snd.snd.fst, val.fst.snd.snd.snd.snd.snd.fst, val.fst.snd.snd.snd.snd.snd.snd.fst, ()),
                                                                    val.fst.snd.snd.snd.snd.snd.snd.snd.fst, val.fst.snd.snd.snd.snd.snd.snd.snd.snd.fst,
                                                                    (val.fst.snd.snd.snd.snd.snd.snd.snd.snd.snd.fst, ()), ())).snd.fst.snd.snd.snd.fst.fst,
                                                  (m_spec_Compact
                                                                    (val.fst.fst, val.fst.snd.fst, val.fst.snd.snd.fst,
                                                                      (val.fst.snd.snd.snd.fst, val.fst.snd.snd.snd.snd.fst, val.fst.snd.snd.snd.snd.snd.fst, val.fst.snd.snd.snd.snd.snd.snd.fst, ()),
                                                                      val.fst.snd.snd.snd.snd.snd.snd.snd.fst, val.fst.snd.snd.snd.snd.snd.snd.snd.snd.fst,
                                                                      (val.fst.snd.snd.snd.snd.snd.snd.snd.snd.snd.fst, ()), ())).snd.fst.snd.snd.snd.fst.snd.fst,
                                                  (m_spec_Compact
                                                                      (val.fst.fst, val.fst.snd.fst, val.fst.snd.snd.fst,
                                                                        (val.fst.snd.snd.snd.fst, val.fst.snd.snd.snd.snd.fst, val.fst.snd.snd.snd.snd.snd.fst, val.fst.snd.snd.snd.snd.snd.snd.fst, ()),
                                                                        val.fst.snd.snd.snd.snd.snd.snd.snd.fst, val.fst.snd.snd.snd.snd.snd.snd.snd.snd.fst,
                                                                        (val.fst.snd.snd.snd.snd.snd.snd.snd.snd.snd.fst, ()), ())).snd.fst.snd.snd.snd.fst.snd.snd.fst,
                                                  (m_spec_Compact
                                                                        (val.fst.fst, val.fst.snd.fst, val.fst.snd.snd.fst,
                                                                          (val.fst.snd.snd.snd.fst, val.fst.snd.snd.snd.snd.fst, val.fst.snd.snd.snd.snd.snd.fst, val.fst.snd.snd.snd.snd.snd.snd.fst,
                                                                            ()),
                                                                          val.fst.snd.snd.snd.snd.snd.snd.snd.fst, val.fst.snd.snd.snd.snd.snd.snd.snd.snd.fst,
                                                                          (val.fst.snd.snd.snd.snd.snd.snd.snd.snd.snd.fst, ()), ())).snd.fst.snd.snd.snd.fst.snd.snd.snd.fst,
                                                  ()),
                                                (m_spec_Compact
                                                                (val.fst.fst, val.fst.snd.fst, val.fst.snd.snd.fst,
                                                                  (val.fst.snd.snd.snd.fst, val.fst.snd.snd.snd.snd.fst, val.fst.snd.snd.snd.snd.snd.fst, val.fst.snd.snd.snd.snd.snd.snd.fst, ()),
                                                                  val.fst.snd.snd.snd.snd.snd.snd.snd.fst, val.fst.snd.snd.snd.snd.snd.snd.snd.snd.fst,
                                                                  (val.fst.snd.snd.snd.snd.snd.snd.snd.snd.snd.fst, ()), ())).snd.fst.snd.snd.snd.snd.fst,
                                                (m_spec_Compact
                                                                  (val.fst.fst, val.fst.snd.fst, val.fst.snd.snd.fst,
                                                                    (val.fst.snd.snd.snd.fst, val.fst.snd.snd.snd.snd.fst, val.fst.snd.snd.snd.snd.snd.fst, val.fst.snd.snd.snd.snd.snd.snd.fst, ()),
                                                                    val.fst.snd.snd.snd.snd.snd.snd.snd.fst, val.fst.snd.snd.snd.snd.snd.snd.snd.snd.fst,
                                                                    (val.fst.snd.snd.snd.snd.snd.snd.snd.snd.snd.fst, ()), ())).snd.fst.snd.snd.snd.snd.snd.fst,
                                                ((m_spec_Compact
                                                                        (val.fst.fst, val.fst.snd.fst, val.fst.snd.snd.fst,
                                                                          (val.fst.snd.snd.snd.fst, val.fst.snd.snd.snd.snd.fst, val.fst.snd.snd.snd.snd.snd.fst, val.fst.snd.snd.snd.snd.snd.snd.fst,
                                                                            ()),
                                                                          val.fst.snd.snd.snd.snd.snd.snd.snd.fst, val.fst.snd.snd.snd.snd.snd.snd.snd.snd.fst,
                                                                          (val.fst.snd.snd.snd.snd.snd.snd.snd.snd.snd.fst, ()), ())).snd.fst.snd.snd.snd.snd.snd.snd.fst.fst,
                                                  ()),
                                                ()),
                                              (m_spec_Compact
                                                      (val.fst.fst, val.fst.snd.fst, val.fst.snd.snd.fst,
                                                        (val.fst.snd.snd.snd.fst, val.fst.snd.snd.snd.snd.fst, val.fst.snd.snd.snd.snd.snd.fst, val.fst.snd.snd.snd.snd.snd.snd.fst, ()),
                                                        val.fst.snd.snd.snd.snd.snd.snd.snd.fst, val.fst.snd.snd.snd.snd.snd.snd.snd.snd.fst, (val.fst.snd.snd.snd.snd.snd.snd.snd.snd.snd.fst, ()),
                                                        ())).snd.snd.fst,
                                              ()))
                                          fun val => some ((val, ()), ()))
                                        fun val =>
                                        bif !val.fst.fst then some ((false, ()), ())
                                        else
                                          Option.bind
                                            (Option.bind
                                              (m_laws_heldDone
                                                ((m_impl_Compact
                                                      (val_1.fst.fst, val_1.fst.snd.fst, val_1.fst.snd.snd.fst,
                                                        (val_1.fst.snd.snd.snd.fst, val_1.fst.snd.snd.snd.snd.fst, val_1.fst.snd.snd.snd.snd.snd.fst, val_1.fst.snd.snd.snd.snd.snd.snd.fst, ()),
                                                        val_1.fst.snd.snd.snd.snd.snd.snd.snd.fst, val_1.fst.snd.snd.snd.snd.snd.snd.snd.snd.fst, (val_1.fst.snd.snd.snd.snd.snd.snd.snd.snd.snd.fst, ()),
                                                        ())).fst,
                                                  ((m_impl_Compact
                                                            (val_1.fst.fst, val_1.fst.snd.fst, val_1.fst.snd.snd.fst,
                                                              (val_1.fst.snd.snd.snd.fst, val_1.fst.snd.snd.snd.snd.fst, val_1.fst.snd.snd.snd.snd.snd.fst, val_1.fst.snd.snd.snd.snd.snd.snd.fst, ()),
                                                              val_1.fst.snd.snd.snd.snd.snd.snd.snd.fst, val_1.fst.snd.snd.snd.snd.snd.snd.snd.snd.fst,
                                                              (val_1.fst.snd.snd.snd.snd.snd.snd.snd.snd.snd.fst, ()), ())).snd.fst.fst,
                                                    (m_impl_Compact
                                                              (val_1.fst.fst, val_1.fst.snd.fst, val_1.fst.snd.snd.fst,
                                                                (val_1.fst.snd.snd.snd.fst, val_1.fst.snd.snd.snd.snd.fst, val_1.fst.snd.snd.snd.snd.snd.fst, val_1.fst.snd.snd.snd.snd.snd.snd.fst, ()),
                                                                val_1.fst.snd.snd.snd.snd.snd.snd.snd.fst, val_1.fst.snd.snd.snd.snd.snd.snd.snd.snd.fst,
                                                                (val_1.fst.snd.snd.snd.snd.snd.snd.snd.snd.snd.fst, ()), ())).snd.fst.snd.fst,
                                                    (m_impl_Compact
                                                                (val_1.fst.fst, val_1.fst.snd.fst, val_1.fst.snd.snd.fst,
                                                                  (val_1.fst.snd.snd.snd.fst, val_1.fst.snd.snd.snd.snd.fst, val_1.fst.snd.snd.snd.snd.snd.fst, val_1.fst.snd.snd.snd.snd.snd.snd.fst,
                                                                    ()),
                                                                  val_1.fst.snd.snd.snd.snd.snd.snd.snd.fst, val_1.fst.snd.snd.snd.snd.snd.snd.snd.snd.fst,
                                                                  (val_1.fst.snd.snd.snd.snd.snd.snd.snd.snd.snd.fst, ()), ())).snd.fst.snd.snd.fst,
                                                    ((m_impl_Compact
                                                                      (val_1.fst.fst, val_1.fst.snd.fst, val_1.fst.snd.snd.fst,
                                                                        (val_1.fst.snd.snd.snd.fst, val_1.fst.snd.snd.snd.snd.fst, val_1.fst.snd.snd.snd.snd.snd.fst,
                                                                          val_1.fst.snd.snd.snd.snd.snd.snd.fst, ()),
                                                                        val_1.fst.snd.snd.snd.snd.snd.snd.snd.fst, val_1.fst.snd.snd.snd.snd.snd.snd.snd.snd.fst,
                                                                        (val_1.fst.snd.snd.snd.snd.snd.snd.snd.snd.snd.fst, ()), ())).snd.fst.snd.snd.snd.fst.fst,
                                                      (m_impl_Compact
                                                                        (val_1.fst.fst, val_1.fst.snd.fst, val_1.fst.snd.snd.fst,
                                                                          (val_1.fst.snd.snd.snd.fst, val_1.fst.snd.snd.snd.snd.fst, val_1.fst.snd.snd.snd.snd.snd.fst,
                                                                            val_1.fst.snd.snd.snd.snd.snd.snd.fst, ()),
                                                                          val_1.fst.snd.snd.snd.snd.snd.snd.snd.fst, val_1.fst.snd.snd.snd.snd.snd.snd.snd.snd.fst,
                                                                          (val_1.fst.snd.snd.snd.snd.snd.snd.snd.snd.snd.fst, ()), ())).snd.fst.snd.snd.snd.fst.snd.fst,
                                                      (m_impl_Compact
                                                                          (val_1.fst.fst, val_1.fst.snd.fst, val_1.fst.snd.snd.fst,
                                                                            (val_1.fst.snd.snd.snd.fst, val_1.fst.snd.snd.snd.snd.fst, val_1.fst.snd.snd.snd.snd.snd.fst,
                                                                              val_1.fst.snd.snd.snd.snd.snd.snd.fst, ()),
                                                                            val_1.fst.snd.snd.snd.snd.snd.snd.snd.fst, val_1.fst.snd.snd.snd.snd.snd.snd.snd.snd.fst,
                                                                            (val_1.fst.snd.snd.snd.snd.snd.snd.snd.snd.snd.fst, ()), ())).snd.fst.snd.snd.snd.fst.snd.snd.fst,
                                                      (m_impl_Compact
                                                                            (val_1.fst.fst, val_1.fst.snd.fst, val_1.fst.snd.snd.fst,
                                                                              (val_1.fst.snd.snd.snd.fst, val_1.fst.snd.snd.snd.snd.fst, val_1.fst.snd.snd.snd.snd.snd.fst,
                                                                                val_1.fst.snd.snd.snd.snd.snd.snd.fst, ()),
                                                                              val_1.fst.snd.snd.snd.snd.snd.snd.snd.fst, val_1.fst.snd.snd.snd.snd.snd.snd.snd.snd.fst,
                                                                              (val_1.fst.snd.snd.snd.snd.snd.snd.snd.snd.snd.fst, ()), ())).snd.fst.snd.snd.snd.fst.snd.snd.snd.fst,
                                                      ()),
                                                    (m_impl_Compact
                                                                    (val_1.fst.fst, val_1.fst.snd.fst, val_1.fst.snd.snd.fst,
                                                                      (val_1.fst.snd.snd.snd.fst, val_1.fst.snd.snd.snd.snd.fst, val_1.fst.snd.snd.snd.snd.snd.fst, val_1.fst.snd.snd.snd.snd.snd.snd.fst,
                                                                        ()),
                                                                      val_1.fst.snd.snd.snd.snd.snd.snd.snd.fst, val_1.fst.snd.snd.snd.snd.snd.snd.snd.snd.fst,
                                                                      (val_1.fst.snd.snd.snd.snd.snd.snd.snd.snd.snd.fst, ()), ())).snd.fst.snd.snd.snd.snd.fst,
                                                    (m_impl_Compact
                                                                      (val_1.fst.fst, val_1.fst.snd.fst, val_1.fst.snd.snd.fst,
                                                                        (val_1.fst.snd.snd.snd.fst, val_1.fst.snd.snd.snd.snd.fst, val_1.fst.snd.snd.snd.snd.snd.fst,
                                                                          val_1.fst.snd.snd.snd.snd.snd.snd.fst, ()),
                                                                        val_1.fst.snd.snd.snd.snd.snd.snd.snd.fst, val_1.fst.snd.snd.snd.snd.snd.snd.snd.snd.fst,
                                                                        (val_1.fst.snd.snd.snd.snd.snd.snd.snd.snd.snd.fst, ()), ())).snd.fst.snd.snd.snd.snd.snd.fst,
                                                    (val_7.snd.fst, ()), ()),
                                                  val_7.snd.snd.fst, ())
                                                1)
                                              fun val => some ((val, ()), ()))
                                            fun val =>
                                            bif decide (val.fst.fst < 0) then some ((false, ()), ()) else bif val.fst.fst != val_7.fst.fst then some ((false, ()), ()) else some ((true, ()), ())
noncomputable def sd_laws_FnExactCompact : SD := ⟨sg_laws_FnExactCompact, fun x => de_laws_FnExactCompact x.1⟩
theorem law_FnExactCompact (a0 : Int × Int × Int × (Int × Int × Int × Int × Unit) × Int × Int × ((List (ByteArray × ByteArray × Unit)) × Unit) × Unit) (h0 : FineD (.pair (.int .i64) (.pair (.int .i64) (.pair (.int .i64) (.pair (.pair (.int .i64) (.pair (.int .i64) (.pair (.int .i64) (.pair (.int .i64) .unit)))) (.pair (.int .i64) (.pair (.int .i64) (.pair (.pair (.sl (.pair .str (.pair .str .unit))) .unit) .unit))))))) a0) : de_laws_FnExactCompact a0 = some ((true, ()), ()) := by
  have hf0 := fine_of h0
  unfold de_laws_FnExactCompact
  rcases sz_cases (l0 := 1048576) hf0 (by first | decide | assumption) (by first | decide | assumption) (m := m_laws_szStore (a0.fst, a0.snd.fst, a0.snd.snd.fst, (a0.snd.snd.snd.fst.fst, a0.snd.snd.snd.fst.snd.fst, a0.snd.snd.snd.fst.snd.snd.fst, a0.snd.snd.snd.fst.snd.snd.snd.fst, ()), a0.snd.snd.snd.snd.fst, a0.snd.snd.snd.snd.snd.fst, (a0.snd.snd.snd.snd.snd.snd.fst.fst, ()), ()) 1048576) rfl with e0 | ⟨l0, e0, g0, k0, s0, q0⟩
  · simp only [e0, Option.bind_some, lt_m1, cond_true, cond_false]
  · skip
    have t0 : m_laws_toStore (a0.fst, a0.snd.fst, a0.snd.snd.fst, (a0.snd.snd.snd.fst.fst, a0.snd.snd.snd.fst.snd.fst, a0.snd.snd.snd.fst.snd.snd.fst, a0.snd.snd.snd.fst.snd.snd.snd.fst, ()), a0.snd.snd.snd.snd.fst, a0.snd.snd.snd.snd.snd.fst, (a0.snd.snd.snd.snd.snd.snd.fst.fst, ()), ()) = some (a0.fst, a0.snd.fst, a0.snd.snd.fst, (a0.snd.snd.snd.fst.fst, a0.snd.snd.snd.fst.snd.fst, a0.snd.snd.snd.fst.snd.snd.fst, a0.snd.snd.snd.fst.snd.snd.snd.fst, ()), a0.snd.snd.snd.snd.fst, a0.snd.snd.snd.snd.snd.fst, (a0.snd.snd.snd.snd.snd.snd.fst.fst, ()), ()) := toM_is (t := (.pair (.int .i64) (.pair (.int .i64) (.pair (.int .i64) (.pair (.pair (.int .i64) (.pair (.int .i64) (.pair (.int .i64) (.pair (.int .i64) .unit)))) (.pair (.int .i64) (.pair (.int .i64) (.pair (.pair (.sl (.pair .str (.pair .str .unit))) .unit) .unit)))))))) (x := a0) s0
    have u0 : m_laws_eqStore (a0.fst, a0.snd.fst, a0.snd.snd.fst, (a0.snd.snd.snd.fst.fst, a0.snd.snd.snd.fst.snd.fst, a0.snd.snd.snd.fst.snd.snd.fst, a0.snd.snd.snd.fst.snd.snd.snd.fst, ()), a0.snd.snd.snd.snd.fst, a0.snd.snd.snd.snd.snd.fst, (a0.snd.snd.snd.snd.snd.snd.fst.fst, ()), ()) (a0.fst, a0.snd.fst, a0.snd.snd.fst, (a0.snd.snd.snd.fst.fst, a0.snd.snd.snd.fst.snd.fst, a0.snd.snd.snd.fst.snd.snd.fst, a0.snd.snd.snd.fst.snd.snd.snd.fst, ()), a0.snd.snd.snd.snd.fst, a0.snd.snd.snd.snd.snd.fst, (a0.snd.snd.snd.snd.snd.snd.fst.fst, ()), ()) = some true := eqM_self (t := (.pair (.int .i64) (.pair (.int .i64) (.pair (.int .i64) (.pair (.pair (.int .i64) (.pair (.int .i64) (.pair (.int .i64) (.pair (.int .i64) .unit)))) (.pair (.int .i64) (.pair (.int .i64) (.pair (.pair (.sl (.pair .str (.pair .str .unit))) .unit) .unit)))))))) (x := a0) hf0
    have gw : m_spec_Compact (a0.fst, a0.snd.fst, a0.snd.snd.fst, (a0.snd.snd.snd.fst.fst, a0.snd.snd.snd.fst.snd.fst, a0.snd.snd.snd.fst.snd.snd.fst, a0.snd.snd.snd.fst.snd.snd.snd.fst, ()), a0.snd.snd.snd.snd.fst, a0.snd.snd.snd.snd.snd.fst, (a0.snd.snd.snd.snd.snd.snd.fst.fst, ()), ()) = m_impl_Compact (a0.fst, a0.snd.fst, a0.snd.snd.fst, (a0.snd.snd.snd.fst.fst, a0.snd.snd.snd.fst.snd.fst, a0.snd.snd.snd.fst.snd.snd.fst, a0.snd.snd.snd.fst.snd.snd.snd.fst, ()), a0.snd.snd.snd.snd.fst, a0.snd.snd.snd.snd.snd.fst, (a0.snd.snd.snd.snd.snd.snd.fst.fst, ()), ()) := rfl
    have gg0 : goodB (.pair (.int .i64) (.pair (.pair (.int .i64) (.pair (.int .i64) (.pair (.int .i64) (.pair (.pair (.int .i64) (.pair (.int .i64) (.pair (.int .i64) (.pair (.int .i64) .unit)))) (.pair (.int .i64) (.pair (.int .i64) (.pair (.pair (.sl (.pair .str (.pair .str .unit))) .unit) .unit))))))) (.pair (.sl (.pair .bool (.pair (.int .i64) (.pair .str .unit)))) .unit))) (m_impl_Compact (a0.fst, a0.snd.fst, a0.snd.snd.fst, (a0.snd.snd.snd.fst.fst, a0.snd.snd.snd.fst.snd.fst, a0.snd.snd.snd.fst.snd.snd.fst, a0.snd.snd.snd.fst.snd.snd.snd.fst, ()), a0.snd.snd.snd.snd.fst, a0.snd.snd.snd.snd.snd.fst, (a0.snd.snd.snd.snd.snd.snd.fst.fst, ()), ())) = true := compact_good _
    simp only [e0, q0, t0, u0, Option.bind_some, cond_false, gw]
    generalize m_impl_Compact (a0.fst, a0.snd.fst, a0.snd.snd.fst, (a0.snd.snd.snd.fst.fst, a0.snd.snd.snd.fst.snd.fst, a0.snd.snd.snd.fst.snd.snd.fst, a0.snd.snd.snd.fst.snd.snd.snd.fst, ()), a0.snd.snd.snd.snd.fst, a0.snd.snd.snd.snd.snd.fst, (a0.snd.snd.snd.snd.snd.snd.fst.fst, ()), ()) = g at *
    have v0 : m_laws_eqDone (g.fst, (g.snd.fst.fst, g.snd.fst.snd.fst, g.snd.fst.snd.snd.fst, (g.snd.fst.snd.snd.snd.fst.fst, g.snd.fst.snd.snd.snd.fst.snd.fst, g.snd.fst.snd.snd.snd.fst.snd.snd.fst, g.snd.fst.snd.snd.snd.fst.snd.snd.snd.fst, ()), g.snd.fst.snd.snd.snd.snd.fst, g.snd.fst.snd.snd.snd.snd.snd.fst, (g.snd.fst.snd.snd.snd.snd.snd.snd.fst.fst, ()), ()), g.snd.snd.fst, ()) (g.fst, (g.snd.fst.fst, g.snd.fst.snd.fst, g.snd.fst.snd.snd.fst, (g.snd.fst.snd.snd.snd.fst.fst, g.snd.fst.snd.snd.snd.fst.snd.fst, g.snd.fst.snd.snd.snd.fst.snd.snd.fst, g.snd.fst.snd.snd.snd.fst.snd.snd.snd.fst, ()), g.snd.fst.snd.snd.snd.snd.fst, g.snd.fst.snd.snd.snd.snd.snd.fst, (g.snd.fst.snd.snd.snd.snd.snd.snd.fst.fst, ()), ()), g.snd.snd.fst, ()) = some true := eqM_self (t := (.pair (.int .i64) (.pair (.pair (.int .i64) (.pair (.int .i64) (.pair (.int .i64) (.pair (.pair (.int .i64) (.pair (.int .i64) (.pair (.int .i64) (.pair (.int .i64) .unit)))) (.pair (.int .i64) (.pair (.int .i64) (.pair (.pair (.sl (.pair .str (.pair .str .unit))) .unit) .unit))))))) (.pair (.sl (.pair .bool (.pair (.int .i64) (.pair .str .unit)))) .unit)))) (x := g) (good_fine gg0)
    have Lx0 := s0
    simp only [smallB, goodB, Bool.and_eq_true, decide_eq_true_eq, and_true, true_and] at Lx0
    obtain ⟨kx0_0, yx0_0, mx0_0, bx0_0, cx0_0, dx0_0⟩ : ∃ (k2 : Int) (ys : List (ByteArray × ByteArray × Unit)), markM (.pair .str (.pair .str .unit)) a0.snd.snd.snd.snd.snd.snd.fst.fst 1 = (some (k2, ys) : Option (Int × List (ByteArray × ByteArray × Unit))) ∧ 1 ≤ k2 ∧ k2 ≤ 1 + 1073741824 * ((2 : Nat) : Int) ∧ heldM (.pair .str (.pair .str .unit)) ys 1 = some k2 := mk_ex (t := (.pair .str (.pair .str .unit))) (xs := a0.snd.snd.snd.snd.snd.snd.fst.fst) (k := 1) 2 rfl (by omega) (by omega) (by omega)
    have mkx0 : m_laws_markStore (a0.fst, a0.snd.fst, a0.snd.snd.fst, (a0.snd.snd.snd.fst.fst, a0.snd.snd.snd.fst.snd.fst, a0.snd.snd.snd.fst.snd.snd.fst, a0.snd.snd.snd.fst.snd.snd.snd.fst, ()), a0.snd.snd.snd.snd.fst, a0.snd.snd.snd.snd.snd.fst, (a0.snd.snd.snd.snd.snd.snd.fst.fst, ()), ()) 1 = some (kx0_0, yx0_0) := bi_ mx0_0 (rfl)
    have nkx : decide (kx0_0 < 0) = false := decide_eq_false (by omega)
    have Lz0 := gg0
    simp only [smallB, goodB, Bool.and_eq_true, decide_eq_true_eq, and_true, true_and] at Lz0
    obtain ⟨kz0_0, yz0_0, mz0_0, bz0_0, cz0_0, dz0_0⟩ : ∃ (k2 : Int) (ys : List (ByteArray × ByteArray × Unit)), markM (.pair .str (.pair .str .unit)) g.snd.fst.snd.snd.snd.snd.snd.snd.fst.fst 1 = (some (k2, ys) : Option (Int × List (ByteArray × ByteArray × Unit))) ∧ 1 ≤ k2 ∧ k2 ≤ 1 + 1073741824 * ((2 : Nat) : Int) ∧ heldM (.pair .str (.pair .str .unit)) ys 1 = some k2 := mk_ex (t := (.pair .str (.pair .str .unit))) (xs := g.snd.fst.snd.snd.snd.snd.snd.snd.fst.fst) (k := 1) 2 rfl (by omega) (by omega) (by omega)
    obtain ⟨kz0_1, yz0_1, mz0_1, bz0_1, cz0_1, dz0_1⟩ : ∃ (k2 : Int) (ys : List (Bool × Int × ByteArray × Unit)), markM (.pair .bool (.pair (.int .i64) (.pair .str .unit))) g.snd.snd.fst kz0_0 = (some (k2, ys) : Option (Int × List (Bool × Int × ByteArray × Unit))) ∧ kz0_0 ≤ k2 ∧ k2 ≤ kz0_0 + 1073741824 * ((3 : Nat) : Int) ∧ heldM (.pair .bool (.pair (.int .i64) (.pair .str .unit))) ys kz0_0 = some k2 := mk_ex (t := (.pair .bool (.pair (.int .i64) (.pair .str .unit)))) (xs := g.snd.snd.fst) (k := kz0_0) 3 rfl (by omega) (by omega) (by omega)
    have mkz0 : m_laws_markDone (g.fst, (g.snd.fst.fst, g.snd.fst.snd.fst, g.snd.fst.snd.snd.fst, (g.snd.fst.snd.snd.snd.fst.fst, g.snd.fst.snd.snd.snd.fst.snd.fst, g.snd.fst.snd.snd.snd.fst.snd.snd.fst, g.snd.fst.snd.snd.snd.fst.snd.snd.snd.fst, ()), g.snd.fst.snd.snd.snd.snd.fst, g.snd.fst.snd.snd.snd.snd.snd.fst, (g.snd.fst.snd.snd.snd.snd.snd.snd.fst.fst, ()), ()), g.snd.snd.fst, ()) 1 = some (kz0_1, yz0_0, yz0_1) := bi_ mz0_0 (bi_ mz0_1 (rfl))
    have nnz0_0 : ¬ kz0_0 < 0 := by omega
    have nnz0_1 : ¬ kz0_1 < 0 := by omega
    have hdz0 : m_laws_heldDone (g.fst, (g.snd.fst.fst, g.snd.fst.snd.fst, g.snd.fst.snd.snd.fst, (g.snd.fst.snd.snd.snd.fst.fst, g.snd.fst.snd.snd.snd.fst.snd.fst, g.snd.fst.snd.snd.snd.fst.snd.snd.fst, g.snd.fst.snd.snd.snd.fst.snd.snd.snd.fst, ()), g.snd.fst.snd.snd.snd.snd.fst, g.snd.fst.snd.snd.snd.snd.snd.fst, (yz0_0, ()), ()), yz0_1, ()) 1 = some kz0_1 := bi_ dz0_0 ((if_neg nnz0_0).trans (bi_ dz0_1 (congrArg some (if_neg nnz0_1))))
    have nkz : decide (kz0_1 < 0) = false := decide_eq_false (by omega)
    simp only [e0, q0, t0, u0, v0, mkx0, nkx, mkz0, hdz0, nkz, Option.bind_some, cond_false, cond_true, beq_self_eq_true, bne_self_eq_false, Bool.not_true, Bool.or_self, Bool.false_or]
theorem en_laws_FnExactCompact (a0 : Int × Int × Int × (Int × Int × Int × Int × Unit) × Int × Int × ((List (ByteArray × ByteArray × Unit)) × Unit) × Unit) : evalF Try.prog ta_laws_FnExactCompact pa_laws_FnExactCompact sg_laws_FnExactCompact Try.f3 noL (a0, ()) = de_laws_FnExactCompact a0 := by kernel_rfl
theorem si_laws_FnExactCompact : SigsOk Try.prog ta_laws_FnExactCompact := SigsOk.of fun f sd h => by
  try dsimp only [Tb.of, ta_laws_FnExactCompact] at h
  split at h
  · rename_i e; subst e; cases h; exact sn_laws_szStore
  split at h
  · rename_i e; subst e; cases h; exact sn_spec_Compact
  split at h
  · rename_i e; subst e; cases h; exact sn_laws_toStore
  split at h
  · rename_i e; subst e; cases h; exact sn_impl_Compact
  split at h
  · rename_i e; subst e; cases h; exact sn_laws_eqDone
  split at h
  · rename_i e; subst e; cases h; exact sn_laws_eqStore
  split at h
  · rename_i e; subst e; cases h; exact sn_laws_markStore
  split at h
  · rename_i e; subst e; cases h; exact sn_laws_markDone
  split at h
  · rename_i e; subst e; cases h; exact sn_laws_heldDone
  cases h
theorem sn_laws_FnExactCompact : Callable Try.prog 3 ∧ Sound Try.prog 3 sd_laws_FnExactCompact.sg sd_laws_FnExactCompact.den :=
  fn_plain (pat := pa_laws_FnExactCompact) (by kernel_rfl) si_laws_FnExactCompact Try.func3 (by kernel_rfl) (by kernel_rfl) (by kernel_rfl) fun x r h => by
    obtain ⟨a0, ⟨⟩⟩ := x; exact (en_laws_FnExactCompact a0).trans h
end Go.Proofs.Yteaoabdlcefkhaa.V
