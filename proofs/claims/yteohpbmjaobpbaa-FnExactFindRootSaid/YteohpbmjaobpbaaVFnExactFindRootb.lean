/- What the functions that FnExactFindRoot reaches come to: part 2. No condition. -/
import Derived.Test.YteohpbmjaobpbaaVFnExactFindRoota
import Derived.KernelRfl
namespace Go.Proofs.Yteohpbmjaobpbaa.V
open Go Go.Proofs.Yteohpbmjaobpbaa.R Go.Proofs
set_option maxRecDepth 100000
set_option linter.unusedVariables false
set_option linter.unusedSimpArgs false
def m_impl_FindRoot (d : Dk) (w : Int) : Rt := findRoot d w
def fu_impl_FindRoot_6 (v1 v6 : Int) (b0_0 : List ByteArray) (b0_1 : List Wr) (b1_0 b1_1 b1_2 b1_3 b2_0 b2_1 b2_2 b2_3 : Int) : Nat := 3
def sg_impl_FindRoot : Sig := ⟨[.rd (.pair (.sl .str) (.pair (.sl (.pair (.int .i64) (.pair .str .unit))) .unit)), .rd (.int .i64)], [some 2, none], [.rd (.pair (.int .i64) (.pair (.int .i64) (.pair (.int .i64) (.pair (.int .i64) .unit))))], [some 4]⟩
noncomputable def sd_impl_FindRoot : SD := ⟨sg_impl_FindRoot, fun x => some (((m_impl_FindRoot x.1 x.2.1), ()), (()))⟩
noncomputable def ta_impl_FindRoot : Tb := Tb.of fun f => if f = 29 then some sd_impl_in else if f = 43 then some sd_impl_ValidDisk else if f = 50 then some sd_impl_ReadPage else if f = 51 then some sd_impl_see else if f = 52 then some sd_impl_num else if f = 53 then some sd_impl_validRoot else none
def pa_impl_FindRoot : Nat → Pat × (Nat → Pat) := fun k => if k = 6 then (⟨[.boxSl 2 0 .str, .boxSl 2 1 (.pair (.int .i64) (.pair .str .unit))], [(1, .lf (.d (.int .i64))), (2, .lf (.ptr 0 0)), (4, .lf (.ptr 1 0)), (5, .lf (.ptr 2 0)), (6, .lf (.d (.int .i64)))], [.box 35 [.d (.sl .str), .d (.sl (.pair (.int .i64) (.pair .str .unit)))], .box 46 [.d (.int .i64), .d (.int .i64), .d (.int .i64), .d (.int .i64)], .box 46 [.d (.int .i64), .d (.int .i64), .d (.int .i64), .d (.int .i64)]]⟩, fun e => if e = 2 then ⟨[], [(4, .lf (.ptr 0 0)), (5, .lf (.ptr 1 0))], [.box 46 [.d (.int .i64), .d (.int .i64), .d (.int .i64), .d (.int .i64)], .box 46 [.d (.int .i64), .d (.int .i64), .d (.int .i64), .d (.int .i64)]]⟩ else ⟨[], [], []⟩) else (⟨[], [], []⟩, fun _ => ⟨[], [], []⟩)
noncomputable def co_impl_FindRoot_6 : Code := (loopsIn (bodyOf Try.f23)).getD 0 .skip
noncomputable def tr_impl_FindRoot_6 {R : Type}  (NX : ((Int) × (Int) × (List ByteArray) × (List (Int × ByteArray × Unit)) × (Int) × (Int) × (Int) × (Int) × (Int) × (Int) × (Int) × (Int) × Unit) → Option R) (X2 : ((Int) × (Int) × (Int) × (Int) × (Int) × (Int) × (Int) × (Int) × Unit) → Option R) (v1 : Int) (v6 : Int) (b0_0 : List ByteArray) (b0_1 : List (Int × ByteArray × Unit)) (b1_0 : Int) (b1_1 : Int) (b1_2 : Int) (b1_3 : Int) (b2_0 : Int) (b2_1 : Int) (b2_2 : Int) (b2_3 : Int) : Option R :=
  bif decide (v6 < 2) then
    Option.bind (Option.bind (m_impl_see (b0_0, b0_1, ()) v6) fun val => some ((val, ()), ())) fun val =>
      bif !(m_impl_ReadPage val.fst.fst v1).snd then NX (v1, IntKind.wrap IntKind.i64 (v6 + 1), b0_0, b0_1, b1_0, b1_1, b1_2, b1_3, b2_0, b2_1, b2_2, b2_3, ())
      else
        bif (m_impl_ReadPage val.fst.fst v1).fst.fst != 4 then NX (v1, IntKind.wrap IntKind.i64 (v6 + 1), b0_0, b0_1, b1_0, b1_1, b1_2, b1_3, b2_0, b2_1, b2_2, b2_3, ())
        else
          bif nI (ByteArray.size (m_impl_ReadPage val.fst.fst v1).fst.snd.snd.snd.fst) != 5 then
            NX (v1, IntKind.wrap IntKind.i64 (v6 + 1), b0_0, b0_1, b1_0, b1_1, b1_2, b1_3, b2_0, b2_1, b2_2, b2_3, ())
          else
            bif Int.tmod (m_impl_ReadPage val.fst.fst v1).fst.snd.snd.fst 2 != v6 then NX (v1, IntKind.wrap IntKind.i64 (v6 + 1), b0_0, b0_1, b1_0, b1_1, b1_2, b1_3, b2_0, b2_1, b2_2, b2_3, ())
            else
              bif decide (0 < nI (ByteArray.size (m_impl_ReadPage val.fst.fst v1).fst.snd.snd.snd.fst)) then
                bif decide (1 ≤ nI (ByteArray.size (m_impl_ReadPage val.fst.fst v1).fst.snd.snd.snd.fst)) then
                  Option.bind
                    (Option.bind (m_impl_num (cutOf (m_impl_ReadPage val.fst.fst v1).fst.snd.snd.snd.fst 1 (nI (ByteArray.size (m_impl_ReadPage val.fst.fst v1).fst.snd.snd.snd.fst)))) fun val =>
                      some ((val, ()), ()))
                    fun val_1 =>
                    bif
                        m_impl_validRoot
                          ((m_impl_ReadPage val.fst.fst v1).fst.snd.snd.fst, IntKind.wrap IntKind.i64 (byteAt (m_impl_ReadPage val.fst.fst v1).fst.snd.snd.snd.fst 0), val_1.fst.fst,
                            (m_impl_ReadPage val.fst.fst v1).fst.snd.fst, ()) then
                      bif decide ((m_impl_ReadPage val.fst.fst v1).fst.snd.snd.fst > b2_0) then
                        NX
                          (v1, IntKind.wrap IntKind.i64 (v6 + 1), b0_0, b0_1, b1_0, b1_1, b1_2, b1_3, (m_impl_ReadPage val.fst.fst v1).fst.snd.snd.fst,
                            IntKind.wrap IntKind.i64 (byteAt (m_impl_ReadPage val.fst.fst v1).fst.snd.snd.snd.fst 0), val_1.fst.fst, (m_impl_ReadPage val.fst.fst v1).fst.snd.fst, ())
                      else NX (v1, IntKind.wrap IntKind.i64 (v6 + 1), b0_0, b0_1, b1_0, b1_1, b1_2, b1_3, b2_0, b2_1, b2_2, b2_3, ())
                    else NX (v1, IntKind.wrap IntKind.i64 (v6 + 1), b0_0, b0_1, b1_0, b1_1, b1_2, b1_3, b2_0, b2_1, b2_2, b2_3, ())
                else none
              else none
  else X2 (b1_0, b1_1, b1_2, b1_3, b2_0, b2_1, b2_2, b2_3, ())
noncomputable def lo_impl_FindRoot_6 : Nat → (Int) → (Int) → (List ByteArray) → (List (Int × ByteArray × Unit)) → (Int) → (Int) → (Int) → (Int) → (Int) → (Int) → (Int) → (Int) →  Option ((Int) × (Int) × (Int) × (Int) × (Int) × (Int) × (Int) × (Int) × Unit)
  | 0, _, _, _, _, _, _, _, _, _, _, _, _ => none
  | m + 1, v1, v6, b0_0, b0_1, b1_0, b1_1, b1_2, b1_3, b2_0, b2_1, b2_2, b2_3 => tr_impl_FindRoot_6  (fun d => lo_impl_FindRoot_6 m d.1 d.2.1 d.2.2.1 d.2.2.2.1 d.2.2.2.2.1 d.2.2.2.2.2.1 d.2.2.2.2.2.2.1 d.2.2.2.2.2.2.2.1 d.2.2.2.2.2.2.2.2.1 d.2.2.2.2.2.2.2.2.2.1 d.2.2.2.2.2.2.2.2.2.2.1 d.2.2.2.2.2.2.2.2.2.2.2.1) (fun d => some (d)) v1 v6 b0_0 b0_1 b1_0 b1_1 b1_2 b1_3 b2_0 b2_1 b2_2 b2_3
theorem na_impl_FindRoot_6 {R S : Type}  (NX : ((Int) × (Int) × (List ByteArray) × (List (Int × ByteArray × Unit)) × (Int) × (Int) × (Int) × (Int) × (Int) × (Int) × (Int) × (Int) × Unit) → Option R) (X2 : ((Int) × (Int) × (Int) × (Int) × (Int) × (Int) × (Int) × (Int) × Unit) → Option R) (v1 : Int) (v6 : Int) (b0_0 : List ByteArray) (b0_1 : List (Int × ByteArray × Unit)) (b1_0 : Int) (b1_1 : Int) (b1_2 : Int) (b1_3 : Int) (b2_0 : Int) (b2_1 : Int) (b2_2 : Int) (b2_3 : Int) (f : R → Option S) : tr_impl_FindRoot_6  (fun d => (NX d).bind f) (fun d => (X2 d).bind f) v1 v6 b0_0 b0_1 b1_0 b1_1 b1_2 b1_3 b2_0 b2_1 b2_2 b2_3 = (tr_impl_FindRoot_6  NX X2 v1 v6 b0_0 b0_1 b1_0 b1_1 b1_2 b1_3 b2_0 b2_1 b2_2 b2_3).bind f := by
  unfold tr_impl_FindRoot_6
  simp only [cond_bind, ite_bind, onSum_bind, Option.bind_assoc, Option.bind_none, Option.bind_some]
noncomputable def de_impl_FindRoot (a0 : (List ByteArray) × (List (Int × ByteArray × Unit)) × Unit) (a1 : Int) : Option ((((Int × Int × Int × Int × Unit) × Unit) × (Unit))) :=
  bif !m_impl_ValidDisk (a0.fst, a0.snd.fst, ()) then some (((0, 0, 0, 0, ()), ()), ())
  else
    bif !m_impl_in a1 1 8 then some (((0, 0, 0, 0, ()), ()), ())
    else
      Option.bind ((fun d => lo_impl_FindRoot_6 (fu_impl_FindRoot_6 d.1 d.2.1 d.2.2.1 d.2.2.2.1 d.2.2.2.2.1 d.2.2.2.2.2.1 d.2.2.2.2.2.2.1 d.2.2.2.2.2.2.2.1 d.2.2.2.2.2.2.2.2.1 d.2.2.2.2.2.2.2.2.2.1 d.2.2.2.2.2.2.2.2.2.2.1 d.2.2.2.2.2.2.2.2.2.2.2.1) d.1 d.2.1 d.2.2.1 d.2.2.2.1 d.2.2.2.2.1 d.2.2.2.2.2.1 d.2.2.2.2.2.2.1 d.2.2.2.2.2.2.2.1 d.2.2.2.2.2.2.2.2.1 d.2.2.2.2.2.2.2.2.2.1 d.2.2.2.2.2.2.2.2.2.2.1 d.2.2.2.2.2.2.2.2.2.2.2.1) (a1, 0, a0.fst, a0.snd.fst, 0, 0, 0, 0, 0, 0, 1, 0, ())) fun val =>
        some (((val.snd.snd.snd.snd.fst, val.snd.snd.snd.snd.snd.fst, val.snd.snd.snd.snd.snd.snd.fst, val.snd.snd.snd.snd.snd.snd.snd.fst, ()), ()), ())
theorem fr_round (d : Dk) (hd : DiskOk d) (w : Int) (i : Nat) (hi : i < 2) (m : Nat) (x1 x2 x3 x4 : Int) (b : Rt) :
    lo_impl_FindRoot_6 (m + 1) w i d.1 d.2.1 x1 x2 x3 x4 b.1 b.2.1 b.2.2.1 b.2.2.2.1 = lo_impl_FindRoot_6 m w ((i + 1 : Nat) : Int) d.1 d.2.1 x1 x2 x3 x4 (pickRoot (seeD d i) w i b).1 (pickRoot (seeD d i) w i b).2.1 (pickRoot (seeD d i) w i b).2.2.1 (pickRoot (seeD d i) w i b).2.2.2.1 := by
  have n8 := hd.n8
  have p3 := hd.p300
  have hs : m_impl_see (d.1, d.2.1, ()) (i : Int) = some (seeD d i) := if_pos ⟨by show d.2.1.length ≤ _; omega, by omega, by show (i : Int) < (d.1.length : Int); omega⟩
  simp only [lo_impl_FindRoot_6, tr_impl_FindRoot_6]
  rw [decide_eq_true (show (i : Int) < 2 by omega), hs, wI (show i < 4611686018427387904 by omega)]
  simp only [Option.bind_some, cond_true]
  have e : m_impl_ReadPage (seeD d i) w = readP (seeD d i) w := rfl
  rw [e]
  unfold pickRoot
  have hf := @readP_form (seeD d i) w
  generalize readP (seeD d i) w = p at *
  obtain ⟨g, o⟩ := p
  cases o
  · rfl
  · obtain ⟨_, _, _, hp⟩ := hf rfl
    obtain ⟨_, _, r3, _⟩ := pageOk_r hp
    simp only [Bool.not_true, cond_false, Bool.true_and]
    by_cases h4 : g.1 = 4
    · rw [bne_eq_false_iff_eq.2 h4, show (g.1 == 4) = true from beq_iff_eq.2 h4]
      by_cases h5 : g.2.2.2.1.size = 5
      · have n1 : m_impl_num (cutOf g.2.2.2.1 1 (nI g.2.2.2.1.size)) = some (numS (cutOf g.2.2.2.1 1 (nI g.2.2.2.1.size))) := if_pos (by rw [cutOf_size (by omega) (by simp only [nI]; omega) (by simp [nI])]; simp only [nI]; omega)
        obtain ⟨b0, b1⟩ := byteAt_in g.2.2.2.1 0
        rw [bne_eq_false_iff_eq.2 (show nI g.2.2.2.1.size = 5 by simp only [nI]; omega), decide_eq_true h5, Int.tmod_eq_emod_of_nonneg (by omega)]
        simp only [n1, Option.bind_some, cond_false, Bool.true_and]
        rw [decide_eq_true (show 0 < nI g.2.2.2.1.size by simp only [nI]; omega), decide_eq_true (show 1 ≤ nI g.2.2.2.1.size by simp only [nI]; omega), wrap_ok (n := byteAt g.2.2.2.1 0) (by omega) (by omega)]
        by_cases h6 : g.2.2.1 % 2 = (i : Int)
        · rw [bne_eq_false_iff_eq.2 h6, show (g.2.2.1 % 2 == (i : Int)) = true from beq_iff_eq.2 h6]
          show (bif rootOk (rootOf g) then _ else _) = _
          cases rootOk (rootOf g)
          · rfl
          · by_cases h7 : g.2.2.1 > b.1
            · rw [decide_eq_true h7]; rfl
            · rw [decide_eq_false h7]; rfl
        · rw [bne_iff_ne.2 h6, show (g.2.2.1 % 2 == (i : Int)) = false from beq_eq_false_iff_ne.2 h6]
          rfl
      · rw [bne_iff_ne.2 (show nI g.2.2.2.1.size ≠ 5 by simp only [nI]; omega), decide_eq_false h5]
        rfl
    · rw [bne_iff_ne.2 h4, show (g.1 == 4) = false from beq_eq_false_iff_ne.2 h4]
      rfl
theorem eq_impl_FindRoot (a0 : (List ByteArray) × (List (Int × ByteArray × Unit)) × Unit) (a1 : Int) : de_impl_FindRoot a0 a1 = some (((m_impl_FindRoot a0 a1), ()), (())) := by
  unfold de_impl_FindRoot m_impl_FindRoot findRoot
  show (bif !validDisk a0 then _ else (bif !inB a1 1 8 then _ else _)) = _
  cases hv : validDisk a0 with
  | false => rfl
  | true =>
    cases hw : inB a1 1 8 with
    | false => rfl
    | true =>
      have hd := disk_ok hv
      have h1 := fr_round a0 hd a1 0 (by omega) 2 0 0 0 0 (0, 0, 1, 0, ())
      have h2 := fr_round a0 hd a1 1 (by omega) 1 0 0 0 0 (pickRoot (seeD a0 (0 : Nat)) a1 (0 : Nat) (0, 0, 1, 0, ()))
      have h3 := h1.trans h2
      refine bi_ h3 ?_
      rfl
noncomputable def ou_impl_FindRoot_6 {R : Type} (k : Kt R) : ((Int) × (Int) × (Int) × (Int) × (Int) × (Int) × (Int) × (Int) × Unit) → Option R := (fun d => k (.exit 0) (((pa_impl_FindRoot 6).2 2).st d) (((pa_impl_FindRoot 6).2 2).nid))
noncomputable def L_impl_FindRoot {R : Type} : Lt R pa_impl_FindRoot := (addL (pat := pa_impl_FindRoot) 6 (fun d k => (lo_impl_FindRoot_6 (fu_impl_FindRoot_6 d.1 d.2.1 d.2.2.1 d.2.2.2.1 d.2.2.2.2.1 d.2.2.2.2.2.1 d.2.2.2.2.2.2.1 d.2.2.2.2.2.2.2.1 d.2.2.2.2.2.2.2.2.1 d.2.2.2.2.2.2.2.2.2.1 d.2.2.2.2.2.2.2.2.2.2.1 d.2.2.2.2.2.2.2.2.2.2.2.1) d.1 d.2.1 d.2.2.1 d.2.2.2.1 d.2.2.2.2.1 d.2.2.2.2.2.1 d.2.2.2.2.2.2.1 d.2.2.2.2.2.2.2.1 d.2.2.2.2.2.2.2.2.1 d.2.2.2.2.2.2.2.2.2.1 d.2.2.2.2.2.2.2.2.2.2.1 d.2.2.2.2.2.2.2.2.2.2.2.1).bind (ou_impl_FindRoot_6 k)) noL)
theorem rd_impl_FindRoot_6 {R : Type} (nx : (pa_impl_FindRoot 6).1.D → Kt R → Option R) (k : Kt R) (v1 : Int) (v6 : Int) (b0_0 : List ByteArray) (b0_1 : List (Int × ByteArray × Unit)) (b1_0 : Int) (b1_1 : Int) (b1_2 : Int) (b1_3 : Int) (b2_0 : Int) (b2_1 : Int) (b2_2 : Int) (b2_3 : Int) : ev Try.prog ⟨ta_impl_FindRoot, 0, 76, pa_impl_FindRoot⟩ L_impl_FindRoot co_impl_FindRoot_6 ((pa_impl_FindRoot 6).1.st (v1, v6, b0_0, b0_1, b1_0, b1_1, b1_2, b1_3, b2_0, b2_1, b2_2, b2_3, ())) (pa_impl_FindRoot 6).1.nid (roundK 0 (pa_impl_FindRoot 6) nx k) = tr_impl_FindRoot_6  (fun d => nx d k) (fun d => k (.exit 0) (((pa_impl_FindRoot 6).2 2).st d) (((pa_impl_FindRoot 6).2 2).nid)) v1 v6 b0_0 b0_1 b1_0 b1_1 b1_2 b1_3 b2_0 b2_1 b2_2 b2_3 := by kernel_rfl
theorem lp_impl_FindRoot_6 {R : Type} : ∀ (m : Nat) (d : (pa_impl_FindRoot 6).1.D) (k : Kt R), loopN 0 (pa_impl_FindRoot 6) (fun s nid k => ev Try.prog ⟨ta_impl_FindRoot, 0, 76, pa_impl_FindRoot⟩ L_impl_FindRoot co_impl_FindRoot_6 s nid k) m d k = (lo_impl_FindRoot_6 m d.1 d.2.1 d.2.2.1 d.2.2.2.1 d.2.2.2.2.1 d.2.2.2.2.2.1 d.2.2.2.2.2.2.1 d.2.2.2.2.2.2.2.1 d.2.2.2.2.2.2.2.2.1 d.2.2.2.2.2.2.2.2.2.1 d.2.2.2.2.2.2.2.2.2.2.1 d.2.2.2.2.2.2.2.2.2.2.2.1).bind (ou_impl_FindRoot_6 k)
  | 0, _, _ => rfl
  | m + 1, ⟨v1, v6, b0_0, b0_1, b1_0, b1_1, b1_2, b1_3, b2_0, b2_1, b2_2, b2_3, ⟨⟩⟩, k => (rd_impl_FindRoot_6 _ k v1 v6 b0_0 b0_1 b1_0 b1_1 b1_2 b1_3 b2_0 b2_1 b2_2 b2_3).trans ((congrArg (fun F => tr_impl_FindRoot_6  F (fun d => k (.exit 0) (((pa_impl_FindRoot 6).2 2).st d) (((pa_impl_FindRoot 6).2 2).nid)) v1 v6 b0_0 b0_1 b1_0 b1_1 b1_2 b1_3 b2_0 b2_1 b2_2 b2_3) (funext fun d => lp_impl_FindRoot_6 m d k)).trans (na_impl_FindRoot_6 (f := ou_impl_FindRoot_6 k)  (fun d => lo_impl_FindRoot_6 m d.1 d.2.1 d.2.2.1 d.2.2.2.1 d.2.2.2.2.1 d.2.2.2.2.2.1 d.2.2.2.2.2.2.1 d.2.2.2.2.2.2.2.1 d.2.2.2.2.2.2.2.2.1 d.2.2.2.2.2.2.2.2.2.1 d.2.2.2.2.2.2.2.2.2.2.1 d.2.2.2.2.2.2.2.2.2.2.2.1) (fun d => some (d)) v1 v6 b0_0 b0_1 b1_0 b1_1 b1_2 b1_3 b2_0 b2_1 b2_2 b2_3))
theorem en_impl_FindRoot (a0 : (List ByteArray) × (List (Int × ByteArray × Unit)) × Unit) (a1 : Int) : evalF Try.prog ta_impl_FindRoot pa_impl_FindRoot sg_impl_FindRoot Try.f23 L_impl_FindRoot (a0, a1, ()) = de_impl_FindRoot a0 a1 := by kernel_rfl
theorem si_impl_FindRoot : SigsOk Try.prog ta_impl_FindRoot := SigsOk.of fun f sd h => by
  try dsimp only [Tb.of, ta_impl_FindRoot] at h
  split at h
  · rename_i e; subst e; cases h; exact sn_impl_in
  split at h
  · rename_i e; subst e; cases h; exact sn_impl_ValidDisk
  split at h
  · rename_i e; subst e; cases h; exact sn_impl_ReadPage
  split at h
  · rename_i e; subst e; cases h; exact sn_impl_see
  split at h
  · rename_i e; subst e; cases h; exact sn_impl_num
  split at h
  · rename_i e; subst e; cases h; exact sn_impl_validRoot
  cases h
theorem lk_impl_FindRoot_6 {R : Type} : LoopOk Try.prog R 76 0 pa_impl_FindRoot L_impl_FindRoot co_impl_FindRoot_6 :=
  loop_key (cfg := ⟨ta_impl_FindRoot, 0, 76, pa_impl_FindRoot⟩) (key := 6) (by kernel_rfl) (by kernel_rfl) si_impl_FindRoot rfl rfl (fun d k r h => ⟨fu_impl_FindRoot_6 d.1 d.2.1 d.2.2.1 d.2.2.2.1 d.2.2.2.2.1 d.2.2.2.2.2.1 d.2.2.2.2.2.2.1 d.2.2.2.2.2.2.2.1 d.2.2.2.2.2.2.2.2.1 d.2.2.2.2.2.2.2.2.2.1 d.2.2.2.2.2.2.2.2.2.2.1 d.2.2.2.2.2.2.2.2.2.2.2.1, (lp_impl_FindRoot_6 _ d k).trans h⟩) (fun c hc => by rw [show loopsIn co_impl_FindRoot_6 = [] from by kernel_rfl] at hc; cases hc)
theorem sn_impl_FindRoot : Callable Try.prog 23 ∧ Sound Try.prog 23 sd_impl_FindRoot.sg sd_impl_FindRoot.den :=
  fn_loops (pat := pa_impl_FindRoot) L_impl_FindRoot (by kernel_rfl) si_impl_FindRoot Try.func23 (by kernel_rfl) (by kernel_rfl) (fun c hc => by rw [show loopsIn (bodyOf Try.f23) = [co_impl_FindRoot_6] from by kernel_rfl] at hc; simp only [List.mem_cons, List.not_mem_nil, or_false] at hc; rcases hc with rfl <;> first | exact lk_impl_FindRoot_6) fun x r h => by
    obtain ⟨a0, a1, ⟨⟩⟩ := x; rw [← h]; exact (en_impl_FindRoot a0 a1).trans (eq_impl_FindRoot a0 a1)
def m_laws_eqRoot (a b : Int × Int × Int × Int × Unit) : Option Bool := eqM (.pair (.int .i64) (.pair (.int .i64) (.pair (.int .i64) (.pair (.int .i64) .unit)))) a b
def sg_laws_eqRoot : Sig := ⟨[.rd (.pair (.int .i64) (.pair (.int .i64) (.pair (.int .i64) (.pair (.int .i64) .unit)))), .rd (.pair (.int .i64) (.pair (.int .i64) (.pair (.int .i64) (.pair (.int .i64) .unit))))], [some 4, some 4], [.rd .bool], [none]⟩
noncomputable def sd_laws_eqRoot : SD := ⟨sg_laws_eqRoot, fun x => (m_laws_eqRoot x.1 x.2.1).bind fun r => some ((r, ()), (()))⟩
noncomputable def ta_laws_eqRoot : Tb := Tb.of fun f => none
def pa_laws_eqRoot : Nat → Pat × (Nat → Pat) := fun k => (⟨[], [], []⟩, fun _ => ⟨[], [], []⟩)
noncomputable def de_laws_eqRoot (a0 : Int × Int × Int × Int × Unit) (a1 : Int × Int × Int × Int × Unit) : Option ((((Bool) × Unit) × (Unit))) :=
  bif a0.fst != a1.fst then some ((false, ()), ())
  else
    bif a0.snd.fst != a1.snd.fst then some ((false, ()), ())
    else bif a0.snd.snd.fst != a1.snd.snd.fst then some ((false, ()), ()) else bif a0.snd.snd.snd.fst != a1.snd.snd.snd.fst then some ((false, ()), ()) else some ((true, ()), ())
theorem eq_laws_eqRoot (a0 : Int × Int × Int × Int × Unit) (a1 : Int × Int × Int × Int × Unit) r (h : m_laws_eqRoot a0 a1 = some r) : de_laws_eqRoot a0 a1 = some ((r, ()), (())) := by
  obtain ⟨hc, hd, rfl⟩ := eqM_some (t := (.pair (.int .i64) (.pair (.int .i64) (.pair (.int .i64) (.pair (.int .i64) .unit))))) h
  obtain ⟨hc0, hc1, hc2, hc3, _⟩ : fineB (.int .i64) a0.1 = true ∧ fineB (.int .i64) a0.2.1 = true ∧ fineB (.int .i64) a0.2.2.1 = true ∧ fineB (.int .i64) a0.2.2.2.1 = true ∧ True := by
    have s := hc
    obtain ⟨h0, s⟩ := fineB_pair s
    obtain ⟨h1, s⟩ := fineB_pair s
    obtain ⟨h2, s⟩ := fineB_pair s
    obtain ⟨h3, s⟩ := fineB_pair s
    exact ⟨h0, h1, h2, h3, trivial⟩
  obtain ⟨hd0, hd1, hd2, hd3, _⟩ : fineB (.int .i64) a1.1 = true ∧ fineB (.int .i64) a1.2.1 = true ∧ fineB (.int .i64) a1.2.2.1 = true ∧ fineB (.int .i64) a1.2.2.2.1 = true ∧ True := by
    have s := hd
    obtain ⟨h0, s⟩ := fineB_pair s
    obtain ⟨h1, s⟩ := fineB_pair s
    obtain ⟨h2, s⟩ := fineB_pair s
    obtain ⟨h3, s⟩ := fineB_pair s
    exact ⟨h0, h1, h2, h3, trivial⟩
  unfold de_laws_eqRoot
  have e0 : (a0.1 != a1.1) = !eqI a0.1 a1.1 := bneI _ _
  have e1 : (a0.2.1 != a1.2.1) = !eqI a0.2.1 a1.2.1 := bneI _ _
  have e2 : (a0.2.2.1 != a1.2.2.1) = !eqI a0.2.2.1 a1.2.2.1 := bneI _ _
  have e3 : (a0.2.2.2.1 != a1.2.2.2.1) = !eqI a0.2.2.2.1 a1.2.2.2.1 := bneI _ _
  simp only [e0, e1, e2, e3, Option.bind_some]
  show _ = some (((eqI a0.1 a1.1 && (eqI a0.2.1 a1.2.1 && (eqI a0.2.2.1 a1.2.2.1 && (eqI a0.2.2.2.1 a1.2.2.2.1 && true)))), ()), ())
  generalize eqI a0.1 a1.1 = p0
  generalize eqI a0.2.1 a1.2.1 = p1
  generalize eqI a0.2.2.1 a1.2.2.1 = p2
  generalize eqI a0.2.2.2.1 a1.2.2.2.1 = p3
  cases p0 <;> cases p1 <;> cases p2 <;> cases p3 <;> rfl
theorem en_laws_eqRoot (a0 : Int × Int × Int × Int × Unit) (a1 : Int × Int × Int × Int × Unit) : evalF Try.prog ta_laws_eqRoot pa_laws_eqRoot sg_laws_eqRoot Try.f24 noL (a0, a1, ()) = de_laws_eqRoot a0 a1 := by kernel_rfl
theorem si_laws_eqRoot : SigsOk Try.prog ta_laws_eqRoot := SigsOk.of fun f sd h => by
  try dsimp only [Tb.of, ta_laws_eqRoot] at h
  cases h
theorem sn_laws_eqRoot : Callable Try.prog 24 ∧ Sound Try.prog 24 sd_laws_eqRoot.sg sd_laws_eqRoot.den :=
  fn_plain (pat := pa_laws_eqRoot) (by kernel_rfl) si_laws_eqRoot Try.func24 (by kernel_rfl) (by kernel_rfl) (by kernel_rfl) fun x r h => by
    obtain ⟨a0, a1, ⟨⟩⟩ := x; obtain ⟨y, h1, h2⟩ := Option.bind_eq_some_iff.1 (show (m_laws_eqRoot a0 a1).bind (fun r => some ((r, ()), (()))) = some r from h); cases h2; exact (en_laws_eqRoot a0 a1).trans (eq_laws_eqRoot a0 a1 _ h1)
def sg_laws_FnExactFindRoot : Sig := ⟨[.rd (.pair (.sl .str) (.pair (.sl (.pair (.int .i64) (.pair .str .unit))) .unit)), .rd (.int .i64)], [some 2, none], [.rd .bool], [none]⟩
noncomputable def ta_laws_FnExactFindRoot : Tb := Tb.of fun f => if f = 11 then some sd_laws_szDisk else if f = 14 then some sd_laws_toDisk else if f = 17 then some sd_laws_eqDisk else if f = 22 then some sd_spec_FindRoot else if f = 23 then some sd_impl_FindRoot else if f = 24 then some sd_laws_eqRoot else none
def pa_laws_FnExactFindRoot : Nat → Pat × (Nat → Pat) := fun k => (⟨[], [], []⟩, fun _ => ⟨[], [], []⟩)
noncomputable def de_laws_FnExactFindRoot (a0 : (List ByteArray) × (List (Int × ByteArray × Unit)) × Unit) (a1 : Int) : Option ((((Bool) × Unit) × (Unit))) :=
  Option.bind (Option.bind (m_laws_szDisk (a0.fst, a0.snd.fst, ()) 1048576) fun val => some ((val, ()), ())) fun val =>
    bif decide (val.fst.fst < 0) then some ((true, ()), ())
    else
      Option.bind (Option.bind (m_laws_toDisk (a0.fst, a0.snd.fst, ())) fun val => some ((val.fst, val.snd.fst, ()), ())) fun val =>
        Option.bind (Option.bind (m_laws_toDisk (a0.fst, a0.snd.fst, ())) fun val => some ((val.fst, val.snd.fst, ()), ())) fun val_1 =>
          bif
              !(decide ((m_impl_FindRoot (val_1.fst.fst, val_1.fst.snd.fst, ()) a1).fst = (m_spec_FindRoot (val.fst.fst, val.fst.snd.fst, ()) a1).fst) &&
                  (decide ((m_impl_FindRoot (val_1.fst.fst, val_1.fst.snd.fst, ()) a1).snd.fst = (m_spec_FindRoot (val.fst.fst, val.fst.snd.fst, ()) a1).snd.fst) &&
                    (decide ((m_impl_FindRoot (val_1.fst.fst, val_1.fst.snd.fst, ()) a1).snd.snd.fst = (m_spec_FindRoot (val.fst.fst, val.fst.snd.fst, ()) a1).snd.snd.fst) &&
                      (decide ((m_impl_FindRoot (val_1.fst.fst, val_1.fst.snd.fst, ()) a1).snd.snd.snd.fst = (m_spec_FindRoot (val.fst.fst, val.fst.snd.fst, ()) a1).snd.snd.snd.fst) && true)))) then
            some ((false, ()), ())
          else
            Option.bind (Option.bind (m_laws_toDisk (a0.fst, a0.snd.fst, ())) fun val => some ((val.fst, val.snd.fst, ()), ())) fun val =>
              Option.bind (Option.bind (m_laws_eqDisk (val_1.fst.fst, val_1.fst.snd.fst, ()) (val.fst.fst, val.fst.snd.fst, ())) fun val => some ((val, ()), ())) fun val =>
                bif !val.fst.fst then some ((false, ()), ()) else some ((true, ()), ())
noncomputable def sd_laws_FnExactFindRoot : SD := ⟨sg_laws_FnExactFindRoot, fun x => de_laws_FnExactFindRoot x.1 x.2.1⟩
theorem law_FnExactFindRoot (a0 : (List ByteArray) × (List (Int × ByteArray × Unit)) × Unit)  (a1 : Int) (h0 : FineD (.pair (.sl .str) (.pair (.sl (.pair (.int .i64) (.pair .str .unit))) .unit)) a0) (h1 : FineD (.int .i64) a1) : de_laws_FnExactFindRoot a0 a1 = some ((true, ()), ()) := by
  have hf0 := fine_of h0
  have hf1 := fine_of h1
  unfold de_laws_FnExactFindRoot
  rcases sz_cases (l0 := 1048576) hf0 (by first | decide | assumption) (by first | decide | assumption) (m := m_laws_szDisk (a0.fst, a0.snd.fst, ()) 1048576) rfl with e0 | ⟨l0, e0, g0, k0, s0, q0⟩
  · simp only [e0, Option.bind_some, lt_m1, cond_true, cond_false]
  · skip
    have t0 : m_laws_toDisk (a0.fst, a0.snd.fst, ()) = some (a0.fst, a0.snd.fst, ()) := toM_is (t := (.pair (.sl .str) (.pair (.sl (.pair (.int .i64) (.pair .str .unit))) .unit))) (x := a0) s0
    have u0 : m_laws_eqDisk (a0.fst, a0.snd.fst, ()) (a0.fst, a0.snd.fst, ()) = some true := eqM_self (t := (.pair (.sl .str) (.pair (.sl (.pair (.int .i64) (.pair .str .unit))) .unit))) (x := a0) hf0
    have gw : m_spec_FindRoot (a0.fst, a0.snd.fst, ()) a1 = m_impl_FindRoot (a0.fst, a0.snd.fst, ()) a1 := rfl
    have gg0 : goodB (.pair (.int .i64) (.pair (.int .i64) (.pair (.int .i64) (.pair (.int .i64) .unit)))) (m_impl_FindRoot (a0.fst, a0.snd.fst, ()) a1) = true := rfl
    simp only [e0, q0, t0, u0, Option.bind_some, cond_false, gw]
    generalize m_impl_FindRoot (a0.fst, a0.snd.fst, ()) a1 = g at *
    have v0 : m_laws_eqRoot (g.fst, g.snd.fst, g.snd.snd.fst, g.snd.snd.snd.fst, ()) (g.fst, g.snd.fst, g.snd.snd.fst, g.snd.snd.snd.fst, ()) = some true := eqM_self (t := (.pair (.int .i64) (.pair (.int .i64) (.pair (.int .i64) (.pair (.int .i64) .unit))))) (x := g) (good_fine gg0)
    simp only [e0, q0, t0, u0, v0, Option.bind_some, cond_false, cond_true, beq_self_eq_true, bne_self_eq_false, Bool.not_true, Bool.or_self, Bool.false_or, decide_true, Bool.and_true, Bool.and_self]
theorem en_laws_FnExactFindRoot (a0 : (List ByteArray) × (List (Int × ByteArray × Unit)) × Unit) (a1 : Int) : evalF Try.prog ta_laws_FnExactFindRoot pa_laws_FnExactFindRoot sg_laws_FnExactFindRoot Try.f5 noL (a0, a1, ()) = de_laws_FnExactFindRoot a0 a1 := by kernel_rfl
theorem si_laws_FnExactFindRoot : SigsOk Try.prog ta_laws_FnExactFindRoot := SigsOk.of fun f sd h => by
  try dsimp only [Tb.of, ta_laws_FnExactFindRoot] at h
  split at h
  · rename_i e; subst e; cases h; exact sn_laws_szDisk
  split at h
  · rename_i e; subst e; cases h; exact sn_laws_toDisk
  split at h
  · rename_i e; subst e; cases h; exact sn_laws_eqDisk
  split at h
  · rename_i e; subst e; cases h; exact sn_spec_FindRoot
  split at h
  · rename_i e; subst e; cases h; exact sn_impl_FindRoot
  split at h
  · rename_i e; subst e; cases h; exact sn_laws_eqRoot
  cases h
theorem sn_laws_FnExactFindRoot : Callable Try.prog 5 ∧ Sound Try.prog 5 sd_laws_FnExactFindRoot.sg sd_laws_FnExactFindRoot.den :=
  fn_plain (pat := pa_laws_FnExactFindRoot) (by kernel_rfl) si_laws_FnExactFindRoot Try.func5 (by kernel_rfl) (by kernel_rfl) (by kernel_rfl) fun x r h => by
    obtain ⟨a0, a1, ⟨⟩⟩ := x; exact (en_laws_FnExactFindRoot a0 a1).trans h
end Go.Proofs.Yteohpbmjaobpbaa.V
