/- What the functions that FnExactForged reaches come to: part 2. No condition. -/
import Derived.Test.YteaoabdlcefkhaaVFnExactForgeda
import Derived.KernelRfl
namespace Go.Proofs.Yteaoabdlcefkhaa.V
open Go Go.Proofs.Yteaoabdlcefkhaa.R Go.Proofs
set_option maxRecDepth 100000
set_option linter.unusedVariables false
set_option linter.unusedSimpArgs false
def m_spec_l1Read (s : ByteArray) : Option Int := if s.size ≤ 7 then some (numS s) else none
def fu_spec_l1Read_4 (v0 : ByteArray) (v3 v4 : Int) : Nat := (nI v0.size - v4).toNat + 1
def sg_spec_l1Read : Sig := ⟨[.rd .str], [none], [.rd (.int .i64)], [none]⟩
noncomputable def sd_spec_l1Read : SD := ⟨sg_spec_l1Read, fun x => (m_spec_l1Read x.1).bind fun r => some ((r, ()), (()))⟩
noncomputable def ta_spec_l1Read : Tb := Tb.of fun f => none
def pa_spec_l1Read : Nat → Pat × (Nat → Pat) := fun k => if k = 4 then (⟨[], [(0, .lf (.d .str)), (3, .lf (.d (.int .i64))), (4, .lf (.d (.int .i64)))], []⟩, fun e => if e = 2 then ⟨[], [(3, .lf (.d (.int .i64)))], []⟩ else ⟨[], [], []⟩) else (⟨[], [], []⟩, fun _ => ⟨[], [], []⟩)
noncomputable def co_spec_l1Read_4 : Code := (loopsIn (bodyOf Try.f137)).getD 0 .skip
noncomputable def tr_spec_l1Read_4 {R : Type}  (NX : ((ByteArray) × (Int) × (Int) × Unit) → Option R) (X2 : ((Int) × Unit) → Option R) (v0 : ByteArray) (v3 : Int) (v4 : Int) : Option R :=
  bif decide (v4 < nI (ByteArray.size v0)) then
    bif decide (0 ≤ v4) then
      bif decide (v4 < nI (ByteArray.size v0)) then
        NX (v0, IntKind.wrap IntKind.i64 (IntKind.wrap IntKind.i64 (v3 * 256) + IntKind.wrap IntKind.i64 (byteAt v0 v4)), IntKind.wrap IntKind.i64 (v4 + 1), ())
      else none
    else none
  else X2 (v3, ())
noncomputable def lo_spec_l1Read_4 : Nat → (ByteArray) → (Int) → (Int) →  Option ((Int) × Unit)
  | 0, _, _, _ => none
  | m + 1, v0, v3, v4 => tr_spec_l1Read_4  (fun d => lo_spec_l1Read_4 m d.1 d.2.1 d.2.2.1) (fun d => some (d)) v0 v3 v4
theorem na_spec_l1Read_4 {R S : Type}  (NX : ((ByteArray) × (Int) × (Int) × Unit) → Option R) (X2 : ((Int) × Unit) → Option R) (v0 : ByteArray) (v3 : Int) (v4 : Int) (f : R → Option S) : tr_spec_l1Read_4  (fun d => (NX d).bind f) (fun d => (X2 d).bind f) v0 v3 v4 = (tr_spec_l1Read_4  NX X2 v0 v3 v4).bind f := by
  unfold tr_spec_l1Read_4
  simp only [cond_bind, ite_bind, onSum_bind, Option.bind_assoc, Option.bind_none, Option.bind_some]
noncomputable def de_spec_l1Read (a0 : ByteArray) : Option ((((Int) × Unit) × (Unit))) :=
  Option.bind ((fun d => lo_spec_l1Read_4 (fu_spec_l1Read_4 d.1 d.2.1 d.2.2.1) d.1 d.2.1 d.2.2.1) (a0, 0, 0, ())) fun val => some ((val.fst, ()), ())
theorem l1Read_loop (s : ByteArray) (hs : s.size ≤ 7) : ∀ (k m i : Nat) (v : Int), i + k = s.size → k < m → 0 ≤ v → v < 256 ^ i → lo_spec_l1Read_4 m s v i = some (numGo s k i v, ())
  | 0, m + 1, i, v, hi, hm, h0, h1 => by
    simp only [lo_spec_l1Read_4, tr_spec_l1Read_4]
    rw [decide_eq_false (show ¬ ((i : Int) < nI s.size) by simp only [nI]; omega)]
    rfl
  | k + 1, m + 1, i, v, hi, hm, h0, h1 => by
    obtain ⟨hb, hs', e⟩ := mul_step s i hi (by omega) h0 h1
    simp only [lo_spec_l1Read_4, tr_spec_l1Read_4]
    have c1 : (i : Int) < nI s.size := by simp only [nI]; omega
    rw [decide_eq_true c1, decide_eq_true (show (0 : Int) ≤ (i : Int) by omega), wI (show i < 4611686018427387904 by omega), e]
    exact l1Read_loop s hs k m (i + 1) _ (by omega) (by omega) hb hs'
theorem eq_spec_l1Read (a0 : ByteArray) r (h : m_spec_l1Read a0 = some r) : de_spec_l1Read a0 = some ((r, ()), (())) := by
  unfold m_spec_l1Read at h
  split at h
  · rename_i hc
    cases h
    unfold de_spec_l1Read
    have hL := l1Read_loop a0 hc a0.size (fu_spec_l1Read_4 a0 0 0) 0 0 (by omega) (by simp only [fu_spec_l1Read_4, nI]; omega) (by omega) (by decide)
    exact bi_ hL rfl
  · cases h
noncomputable def ou_spec_l1Read_4 {R : Type} (k : Kt R) : ((Int) × Unit) → Option R := (fun d => k (.exit 0) (((pa_spec_l1Read 4).2 2).st d) (((pa_spec_l1Read 4).2 2).nid))
noncomputable def L_spec_l1Read {R : Type} : Lt R pa_spec_l1Read := (addL (pat := pa_spec_l1Read) 4 (fun d k => (lo_spec_l1Read_4 (fu_spec_l1Read_4 d.1 d.2.1 d.2.2.1) d.1 d.2.1 d.2.2.1).bind (ou_spec_l1Read_4 k)) noL)
theorem rd_spec_l1Read_4 {R : Type} (nx : (pa_spec_l1Read 4).1.D → Kt R → Option R) (k : Kt R) (v0 : ByteArray) (v3 : Int) (v4 : Int) : ev Try.prog ⟨ta_spec_l1Read, 0, 19, pa_spec_l1Read⟩ L_spec_l1Read co_spec_l1Read_4 ((pa_spec_l1Read 4).1.st (v0, v3, v4, ())) (pa_spec_l1Read 4).1.nid (roundK 0 (pa_spec_l1Read 4) nx k) = tr_spec_l1Read_4  (fun d => nx d k) (fun d => k (.exit 0) (((pa_spec_l1Read 4).2 2).st d) (((pa_spec_l1Read 4).2 2).nid)) v0 v3 v4 := by kernel_rfl
theorem lp_spec_l1Read_4 {R : Type} : ∀ (m : Nat) (d : (pa_spec_l1Read 4).1.D) (k : Kt R), loopN 0 (pa_spec_l1Read 4) (fun s nid k => ev Try.prog ⟨ta_spec_l1Read, 0, 19, pa_spec_l1Read⟩ L_spec_l1Read co_spec_l1Read_4 s nid k) m d k = (lo_spec_l1Read_4 m d.1 d.2.1 d.2.2.1).bind (ou_spec_l1Read_4 k)
  | 0, _, _ => rfl
  | m + 1, ⟨v0, v3, v4, ⟨⟩⟩, k => (rd_spec_l1Read_4 _ k v0 v3 v4).trans ((congrArg (fun F => tr_spec_l1Read_4  F (fun d => k (.exit 0) (((pa_spec_l1Read 4).2 2).st d) (((pa_spec_l1Read 4).2 2).nid)) v0 v3 v4) (funext fun d => lp_spec_l1Read_4 m d k)).trans (na_spec_l1Read_4 (f := ou_spec_l1Read_4 k)  (fun d => lo_spec_l1Read_4 m d.1 d.2.1 d.2.2.1) (fun d => some (d)) v0 v3 v4))
theorem en_spec_l1Read (a0 : ByteArray) : evalF Try.prog ta_spec_l1Read pa_spec_l1Read sg_spec_l1Read Try.f137 L_spec_l1Read (a0, ()) = de_spec_l1Read a0 := by kernel_rfl
theorem si_spec_l1Read : SigsOk Try.prog ta_spec_l1Read := SigsOk.of fun f sd h => by
  try dsimp only [Tb.of, ta_spec_l1Read] at h
  cases h
theorem lk_spec_l1Read_4 {R : Type} : LoopOk Try.prog R 19 0 pa_spec_l1Read L_spec_l1Read co_spec_l1Read_4 :=
  loop_key (cfg := ⟨ta_spec_l1Read, 0, 19, pa_spec_l1Read⟩) (key := 4) (by kernel_rfl) (by kernel_rfl) si_spec_l1Read rfl rfl (fun d k r h => ⟨fu_spec_l1Read_4 d.1 d.2.1 d.2.2.1, (lp_spec_l1Read_4 _ d k).trans h⟩) (fun c hc => by rw [show loopsIn co_spec_l1Read_4 = [] from by kernel_rfl] at hc; cases hc)
theorem sn_spec_l1Read : Callable Try.prog 137 ∧ Sound Try.prog 137 sd_spec_l1Read.sg sd_spec_l1Read.den :=
  fn_loops (pat := pa_spec_l1Read) L_spec_l1Read (by kernel_rfl) si_spec_l1Read Try.func137 (by kernel_rfl) (by kernel_rfl) (fun c hc => by rw [show loopsIn (bodyOf Try.f137) = [co_spec_l1Read_4] from by kernel_rfl] at hc; simp only [List.mem_cons, List.not_mem_nil, or_false] at hc; rcases hc with rfl <;> first | exact lk_spec_l1Read_4) fun x r h => by
    obtain ⟨a0, ⟨⟩⟩ := x; obtain ⟨y, h1, h2⟩ := Option.bind_eq_some_iff.1 (show (m_spec_l1Read a0).bind (fun r => some ((r, ()), (()))) = some r from h); cases h2; exact (en_spec_l1Read a0).trans (eq_spec_l1Read a0 _ h1)
def m_spec_ReadPage (s : ByteArray) (w : Int) : Pg × Bool := readP s w
def sg_spec_ReadPage : Sig := ⟨[.rd .str, .rd (.int .i64)], [none, none], [.rd (.pair (.int .i64) (.pair (.int .i64) (.pair (.int .i64) (.pair .str .unit)))), .rd .bool], [some 4, none]⟩
noncomputable def sd_spec_ReadPage : SD := ⟨sg_spec_ReadPage, fun x => some (((m_spec_ReadPage x.1 x.2.1).1, (m_spec_ReadPage x.1 x.2.1).2, ()), (()))⟩
noncomputable def ta_spec_ReadPage : Tb := Tb.of fun f => if f = 91 then some sd_spec_FormPage else if f = 96 then some sd_spec_l1Width else if f = 136 then some sd_spec_l1Part else if f = 137 then some sd_spec_l1Read else none
def pa_spec_ReadPage : Nat → Pat × (Nat → Pat) := fun k => (⟨[], [], []⟩, fun _ => ⟨[], [], []⟩)
noncomputable def de_spec_ReadPage (a0 : ByteArray) (a1 : Int) : Option ((((Int × Int × Int × ByteArray × Unit) × (Bool) × Unit) × (Unit))) :=
  Option.bind (bif decide (a1 ≥ 1) then some ((decide (a1 ≤ 8), ()), ()) else some ((false, ()), ())) fun val =>
    bif !val.fst.fst then some (((0, 0, 0, ByteArray.mk #[], ()), false, ()), ())
    else
      bif nI (ByteArray.size a0) != 64 then some (((0, 0, 0, ByteArray.mk #[], ()), false, ()), ())
      else
        bif decide (0 ≤ a1) then
          bif decide (a1 ≤ nI (ByteArray.size a0)) then
            bif decide (7 < nI (ByteArray.size (cutOf a0 a1 (nI (ByteArray.size a0))))) then
              bif decide (IntKind.wrap IntKind.i64 (byteAt (cutOf a0 a1 (nI (ByteArray.size a0))) 7) > IntKind.wrap IntKind.i64 (IntKind.wrap IntKind.i64 (64 - a1) - 8)) then
                some (((0, 0, 0, ByteArray.mk #[], ()), false, ()), ())
              else
                bif decide (0 < nI (ByteArray.size (cutOf a0 a1 (nI (ByteArray.size a0))))) then
                  bif decide (3 ≤ nI (ByteArray.size (cutOf a0 a1 (nI (ByteArray.size a0))))) then
                    Option.bind (Option.bind (m_spec_l1Read (cutOf (cutOf a0 a1 (nI (ByteArray.size a0))) 1 3)) fun val => some ((val, ()), ())) fun val =>
                      bif decide (7 ≤ nI (ByteArray.size (cutOf a0 a1 (nI (ByteArray.size a0))))) then
                        Option.bind (Option.bind (m_spec_l1Read (cutOf (cutOf a0 a1 (nI (ByteArray.size a0))) 3 7)) fun val => some ((val, ()), ())) fun val_1 =>
                          bif decide (8 ≤ IntKind.wrap IntKind.i64 (8 + IntKind.wrap IntKind.i64 (byteAt (cutOf a0 a1 (nI (ByteArray.size a0))) 7))) then
                            bif
                                decide
                                  (IntKind.wrap IntKind.i64 (8 + IntKind.wrap IntKind.i64 (byteAt (cutOf a0 a1 (nI (ByteArray.size a0))) 7)) ≤
                                    nI (ByteArray.size (cutOf a0 a1 (nI (ByteArray.size a0))))) then
                              bif
                                  !ByteArray.toList
                                        (m_spec_FormPage
                                          (IntKind.wrap IntKind.i64 (byteAt (cutOf a0 a1 (nI (ByteArray.size a0))) 0), val.fst.fst, val_1.fst.fst,
                                            cutOf (cutOf a0 a1 (nI (ByteArray.size a0))) 8 (IntKind.wrap IntKind.i64 (8 + IntKind.wrap IntKind.i64 (byteAt (cutOf a0 a1 (nI (ByteArray.size a0))) 7))),
                                            ())
                                          a1) ==
                                      ByteArray.toList a0 then
                                some (((0, 0, 0, ByteArray.mk #[], ()), false, ()), ())
                              else
                                some
                                  (((IntKind.wrap IntKind.i64 (byteAt (cutOf a0 a1 (nI (ByteArray.size a0))) 0), val.fst.fst, val_1.fst.fst,
                                        cutOf (cutOf a0 a1 (nI (ByteArray.size a0))) 8 (IntKind.wrap IntKind.i64 (8 + IntKind.wrap IntKind.i64 (byteAt (cutOf a0 a1 (nI (ByteArray.size a0))) 7))), ()),
                                      true, ()),
                                    ())
                            else none
                          else none
                      else none
                  else none
                else none
            else none
          else none
        else none
theorem eq_spec_ReadPage (a0 : ByteArray) (a1 : Int) : de_spec_ReadPage a0 a1 = some (((m_spec_ReadPage a0 a1).1, (m_spec_ReadPage a0 a1).2, ()), (())) := by
  unfold de_spec_ReadPage m_spec_ReadPage readP
  refine bi_ (wid a1) ?_
  show (bif !inB a1 1 8 then _ else (bif nI a0.size != 64 then _ else _)) = _
  cases hz : nI a0.size != 64 with
  | true => cases inB a1 1 8 <;> rfl
  | false =>
      cases hw : inB a1 1 8 with
      | false => rfl
      | true =>
        have k1 := (inB_r hw).1
        have k2 := (inB_r hw).2
        have hs : a0.size = 64 := by
          by_cases q : nI a0.size = 64
          · simp only [nI] at q; omega
          · rw [(bne_iff_ne).2 q] at hz; cases hz
        have hb : (cutOf a0 a1 (nI a0.size)).size = (64 - a1).toNat := by rw [cutOf_size (by omega) (by simp only [nI]; omega) (by simp [nI])]; simp only [nI, hs]; omega
        simp only [Bool.not_true, cond_false, cond_true]
        rw [decide_eq_true (show (0 : Int) ≤ a1 by omega), decide_eq_true (show a1 ≤ nI a0.size by simp only [nI]; omega)]
        unfold rawP
        generalize cutOf a0 a1 (nI a0.size) = b at *
        obtain ⟨b0, b1⟩ := byteAt_in b 7
        obtain ⟨c0, c1⟩ := byteAt_in b 0
        have hB : nI b.size = 64 - a1 := by simp only [nI]; omega
        rw [hB, decide_eq_true (show (7 : Int) < 64 - a1 by omega), decide_eq_true (show (0 : Int) < 64 - a1 by omega), decide_eq_true (show (3 : Int) ≤ 64 - a1 by omega), decide_eq_true (show (7 : Int) ≤ 64 - a1 by omega), wrap_ok (n := byteAt b 7) (by omega) (by omega), wrap_ok (n := byteAt b 0) (by omega) (by omega), wrap_ok (n := 64 - a1) (by omega) (by omega), wrap_ok (n := 64 - a1 - 8) (by omega) (by omega), wrap_ok (n := 8 + byteAt b 7) (by omega) (by omega), show 64 - a1 - 8 = 56 - a1 by omega]
        by_cases q : byteAt b 7 > 56 - a1
        · rw [decide_eq_true q]; rfl
        · rw [decide_eq_false q]
          have n1 : m_spec_l1Read (cutOf b 1 3) = some (numS (cutOf b 1 3)) := if_pos (by rw [cutOf_size (by omega) (by omega) (by omega)]; decide)
          have n2 : m_spec_l1Read (cutOf b 3 7) = some (numS (cutOf b 3 7)) := if_pos (by rw [cutOf_size (by omega) (by omega) (by omega)]; decide)
          simp only [n1, n2, Option.bind_some, cond_true, cond_false]
          rw [decide_eq_true (show 8 ≤ 8 + byteAt b 7 by omega), decide_eq_true (show 8 + byteAt b 7 ≤ 64 - a1 by omega)]
          show (bif !(ByteArray.toList (pageS (rawB b) a1) == ByteArray.toList a0) then _ else _) = _
          cases (ByteArray.toList (pageS (rawB b) a1) == ByteArray.toList a0) <;> rfl
theorem en_spec_ReadPage (a0 : ByteArray) (a1 : Int) : evalF Try.prog ta_spec_ReadPage pa_spec_ReadPage sg_spec_ReadPage Try.f77 noL (a0, a1, ()) = de_spec_ReadPage a0 a1 := by kernel_rfl
theorem si_spec_ReadPage : SigsOk Try.prog ta_spec_ReadPage := SigsOk.of fun f sd h => by
  try dsimp only [Tb.of, ta_spec_ReadPage] at h
  split at h
  · rename_i e; subst e; cases h; exact sn_spec_FormPage
  split at h
  · rename_i e; subst e; cases h; exact sn_spec_l1Width
  split at h
  · rename_i e; subst e; cases h; exact sn_spec_l1Part
  split at h
  · rename_i e; subst e; cases h; exact sn_spec_l1Read
  cases h
theorem sn_spec_ReadPage : Callable Try.prog 77 ∧ Sound Try.prog 77 sd_spec_ReadPage.sg sd_spec_ReadPage.den :=
  fn_plain (pat := pa_spec_ReadPage) (by kernel_rfl) si_spec_ReadPage Try.func77 (by kernel_rfl) (by kernel_rfl) (by kernel_rfl) fun x r h => by
    obtain ⟨a0, a1, ⟨⟩⟩ := x; rw [← h]; exact (en_spec_ReadPage a0 a1).trans (eq_spec_ReadPage a0 a1)
def m_spec_Forged (w : Wld) : ByteArray := forgedS w
def sg_spec_Forged : Sig := ⟨[.rd (.pair (.int .i64) (.pair (.pair (.sl .str) (.pair (.sl (.pair (.int .i64) (.pair .str .unit))) .unit)) (.pair .bool (.pair (.pair (.int .i64) (.pair (.int .i64) (.pair (.int .i64) (.pair (.pair (.int .i64) (.pair (.int .i64) (.pair (.int .i64) (.pair (.int .i64) .unit)))) (.pair (.int .i64) (.pair (.int .i64) (.pair (.pair (.sl (.pair .str (.pair .str .unit))) .unit) .unit))))))) (.pair (.sl (.pair (.sl (.pair .str (.pair .str .unit))) .unit)) (.pair (.sl .str) .unit))))))], [some 16], [.rd .str], [none]⟩
noncomputable def sd_spec_Forged : SD := ⟨sg_spec_Forged, fun x => some (((m_spec_Forged x.1), ()), (()))⟩
noncomputable def ta_spec_Forged : Tb := Tb.of fun f => if f = 76 then some sd_spec_ValidWorld else if f = 77 then some sd_spec_ReadPage else none
def pa_spec_Forged : Nat → Pat × (Nat → Pat) := fun k => if k = 5 then (⟨[.boxSl 1 1 .str, .boxSl 1 2 (.pair (.int .i64) (.pair .str .unit)), .boxSl 1 13 (.pair .str (.pair .str .unit)), .boxSl 1 14 (.pair (.sl (.pair .str (.pair .str .unit))) .unit), .boxSl 1 15 .str], [(1, .lf (.ptr 0 0)), (3, .lf (.d (.int .i64)))], [.box 72 [.d (.int .i64), .d (.sl .str), .d (.sl (.pair (.int .i64) (.pair .str .unit))), .d .bool, .d (.int .i64), .d (.int .i64), .d (.int .i64), .d (.int .i64), .d (.int .i64), .d (.int .i64), .d (.int .i64), .d (.int .i64), .d (.int .i64), .d (.sl (.pair .str (.pair .str .unit))), .d (.sl (.pair (.sl (.pair .str (.pair .str .unit))) .unit)), .d (.sl .str)]]⟩, fun e => if e = 1 then ⟨[], [(2, .lf (.d .str))], []⟩ else if e = 2 then ⟨[], [], []⟩ else ⟨[], [], []⟩) else if k = 10 then (⟨[.boxSl 1 1 .str, .boxSl 1 2 (.pair (.int .i64) (.pair .str .unit)), .boxSl 1 13 (.pair .str (.pair .str .unit)), .boxSl 1 14 (.pair (.sl (.pair .str (.pair .str .unit))) .unit), .boxSl 1 15 .str], [(1, .lf (.ptr 0 0)), (3, .lf (.d (.int .i64))), (4, .lf (.d .str)), (6, .lf (.d .bool)), (7, .lf (.d (.int .i64)))], [.box 72 [.d (.int .i64), .d (.sl .str), .d (.sl (.pair (.int .i64) (.pair .str .unit))), .d .bool, .d (.int .i64), .d (.int .i64), .d (.int .i64), .d (.int .i64), .d (.int .i64), .d (.int .i64), .d (.int .i64), .d (.int .i64), .d (.int .i64), .d (.sl (.pair .str (.pair .str .unit))), .d (.sl (.pair (.sl (.pair .str (.pair .str .unit))) .unit)), .d (.sl .str)]]⟩, fun e => if e = 4 then ⟨[.boxSl 1 1 .str, .boxSl 1 2 (.pair (.int .i64) (.pair .str .unit)), .boxSl 1 13 (.pair .str (.pair .str .unit)), .boxSl 1 14 (.pair (.sl (.pair .str (.pair .str .unit))) .unit), .boxSl 1 15 .str], [(1, .lf (.ptr 0 0)), (3, .lf (.d (.int .i64))), (4, .lf (.d .str)), (6, .lf (.d .bool))], [.box 72 [.d (.int .i64), .d (.sl .str), .d (.sl (.pair (.int .i64) (.pair .str .unit))), .d .bool, .d (.int .i64), .d (.int .i64), .d (.int .i64), .d (.int .i64), .d (.int .i64), .d (.int .i64), .d (.int .i64), .d (.int .i64), .d (.int .i64), .d (.sl (.pair .str (.pair .str .unit))), .d (.sl (.pair (.sl (.pair .str (.pair .str .unit))) .unit)), .d (.sl .str)]]⟩ else ⟨[], [], []⟩) else (⟨[], [], []⟩, fun _ => ⟨[], [], []⟩)
noncomputable def co_spec_Forged_5 : Code := (loopsIn (bodyOf Try.f26)).getD 0 .skip
noncomputable def co_spec_Forged_10 : Code := (loopsIn co_spec_Forged_5).getD 0 .skip
def fu_spec_Forged_10 (v3 : Int) (v4 : ByteArray) (v6 : Bool) (v7 : Int) (b0_0 : Int) (b0_1 : List ByteArray) (b0_2 : List (Int × ByteArray × Unit)) (b0_3 : Bool) (b0_4 : Int) (b0_5 : Int) (b0_6 : Int) (b0_7 : Int) (b0_8 : Int) (b0_9 : Int) (b0_10 : Int) (b0_11 : Int) (b0_12 : Int) (b0_13 : List (ByteArray × ByteArray × Unit)) (b0_14 : List ((List (ByteArray × ByteArray × Unit)) × Unit)) (b0_15 : List ByteArray) : Nat := ((b0_15.length : Int) - v7).toNat + 1
noncomputable def tr_spec_Forged_10 {R : Type}  (NX : ((Int) × (ByteArray) × (Bool) × (Int) × (Int) × (List ByteArray) × (List (Int × ByteArray × Unit)) × (Bool) × (Int) × (Int) × (Int) × (Int) × (Int) × (Int) × (Int) × (Int) × (Int) × (List (ByteArray × ByteArray × Unit)) × (List ((List (ByteArray × ByteArray × Unit)) × Unit)) × (List ByteArray) × Unit) → Option R) (X4 : ((Int) × (ByteArray) × (Bool) × (Int) × (List ByteArray) × (List (Int × ByteArray × Unit)) × (Bool) × (Int) × (Int) × (Int) × (Int) × (Int) × (Int) × (Int) × (Int) × (Int) × (List (ByteArray × ByteArray × Unit)) × (List ((List (ByteArray × ByteArray × Unit)) × Unit)) × (List ByteArray) × Unit) → Option R) (v3 : Int) (v4 : ByteArray) (v6 : Bool) (v7 : Int) (b0_0 : Int) (b0_1 : List ByteArray) (b0_2 : List (Int × ByteArray × Unit)) (b0_3 : Bool) (b0_4 : Int) (b0_5 : Int) (b0_6 : Int) (b0_7 : Int) (b0_8 : Int) (b0_9 : Int) (b0_10 : Int) (b0_11 : Int) (b0_12 : Int) (b0_13 : List (ByteArray × ByteArray × Unit)) (b0_14 : List ((List (ByteArray × ByteArray × Unit)) × Unit)) (b0_15 : List ByteArray) : Option R :=
  bif decide (v7 < nI (List.length b0_15)) then
    bif v6 then
      bif decide (0 ≤ v7) then
        bif decide (v7 < nI (List.length b0_15)) then
          NX
            (v3, v4, !ByteArray.toList (List.getD b0_15 (Int.toNat v7) (ByteArray.mk #[])) == ByteArray.toList v4, IntKind.wrap IntKind.i64 (v7 + 1), b0_0, b0_1, b0_2, b0_3, b0_4, b0_5, b0_6, b0_7,
              b0_8, b0_9, b0_10, b0_11, b0_12, b0_13, b0_14, b0_15, ())
        else none
      else none
    else X4 (v3, v4, v6, b0_0, b0_1, b0_2, b0_3, b0_4, b0_5, b0_6, b0_7, b0_8, b0_9, b0_10, b0_11, b0_12, b0_13, b0_14, b0_15, ())
  else X4 (v3, v4, v6, b0_0, b0_1, b0_2, b0_3, b0_4, b0_5, b0_6, b0_7, b0_8, b0_9, b0_10, b0_11, b0_12, b0_13, b0_14, b0_15, ())
noncomputable def lo_spec_Forged_10 : Nat → (Int) → (ByteArray) → (Bool) → (Int) → (Int) → (List ByteArray) → (List (Int × ByteArray × Unit)) → (Bool) → (Int) → (Int) → (Int) → (Int) → (Int) → (Int) → (Int) → (Int) → (Int) → (List (ByteArray × ByteArray × Unit)) → (List ((List (ByteArray × ByteArray × Unit)) × Unit)) → (List ByteArray) →  Option ((Int) × (ByteArray) × (Bool) × (Int) × (List ByteArray) × (List (Int × ByteArray × Unit)) × (Bool) × (Int) × (Int) × (Int) × (Int) × (Int) × (Int) × (Int) × (Int) × (Int) × (List (ByteArray × ByteArray × Unit)) × (List ((List (ByteArray × ByteArray × Unit)) × Unit)) × (List ByteArray) × Unit)
  | 0, _, _, _, _, _, _, _, _, _, _, _, _, _, _, _, _, _, _, _, _ => none
  | m + 1, v3, v4, v6, v7, b0_0, b0_1, b0_2, b0_3, b0_4, b0_5, b0_6, b0_7, b0_8, b0_9, b0_10, b0_11, b0_12, b0_13, b0_14, b0_15 => tr_spec_Forged_10  (fun d => lo_spec_Forged_10 m d.1 d.2.1 d.2.2.1 d.2.2.2.1 d.2.2.2.2.1 d.2.2.2.2.2.1 d.2.2.2.2.2.2.1 d.2.2.2.2.2.2.2.1 d.2.2.2.2.2.2.2.2.1 d.2.2.2.2.2.2.2.2.2.1 d.2.2.2.2.2.2.2.2.2.2.1 d.2.2.2.2.2.2.2.2.2.2.2.1 d.2.2.2.2.2.2.2.2.2.2.2.2.1 d.2.2.2.2.2.2.2.2.2.2.2.2.2.1 d.2.2.2.2.2.2.2.2.2.2.2.2.2.2.1 d.2.2.2.2.2.2.2.2.2.2.2.2.2.2.2.1 d.2.2.2.2.2.2.2.2.2.2.2.2.2.2.2.2.1 d.2.2.2.2.2.2.2.2.2.2.2.2.2.2.2.2.2.1 d.2.2.2.2.2.2.2.2.2.2.2.2.2.2.2.2.2.2.1 d.2.2.2.2.2.2.2.2.2.2.2.2.2.2.2.2.2.2.2.1) (fun d => some (d)) v3 v4 v6 v7 b0_0 b0_1 b0_2 b0_3 b0_4 b0_5 b0_6 b0_7 b0_8 b0_9 b0_10 b0_11 b0_12 b0_13 b0_14 b0_15
theorem na_spec_Forged_10 {R S : Type}  (NX : ((Int) × (ByteArray) × (Bool) × (Int) × (Int) × (List ByteArray) × (List (Int × ByteArray × Unit)) × (Bool) × (Int) × (Int) × (Int) × (Int) × (Int) × (Int) × (Int) × (Int) × (Int) × (List (ByteArray × ByteArray × Unit)) × (List ((List (ByteArray × ByteArray × Unit)) × Unit)) × (List ByteArray) × Unit) → Option R) (X4 : ((Int) × (ByteArray) × (Bool) × (Int) × (List ByteArray) × (List (Int × ByteArray × Unit)) × (Bool) × (Int) × (Int) × (Int) × (Int) × (Int) × (Int) × (Int) × (Int) × (Int) × (List (ByteArray × ByteArray × Unit)) × (List ((List (ByteArray × ByteArray × Unit)) × Unit)) × (List ByteArray) × Unit) → Option R) (v3 : Int) (v4 : ByteArray) (v6 : Bool) (v7 : Int) (b0_0 : Int) (b0_1 : List ByteArray) (b0_2 : List (Int × ByteArray × Unit)) (b0_3 : Bool) (b0_4 : Int) (b0_5 : Int) (b0_6 : Int) (b0_7 : Int) (b0_8 : Int) (b0_9 : Int) (b0_10 : Int) (b0_11 : Int) (b0_12 : Int) (b0_13 : List (ByteArray × ByteArray × Unit)) (b0_14 : List ((List (ByteArray × ByteArray × Unit)) × Unit)) (b0_15 : List ByteArray) (f : R → Option S) : tr_spec_Forged_10  (fun d => (NX d).bind f) (fun d => (X4 d).bind f) v3 v4 v6 v7 b0_0 b0_1 b0_2 b0_3 b0_4 b0_5 b0_6 b0_7 b0_8 b0_9 b0_10 b0_11 b0_12 b0_13 b0_14 b0_15 = (tr_spec_Forged_10  NX X4 v3 v4 v6 v7 b0_0 b0_1 b0_2 b0_3 b0_4 b0_5 b0_6 b0_7 b0_8 b0_9 b0_10 b0_11 b0_12 b0_13 b0_14 b0_15).bind f := by
  unfold tr_spec_Forged_10
  simp only [cond_bind, ite_bind, onSum_bind, Option.bind_assoc, Option.bind_none, Option.bind_some]
def fu_spec_Forged_5 (v3 : Int) (b0_0 : Int) (b0_1 : List ByteArray) (b0_2 : List (Int × ByteArray × Unit)) (b0_3 : Bool) (b0_4 : Int) (b0_5 : Int) (b0_6 : Int) (b0_7 : Int) (b0_8 : Int) (b0_9 : Int) (b0_10 : Int) (b0_11 : Int) (b0_12 : Int) (b0_13 : List (ByteArray × ByteArray × Unit)) (b0_14 : List ((List (ByteArray × ByteArray × Unit)) × Unit)) (b0_15 : List ByteArray) : Nat := ((b0_1.length : Int) - v3).toNat + 1
noncomputable def tr_spec_Forged_5 {R : Type} (LO10 : ((Int) × (ByteArray) × (Bool) × (Int) × (Int) × (List ByteArray) × (List (Int × ByteArray × Unit)) × (Bool) × (Int) × (Int) × (Int) × (Int) × (Int) × (Int) × (Int) × (Int) × (Int) × (List (ByteArray × ByteArray × Unit)) × (List ((List (ByteArray × ByteArray × Unit)) × Unit)) × (List ByteArray) × Unit) → Option ((Int) × (ByteArray) × (Bool) × (Int) × (List ByteArray) × (List (Int × ByteArray × Unit)) × (Bool) × (Int) × (Int) × (Int) × (Int) × (Int) × (Int) × (Int) × (Int) × (Int) × (List (ByteArray × ByteArray × Unit)) × (List ((List (ByteArray × ByteArray × Unit)) × Unit)) × (List ByteArray) × Unit)) (NX : ((Int) × (Int) × (List ByteArray) × (List (Int × ByteArray × Unit)) × (Bool) × (Int) × (Int) × (Int) × (Int) × (Int) × (Int) × (Int) × (Int) × (Int) × (List (ByteArray × ByteArray × Unit)) × (List ((List (ByteArray × ByteArray × Unit)) × Unit)) × (List ByteArray) × Unit) → Option R) (X2 : (Unit) → Option R) (X1 : ((ByteArray) × Unit) → Option R) (v3 : Int) (b0_0 : Int) (b0_1 : List ByteArray) (b0_2 : List (Int × ByteArray × Unit)) (b0_3 : Bool) (b0_4 : Int) (b0_5 : Int) (b0_6 : Int) (b0_7 : Int) (b0_8 : Int) (b0_9 : Int) (b0_10 : Int) (b0_11 : Int) (b0_12 : Int) (b0_13 : List (ByteArray × ByteArray × Unit)) (b0_14 : List ((List (ByteArray × ByteArray × Unit)) × Unit)) (b0_15 : List ByteArray) : Option R :=
  bif decide (v3 < nI (List.length b0_1)) then
    bif decide (0 ≤ v3) then
      bif decide (v3 < nI (List.length b0_1)) then
        Option.bind
          (LO10
            (v3, List.getD b0_1 (Int.toNat v3) (ByteArray.mk #[]), (m_spec_ReadPage (List.getD b0_1 (Int.toNat v3) (ByteArray.mk #[])) b0_0).snd, 0, b0_0, b0_1, b0_2, b0_3, b0_4, b0_5, b0_6, b0_7, b0_8,
              b0_9, b0_10, b0_11, b0_12, b0_13, b0_14, b0_15, ()))
          fun val =>
          bif val.snd.snd.fst then X1 (val.snd.fst, ())
          else
            NX
              (IntKind.wrap IntKind.i64 (val.fst + 1), val.snd.snd.snd.fst, val.snd.snd.snd.snd.fst, val.snd.snd.snd.snd.snd.fst, val.snd.snd.snd.snd.snd.snd.fst, val.snd.snd.snd.snd.snd.snd.snd.fst,
                val.snd.snd.snd.snd.snd.snd.snd.snd.fst, val.snd.snd.snd.snd.snd.snd.snd.snd.snd.fst, val.snd.snd.snd.snd.snd.snd.snd.snd.snd.snd.fst,
                val.snd.snd.snd.snd.snd.snd.snd.snd.snd.snd.snd.fst, val.snd.snd.snd.snd.snd.snd.snd.snd.snd.snd.snd.snd.fst, val.snd.snd.snd.snd.snd.snd.snd.snd.snd.snd.snd.snd.snd.fst,
                val.snd.snd.snd.snd.snd.snd.snd.snd.snd.snd.snd.snd.snd.snd.fst, val.snd.snd.snd.snd.snd.snd.snd.snd.snd.snd.snd.snd.snd.snd.snd.fst,
                val.snd.snd.snd.snd.snd.snd.snd.snd.snd.snd.snd.snd.snd.snd.snd.snd.fst, val.snd.snd.snd.snd.snd.snd.snd.snd.snd.snd.snd.snd.snd.snd.snd.snd.snd.fst,
                val.snd.snd.snd.snd.snd.snd.snd.snd.snd.snd.snd.snd.snd.snd.snd.snd.snd.snd.fst, ())
      else none
    else none
  else X2 PUnit.unit
noncomputable def lo_spec_Forged_5 : Nat → (Int) → (Int) → (List ByteArray) → (List (Int × ByteArray × Unit)) → (Bool) → (Int) → (Int) → (Int) → (Int) → (Int) → (Int) → (Int) → (Int) → (Int) → (List (ByteArray × ByteArray × Unit)) → (List ((List (ByteArray × ByteArray × Unit)) × Unit)) → (List ByteArray) →  Option ((Unit) ⊕ ((ByteArray) × Unit))
  | 0, _, _, _, _, _, _, _, _, _, _, _, _, _, _, _, _, _ => none
  | m + 1, v3, b0_0, b0_1, b0_2, b0_3, b0_4, b0_5, b0_6, b0_7, b0_8, b0_9, b0_10, b0_11, b0_12, b0_13, b0_14, b0_15 => tr_spec_Forged_5 (fun d => lo_spec_Forged_10 (fu_spec_Forged_10 d.1 d.2.1 d.2.2.1 d.2.2.2.1 d.2.2.2.2.1 d.2.2.2.2.2.1 d.2.2.2.2.2.2.1 d.2.2.2.2.2.2.2.1 d.2.2.2.2.2.2.2.2.1 d.2.2.2.2.2.2.2.2.2.1 d.2.2.2.2.2.2.2.2.2.2.1 d.2.2.2.2.2.2.2.2.2.2.2.1 d.2.2.2.2.2.2.2.2.2.2.2.2.1 d.2.2.2.2.2.2.2.2.2.2.2.2.2.1 d.2.2.2.2.2.2.2.2.2.2.2.2.2.2.1 d.2.2.2.2.2.2.2.2.2.2.2.2.2.2.2.1 d.2.2.2.2.2.2.2.2.2.2.2.2.2.2.2.2.1 d.2.2.2.2.2.2.2.2.2.2.2.2.2.2.2.2.2.1 d.2.2.2.2.2.2.2.2.2.2.2.2.2.2.2.2.2.2.1 d.2.2.2.2.2.2.2.2.2.2.2.2.2.2.2.2.2.2.2.1) d.1 d.2.1 d.2.2.1 d.2.2.2.1 d.2.2.2.2.1 d.2.2.2.2.2.1 d.2.2.2.2.2.2.1 d.2.2.2.2.2.2.2.1 d.2.2.2.2.2.2.2.2.1 d.2.2.2.2.2.2.2.2.2.1 d.2.2.2.2.2.2.2.2.2.2.1 d.2.2.2.2.2.2.2.2.2.2.2.1 d.2.2.2.2.2.2.2.2.2.2.2.2.1 d.2.2.2.2.2.2.2.2.2.2.2.2.2.1 d.2.2.2.2.2.2.2.2.2.2.2.2.2.2.1 d.2.2.2.2.2.2.2.2.2.2.2.2.2.2.2.1 d.2.2.2.2.2.2.2.2.2.2.2.2.2.2.2.2.1 d.2.2.2.2.2.2.2.2.2.2.2.2.2.2.2.2.2.1 d.2.2.2.2.2.2.2.2.2.2.2.2.2.2.2.2.2.2.1 d.2.2.2.2.2.2.2.2.2.2.2.2.2.2.2.2.2.2.2.1) (fun d => lo_spec_Forged_5 m d.1 d.2.1 d.2.2.1 d.2.2.2.1 d.2.2.2.2.1 d.2.2.2.2.2.1 d.2.2.2.2.2.2.1 d.2.2.2.2.2.2.2.1 d.2.2.2.2.2.2.2.2.1 d.2.2.2.2.2.2.2.2.2.1 d.2.2.2.2.2.2.2.2.2.2.1 d.2.2.2.2.2.2.2.2.2.2.2.1 d.2.2.2.2.2.2.2.2.2.2.2.2.1 d.2.2.2.2.2.2.2.2.2.2.2.2.2.1 d.2.2.2.2.2.2.2.2.2.2.2.2.2.2.1 d.2.2.2.2.2.2.2.2.2.2.2.2.2.2.2.1 d.2.2.2.2.2.2.2.2.2.2.2.2.2.2.2.2.1) (fun d => some (.inl (d))) (fun d => some (.inr (d))) v3 b0_0 b0_1 b0_2 b0_3 b0_4 b0_5 b0_6 b0_7 b0_8 b0_9 b0_10 b0_11 b0_12 b0_13 b0_14 b0_15
theorem na_spec_Forged_5 {R S : Type} (LO10 : ((Int) × (ByteArray) × (Bool) × (Int) × (Int) × (List ByteArray) × (List (Int × ByteArray × Unit)) × (Bool) × (Int) × (Int) × (Int) × (Int) × (Int) × (Int) × (Int) × (Int) × (Int) × (List (ByteArray × ByteArray × Unit)) × (List ((List (ByteArray × ByteArray × Unit)) × Unit)) × (List ByteArray) × Unit) → Option ((Int) × (ByteArray) × (Bool) × (Int) × (List ByteArray) × (List (Int × ByteArray × Unit)) × (Bool) × (Int) × (Int) × (Int) × (Int) × (Int) × (Int) × (Int) × (Int) × (Int) × (List (ByteArray × ByteArray × Unit)) × (List ((List (ByteArray × ByteArray × Unit)) × Unit)) × (List ByteArray) × Unit)) (NX : ((Int) × (Int) × (List ByteArray) × (List (Int × ByteArray × Unit)) × (Bool) × (Int) × (Int) × (Int) × (Int) × (Int) × (Int) × (Int) × (Int) × (Int) × (List (ByteArray × ByteArray × Unit)) × (List ((List (ByteArray × ByteArray × Unit)) × Unit)) × (List ByteArray) × Unit) → Option R) (X2 : (Unit) → Option R) (X1 : ((ByteArray) × Unit) → Option R) (v3 : Int) (b0_0 : Int) (b0_1 : List ByteArray) (b0_2 : List (Int × ByteArray × Unit)) (b0_3 : Bool) (b0_4 : Int) (b0_5 : Int) (b0_6 : Int) (b0_7 : Int) (b0_8 : Int) (b0_9 : Int) (b0_10 : Int) (b0_11 : Int) (b0_12 : Int) (b0_13 : List (ByteArray × ByteArray × Unit)) (b0_14 : List ((List (ByteArray × ByteArray × Unit)) × Unit)) (b0_15 : List ByteArray) (f : R → Option S) : tr_spec_Forged_5 LO10 (fun d => (NX d).bind f) (fun d => (X2 d).bind f) (fun d => (X1 d).bind f) v3 b0_0 b0_1 b0_2 b0_3 b0_4 b0_5 b0_6 b0_7 b0_8 b0_9 b0_10 b0_11 b0_12 b0_13 b0_14 b0_15 = (tr_spec_Forged_5 LO10 NX X2 X1 v3 b0_0 b0_1 b0_2 b0_3 b0_4 b0_5 b0_6 b0_7 b0_8 b0_9 b0_10 b0_11 b0_12 b0_13 b0_14 b0_15).bind f := by
  unfold tr_spec_Forged_5
  simp only [cond_bind, ite_bind, onSum_bind, Option.bind_assoc, Option.bind_none, Option.bind_some]
noncomputable def de_spec_Forged (a0 : Int × ((List ByteArray) × (List (Int × ByteArray × Unit)) × Unit) × Bool × (Int × Int × Int × (Int × Int × Int × Int × Unit) × Int × Int × ((List (ByteArray × ByteArray × Unit)) × Unit) × Unit) × (List ((List (ByteArray × ByteArray × Unit)) × Unit)) × (List ByteArray) × Unit) : Option ((((ByteArray) × Unit) × (Unit))) :=
  bif
      !m_spec_ValidWorld
          (a0.fst, (a0.snd.fst.fst, a0.snd.fst.snd.fst, ()), a0.snd.snd.fst,
            (a0.snd.snd.snd.fst.fst, a0.snd.snd.snd.fst.snd.fst, a0.snd.snd.snd.fst.snd.snd.fst,
              (a0.snd.snd.snd.fst.snd.snd.snd.fst.fst, a0.snd.snd.snd.fst.snd.snd.snd.fst.snd.fst, a0.snd.snd.snd.fst.snd.snd.snd.fst.snd.snd.fst, a0.snd.snd.snd.fst.snd.snd.snd.fst.snd.snd.snd.fst,
                ()),
              a0.snd.snd.snd.fst.snd.snd.snd.snd.fst, a0.snd.snd.snd.fst.snd.snd.snd.snd.snd.fst, (a0.snd.snd.snd.fst.snd.snd.snd.snd.snd.snd.fst.fst, ()), ()),
            a0.snd.snd.snd.snd.fst, a0.snd.snd.snd.snd.snd.fst, ()) then
    some ((ByteArray.mk #[], ()), ())
  else
    Option.bind
      ((fun d => lo_spec_Forged_5 (fu_spec_Forged_5 d.1 d.2.1 d.2.2.1 d.2.2.2.1 d.2.2.2.2.1 d.2.2.2.2.2.1 d.2.2.2.2.2.2.1 d.2.2.2.2.2.2.2.1 d.2.2.2.2.2.2.2.2.1 d.2.2.2.2.2.2.2.2.2.1 d.2.2.2.2.2.2.2.2.2.2.1 d.2.2.2.2.2.2.2.2.2.2.2.1 d.2.2.2.2.2.2.2.2.2.2.2.2.1 d.2.2.2.2.2.2.2.2.2.2.2.2.2.1 d.2.2.2.2.2.2.2.2.2.2.2.2.2.2.1 d.2.2.2.2.2.2.2.2.2.2.2.2.2.2.2.1 d.2.2.2.2.2.2.2.2.2.2.2.2.2.2.2.2.1) d.1 d.2.1 d.2.2.1 d.2.2.2.1 d.2.2.2.2.1 d.2.2.2.2.2.1 d.2.2.2.2.2.2.1 d.2.2.2.2.2.2.2.1 d.2.2.2.2.2.2.2.2.1 d.2.2.2.2.2.2.2.2.2.1 d.2.2.2.2.2.2.2.2.2.2.1 d.2.2.2.2.2.2.2.2.2.2.2.1 d.2.2.2.2.2.2.2.2.2.2.2.2.1 d.2.2.2.2.2.2.2.2.2.2.2.2.2.1 d.2.2.2.2.2.2.2.2.2.2.2.2.2.2.1 d.2.2.2.2.2.2.2.2.2.2.2.2.2.2.2.1 d.2.2.2.2.2.2.2.2.2.2.2.2.2.2.2.2.1)
        (0, a0.fst, a0.snd.fst.fst, a0.snd.fst.snd.fst, a0.snd.snd.fst, a0.snd.snd.snd.fst.fst, a0.snd.snd.snd.fst.snd.fst, a0.snd.snd.snd.fst.snd.snd.fst, a0.snd.snd.snd.fst.snd.snd.snd.fst.fst,
          a0.snd.snd.snd.fst.snd.snd.snd.fst.snd.fst, a0.snd.snd.snd.fst.snd.snd.snd.fst.snd.snd.fst, a0.snd.snd.snd.fst.snd.snd.snd.fst.snd.snd.snd.fst, a0.snd.snd.snd.fst.snd.snd.snd.snd.fst,
          a0.snd.snd.snd.fst.snd.snd.snd.snd.snd.fst, a0.snd.snd.snd.fst.snd.snd.snd.snd.snd.snd.fst.fst, a0.snd.snd.snd.snd.fst, a0.snd.snd.snd.snd.snd.fst, ()))
      fun val => onSum (fun val => some ((ByteArray.mk #[], ()), ())) (fun val => some ((val.fst, ()), ())) val
theorem forged_loop10 (b0 b4 b5 b6 b7 b8 b9 b10 b11 b12 : Int) (b1 : List ByteArray) (b2 : List Wr) (b3 : Bool) (b13 : List Pr2) (b14 : List Stt) (b15 : List ByteArray) (v3 : Int) (x : ByteArray) (ok : Bool) (hW : b15.length ≤ 2000) :
    lo_spec_Forged_10 (fu_spec_Forged_10 v3 x ok 0 b0 b1 b2 b3 b4 b5 b6 b7 b8 b9 b10 b11 b12 b13 b14 b15) v3 x ok 0 b0 b1 b2 b3 b4 b5 b6 b7 b8 b9 b10 b11 b12 b13 b14 b15 = some (v3, x, ok && !inL b15 x, b0, b1, b2, b3, b4, b5, b6, b7, b8, b9, b10, b11, b12, b13, b14, b15, ()) := by
  have hL := flag_loop (xs := b15) z0 (fun y => !keyEq y x) (g := fun m ok i => lo_spec_Forged_10 m v3 x ok i b0 b1 b2 b3 b4 b5 b6 b7 b8 b9 b10 b11 b12 b13 b14 b15) (ok := fun ok => (v3, x, ok, b0, b1, b2, b3, b4, b5, b6, b7, b8, b9, b10, b11, b12, b13, b14, b15, ())) (fun m i hi => by
      show lo_spec_Forged_10 (m + 1) v3 x true i b0 b1 b2 b3 b4 b5 b6 b7 b8 b9 b10 b11 b12 b13 b14 b15 = _
      simp only [lo_spec_Forged_10, tr_spec_Forged_10]
      rw [cLt hi, cLe0, wI (show i < 4611686018427387904 by omega), Int.toNat_natCast]
      rfl) (fun m i hi => by
      show lo_spec_Forged_10 (m + 1) v3 x false i b0 b1 b2 b3 b4 b5 b6 b7 b8 b9 b10 b11 b12 b13 b14 b15 = _
      simp only [lo_spec_Forged_10, tr_spec_Forged_10]
      cases decide ((i : Int) < nI b15.length) <;> rfl) (fun m ok => by
      show lo_spec_Forged_10 (m + 1) v3 x ok (b15.length : Int) b0 b1 b2 b3 b4 b5 b6 b7 b8 b9 b10 b11 b12 b13 b14 b15 = _
      simp only [lo_spec_Forged_10, tr_spec_Forged_10]
      rw [cLtF]
      rfl) (fu_spec_Forged_10 v3 x ok 0 b0 b1 b2 b3 b4 b5 b6 b7 b8 b9 b10 b11 b12 b13 b14 b15) 0 ok (by omega) (by simp [fu_spec_Forged_10, nI])
  rw [List.drop_zero, all_inL] at hL
  exact hL
theorem forged_loop5 (b0 b4 b5 b6 b7 b8 b9 b10 b11 b12 : Int) (b1 : List ByteArray) (b2 : List Wr) (b3 : Bool) (b13 : List Pr2) (b14 : List Stt) (b15 : List ByteArray) (hb : b1.length ≤ 200) (hW : b15.length ≤ 2000) :
    lo_spec_Forged_5 (fu_spec_Forged_5 0 b0 b1 b2 b3 b4 b5 b6 b7 b8 b9 b10 b11 b12 b13 b14 b15) 0 b0 b1 b2 b3 b4 b5 b6 b7 b8 b9 b10 b11 b12 b13 b14 b15 = some (findGo (fun x => (readP x b0).2 && !inL b15 x) (fun x => .inr (x, ())) (.inl ()) b1) := by
  have hL := find_loop (xs := b1) z0 (fun x => (readP x b0).2 && !inL b15 x) (fun x => .inr (x, ())) (g := fun m i => lo_spec_Forged_5 m i b0 b1 b2 b3 b4 b5 b6 b7 b8 b9 b10 b11 b12 b13 b14 b15) (ok := .inl ()) (fun m i hi => by
      show lo_spec_Forged_5 (m + 1) i b0 b1 b2 b3 b4 b5 b6 b7 b8 b9 b10 b11 b12 b13 b14 b15 = _
      simp only [lo_spec_Forged_5, tr_spec_Forged_5]
      rw [cLt hi, cLe0, Int.toNat_natCast]
      simp only [cond_true]
      refine (congrArg (fun y => Option.bind y _) (forged_loop10 b0 b4 b5 b6 b7 b8 b9 b10 b11 b12 b1 b2 b3 b13 b14 b15 (i : Int) (List.getD b1 i z0) (readP (List.getD b1 i z0) b0).2 hW)).trans ?_
      simp only [Option.bind_some]
      rw [wI (show i < 4611686018427387904 by omega)]) (fun m => by
      show lo_spec_Forged_5 (m + 1) (b1.length : Int) b0 b1 b2 b3 b4 b5 b6 b7 b8 b9 b10 b11 b12 b13 b14 b15 = _
      simp only [lo_spec_Forged_5, tr_spec_Forged_5]
      rw [cLtF]
      rfl) (fu_spec_Forged_5 0 b0 b1 b2 b3 b4 b5 b6 b7 b8 b9 b10 b11 b12 b13 b14 b15) 0 (by omega) (by simp [fu_spec_Forged_5, nI])
  rw [List.drop_zero] at hL
  exact hL
theorem eq_spec_Forged (a0 : Int × ((List ByteArray) × (List (Int × ByteArray × Unit)) × Unit) × Bool × (Int × Int × Int × (Int × Int × Int × Int × Unit) × Int × Int × ((List (ByteArray × ByteArray × Unit)) × Unit) × Unit) × (List ((List (ByteArray × ByteArray × Unit)) × Unit)) × (List ByteArray) × Unit) : de_spec_Forged a0 = some (((m_spec_Forged a0), ()), (())) := by
  unfold de_spec_Forged m_spec_Forged forgedS
  show (bif !validWorld a0 then _ else _) = _
  cases hv : validWorld a0 with
  | false => rfl
  | true =>
    obtain ⟨h1, h2, _⟩ := worldOk hv
    simp only [Bool.not_true, cond_false, cond_true]
    refine bindOf (forged_loop5 a0.1 a0.2.2.2.1.1 a0.2.2.2.1.2.1 a0.2.2.2.1.2.2.1 a0.2.2.2.1.2.2.2.1.1 a0.2.2.2.1.2.2.2.1.2.1 a0.2.2.2.1.2.2.2.1.2.2.1 a0.2.2.2.1.2.2.2.1.2.2.2.1 a0.2.2.2.1.2.2.2.2.1 a0.2.2.2.1.2.2.2.2.2.1 a0.2.1.1 a0.2.1.2.1 a0.2.2.1 a0.2.2.2.1.2.2.2.2.2.2.1.1 a0.2.2.2.2.1 a0.2.2.2.2.2.1 (disk_ok h1).n200 h2) ?_
    rw [findGo_map (onSum _ _), findGo_map (fun r : ByteArray => some ((r, ()), ()))]
    rfl
noncomputable def ou_spec_Forged_5 {R : Type} (k : Kt R) : ((Unit) ⊕ ((ByteArray) × Unit)) → Option R := (onSum (fun d => k (.exit 0) (((pa_spec_Forged 5).2 2).st d) (((pa_spec_Forged 5).2 2).nid)) (fun d => k .ret (((pa_spec_Forged 5).2 1).st d) (((pa_spec_Forged 5).2 1).nid)))
noncomputable def ou_spec_Forged_10 {R : Type} (k : Kt R) : ((Int) × (ByteArray) × (Bool) × (Int) × (List ByteArray) × (List (Int × ByteArray × Unit)) × (Bool) × (Int) × (Int) × (Int) × (Int) × (Int) × (Int) × (Int) × (Int) × (Int) × (List (ByteArray × ByteArray × Unit)) × (List ((List (ByteArray × ByteArray × Unit)) × Unit)) × (List ByteArray) × Unit) → Option R := (fun d => k (.exit 2) (((pa_spec_Forged 10).2 4).st d) (((pa_spec_Forged 10).2 4).nid))
noncomputable def L_spec_Forged {R : Type} : Lt R pa_spec_Forged := (addL (pat := pa_spec_Forged) 5 (fun d k => (lo_spec_Forged_5 (fu_spec_Forged_5 d.1 d.2.1 d.2.2.1 d.2.2.2.1 d.2.2.2.2.1 d.2.2.2.2.2.1 d.2.2.2.2.2.2.1 d.2.2.2.2.2.2.2.1 d.2.2.2.2.2.2.2.2.1 d.2.2.2.2.2.2.2.2.2.1 d.2.2.2.2.2.2.2.2.2.2.1 d.2.2.2.2.2.2.2.2.2.2.2.1 d.2.2.2.2.2.2.2.2.2.2.2.2.1 d.2.2.2.2.2.2.2.2.2.2.2.2.2.1 d.2.2.2.2.2.2.2.2.2.2.2.2.2.2.1 d.2.2.2.2.2.2.2.2.2.2.2.2.2.2.2.1 d.2.2.2.2.2.2.2.2.2.2.2.2.2.2.2.2.1) d.1 d.2.1 d.2.2.1 d.2.2.2.1 d.2.2.2.2.1 d.2.2.2.2.2.1 d.2.2.2.2.2.2.1 d.2.2.2.2.2.2.2.1 d.2.2.2.2.2.2.2.2.1 d.2.2.2.2.2.2.2.2.2.1 d.2.2.2.2.2.2.2.2.2.2.1 d.2.2.2.2.2.2.2.2.2.2.2.1 d.2.2.2.2.2.2.2.2.2.2.2.2.1 d.2.2.2.2.2.2.2.2.2.2.2.2.2.1 d.2.2.2.2.2.2.2.2.2.2.2.2.2.2.1 d.2.2.2.2.2.2.2.2.2.2.2.2.2.2.2.1 d.2.2.2.2.2.2.2.2.2.2.2.2.2.2.2.2.1).bind (ou_spec_Forged_5 k)) (addL (pat := pa_spec_Forged) 10 (fun d k => (lo_spec_Forged_10 (fu_spec_Forged_10 d.1 d.2.1 d.2.2.1 d.2.2.2.1 d.2.2.2.2.1 d.2.2.2.2.2.1 d.2.2.2.2.2.2.1 d.2.2.2.2.2.2.2.1 d.2.2.2.2.2.2.2.2.1 d.2.2.2.2.2.2.2.2.2.1 d.2.2.2.2.2.2.2.2.2.2.1 d.2.2.2.2.2.2.2.2.2.2.2.1 d.2.2.2.2.2.2.2.2.2.2.2.2.1 d.2.2.2.2.2.2.2.2.2.2.2.2.2.1 d.2.2.2.2.2.2.2.2.2.2.2.2.2.2.1 d.2.2.2.2.2.2.2.2.2.2.2.2.2.2.2.1 d.2.2.2.2.2.2.2.2.2.2.2.2.2.2.2.2.1 d.2.2.2.2.2.2.2.2.2.2.2.2.2.2.2.2.2.1 d.2.2.2.2.2.2.2.2.2.2.2.2.2.2.2.2.2.2.1 d.2.2.2.2.2.2.2.2.2.2.2.2.2.2.2.2.2.2.2.1) d.1 d.2.1 d.2.2.1 d.2.2.2.1 d.2.2.2.2.1 d.2.2.2.2.2.1 d.2.2.2.2.2.2.1 d.2.2.2.2.2.2.2.1 d.2.2.2.2.2.2.2.2.1 d.2.2.2.2.2.2.2.2.2.1 d.2.2.2.2.2.2.2.2.2.2.1 d.2.2.2.2.2.2.2.2.2.2.2.1 d.2.2.2.2.2.2.2.2.2.2.2.2.1 d.2.2.2.2.2.2.2.2.2.2.2.2.2.1 d.2.2.2.2.2.2.2.2.2.2.2.2.2.2.1 d.2.2.2.2.2.2.2.2.2.2.2.2.2.2.2.1 d.2.2.2.2.2.2.2.2.2.2.2.2.2.2.2.2.1 d.2.2.2.2.2.2.2.2.2.2.2.2.2.2.2.2.2.1 d.2.2.2.2.2.2.2.2.2.2.2.2.2.2.2.2.2.2.1 d.2.2.2.2.2.2.2.2.2.2.2.2.2.2.2.2.2.2.2.1).bind (ou_spec_Forged_10 k)) noL))
theorem rd_spec_Forged_10 {R : Type} (nx : (pa_spec_Forged 10).1.D → Kt R → Option R) (k : Kt R) (v3 : Int) (v4 : ByteArray) (v6 : Bool) (v7 : Int) (b0_0 : Int) (b0_1 : List ByteArray) (b0_2 : List (Int × ByteArray × Unit)) (b0_3 : Bool) (b0_4 : Int) (b0_5 : Int) (b0_6 : Int) (b0_7 : Int) (b0_8 : Int) (b0_9 : Int) (b0_10 : Int) (b0_11 : Int) (b0_12 : Int) (b0_13 : List (ByteArray × ByteArray × Unit)) (b0_14 : List ((List (ByteArray × ByteArray × Unit)) × Unit)) (b0_15 : List ByteArray) : ev Try.prog ⟨ta_spec_Forged, 0, 51, pa_spec_Forged⟩ L_spec_Forged co_spec_Forged_10 ((pa_spec_Forged 10).1.st (v3, v4, v6, v7, b0_0, b0_1, b0_2, b0_3, b0_4, b0_5, b0_6, b0_7, b0_8, b0_9, b0_10, b0_11, b0_12, b0_13, b0_14, b0_15, ())) (pa_spec_Forged 10).1.nid (roundK 0 (pa_spec_Forged 10) nx k) = tr_spec_Forged_10  (fun d => nx d k) (fun d => k (.exit 2) (((pa_spec_Forged 10).2 4).st d) (((pa_spec_Forged 10).2 4).nid)) v3 v4 v6 v7 b0_0 b0_1 b0_2 b0_3 b0_4 b0_5 b0_6 b0_7 b0_8 b0_9 b0_10 b0_11 b0_12 b0_13 b0_14 b0_15 := by kernel_rfl
theorem lp_spec_Forged_10 {R : Type} : ∀ (m : Nat) (d : (pa_spec_Forged 10).1.D) (k : Kt R), loopN 0 (pa_spec_Forged 10) (fun s nid k => ev Try.prog ⟨ta_spec_Forged, 0, 51, pa_spec_Forged⟩ L_spec_Forged co_spec_Forged_10 s nid k) m d k = (lo_spec_Forged_10 m d.1 d.2.1 d.2.2.1 d.2.2.2.1 d.2.2.2.2.1 d.2.2.2.2.2.1 d.2.2.2.2.2.2.1 d.2.2.2.2.2.2.2.1 d.2.2.2.2.2.2.2.2.1 d.2.2.2.2.2.2.2.2.2.1 d.2.2.2.2.2.2.2.2.2.2.1 d.2.2.2.2.2.2.2.2.2.2.2.1 d.2.2.2.2.2.2.2.2.2.2.2.2.1 d.2.2.2.2.2.2.2.2.2.2.2.2.2.1 d.2.2.2.2.2.2.2.2.2.2.2.2.2.2.1 d.2.2.2.2.2.2.2.2.2.2.2.2.2.2.2.1 d.2.2.2.2.2.2.2.2.2.2.2.2.2.2.2.2.1 d.2.2.2.2.2.2.2.2.2.2.2.2.2.2.2.2.2.1 d.2.2.2.2.2.2.2.2.2.2.2.2.2.2.2.2.2.2.1 d.2.2.2.2.2.2.2.2.2.2.2.2.2.2.2.2.2.2.2.1).bind (ou_spec_Forged_10 k)
  | 0, _, _ => rfl
  | m + 1, ⟨v3, v4, v6, v7, b0_0, b0_1, b0_2, b0_3, b0_4, b0_5, b0_6, b0_7, b0_8, b0_9, b0_10, b0_11, b0_12, b0_13, b0_14, b0_15, ⟨⟩⟩, k => (rd_spec_Forged_10 _ k v3 v4 v6 v7 b0_0 b0_1 b0_2 b0_3 b0_4 b0_5 b0_6 b0_7 b0_8 b0_9 b0_10 b0_11 b0_12 b0_13 b0_14 b0_15).trans ((congrArg (fun F => tr_spec_Forged_10  F (fun d => k (.exit 2) (((pa_spec_Forged 10).2 4).st d) (((pa_spec_Forged 10).2 4).nid)) v3 v4 v6 v7 b0_0 b0_1 b0_2 b0_3 b0_4 b0_5 b0_6 b0_7 b0_8 b0_9 b0_10 b0_11 b0_12 b0_13 b0_14 b0_15) (funext fun d => lp_spec_Forged_10 m d k)).trans (na_spec_Forged_10 (f := ou_spec_Forged_10 k)  (fun d => lo_spec_Forged_10 m d.1 d.2.1 d.2.2.1 d.2.2.2.1 d.2.2.2.2.1 d.2.2.2.2.2.1 d.2.2.2.2.2.2.1 d.2.2.2.2.2.2.2.1 d.2.2.2.2.2.2.2.2.1 d.2.2.2.2.2.2.2.2.2.1 d.2.2.2.2.2.2.2.2.2.2.1 d.2.2.2.2.2.2.2.2.2.2.2.1 d.2.2.2.2.2.2.2.2.2.2.2.2.1 d.2.2.2.2.2.2.2.2.2.2.2.2.2.1 d.2.2.2.2.2.2.2.2.2.2.2.2.2.2.1 d.2.2.2.2.2.2.2.2.2.2.2.2.2.2.2.1 d.2.2.2.2.2.2.2.2.2.2.2.2.2.2.2.2.1 d.2.2.2.2.2.2.2.2.2.2.2.2.2.2.2.2.2.1 d.2.2.2.2.2.2.2.2.2.2.2.2.2.2.2.2.2.2.1 d.2.2.2.2.2.2.2.2.2.2.2.2.2.2.2.2.2.2.2.1) (fun d => some (d)) v3 v4 v6 v7 b0_0 b0_1 b0_2 b0_3 b0_4 b0_5 b0_6 b0_7 b0_8 b0_9 b0_10 b0_11 b0_12 b0_13 b0_14 b0_15))
theorem rd_spec_Forged_5 {R : Type} (nx : (pa_spec_Forged 5).1.D → Kt R → Option R) (k : Kt R) (v3 : Int) (b0_0 : Int) (b0_1 : List ByteArray) (b0_2 : List (Int × ByteArray × Unit)) (b0_3 : Bool) (b0_4 : Int) (b0_5 : Int) (b0_6 : Int) (b0_7 : Int) (b0_8 : Int) (b0_9 : Int) (b0_10 : Int) (b0_11 : Int) (b0_12 : Int) (b0_13 : List (ByteArray × ByteArray × Unit)) (b0_14 : List ((List (ByteArray × ByteArray × Unit)) × Unit)) (b0_15 : List ByteArray) : ev Try.prog ⟨ta_spec_Forged, 0, 51, pa_spec_Forged⟩ L_spec_Forged co_spec_Forged_5 ((pa_spec_Forged 5).1.st (v3, b0_0, b0_1, b0_2, b0_3, b0_4, b0_5, b0_6, b0_7, b0_8, b0_9, b0_10, b0_11, b0_12, b0_13, b0_14, b0_15, ())) (pa_spec_Forged 5).1.nid (roundK 0 (pa_spec_Forged 5) nx k) = tr_spec_Forged_5 (fun d => lo_spec_Forged_10 (fu_spec_Forged_10 d.1 d.2.1 d.2.2.1 d.2.2.2.1 d.2.2.2.2.1 d.2.2.2.2.2.1 d.2.2.2.2.2.2.1 d.2.2.2.2.2.2.2.1 d.2.2.2.2.2.2.2.2.1 d.2.2.2.2.2.2.2.2.2.1 d.2.2.2.2.2.2.2.2.2.2.1 d.2.2.2.2.2.2.2.2.2.2.2.1 d.2.2.2.2.2.2.2.2.2.2.2.2.1 d.2.2.2.2.2.2.2.2.2.2.2.2.2.1 d.2.2.2.2.2.2.2.2.2.2.2.2.2.2.1 d.2.2.2.2.2.2.2.2.2.2.2.2.2.2.2.1 d.2.2.2.2.2.2.2.2.2.2.2.2.2.2.2.2.1 d.2.2.2.2.2.2.2.2.2.2.2.2.2.2.2.2.2.1 d.2.2.2.2.2.2.2.2.2.2.2.2.2.2.2.2.2.2.1 d.2.2.2.2.2.2.2.2.2.2.2.2.2.2.2.2.2.2.2.1) d.1 d.2.1 d.2.2.1 d.2.2.2.1 d.2.2.2.2.1 d.2.2.2.2.2.1 d.2.2.2.2.2.2.1 d.2.2.2.2.2.2.2.1 d.2.2.2.2.2.2.2.2.1 d.2.2.2.2.2.2.2.2.2.1 d.2.2.2.2.2.2.2.2.2.2.1 d.2.2.2.2.2.2.2.2.2.2.2.1 d.2.2.2.2.2.2.2.2.2.2.2.2.1 d.2.2.2.2.2.2.2.2.2.2.2.2.2.1 d.2.2.2.2.2.2.2.2.2.2.2.2.2.2.1 d.2.2.2.2.2.2.2.2.2.2.2.2.2.2.2.1 d.2.2.2.2.2.2.2.2.2.2.2.2.2.2.2.2.1 d.2.2.2.2.2.2.2.2.2.2.2.2.2.2.2.2.2.1 d.2.2.2.2.2.2.2.2.2.2.2.2.2.2.2.2.2.2.1 d.2.2.2.2.2.2.2.2.2.2.2.2.2.2.2.2.2.2.2.1) (fun d => nx d k) (fun d => k (.exit 0) (((pa_spec_Forged 5).2 2).st d) (((pa_spec_Forged 5).2 2).nid)) (fun d => k .ret (((pa_spec_Forged 5).2 1).st d) (((pa_spec_Forged 5).2 1).nid)) v3 b0_0 b0_1 b0_2 b0_3 b0_4 b0_5 b0_6 b0_7 b0_8 b0_9 b0_10 b0_11 b0_12 b0_13 b0_14 b0_15 := by kernel_rfl
theorem lp_spec_Forged_5 {R : Type} : ∀ (m : Nat) (d : (pa_spec_Forged 5).1.D) (k : Kt R), loopN 0 (pa_spec_Forged 5) (fun s nid k => ev Try.prog ⟨ta_spec_Forged, 0, 51, pa_spec_Forged⟩ L_spec_Forged co_spec_Forged_5 s nid k) m d k = (lo_spec_Forged_5 m d.1 d.2.1 d.2.2.1 d.2.2.2.1 d.2.2.2.2.1 d.2.2.2.2.2.1 d.2.2.2.2.2.2.1 d.2.2.2.2.2.2.2.1 d.2.2.2.2.2.2.2.2.1 d.2.2.2.2.2.2.2.2.2.1 d.2.2.2.2.2.2.2.2.2.2.1 d.2.2.2.2.2.2.2.2.2.2.2.1 d.2.2.2.2.2.2.2.2.2.2.2.2.1 d.2.2.2.2.2.2.2.2.2.2.2.2.2.1 d.2.2.2.2.2.2.2.2.2.2.2.2.2.2.1 d.2.2.2.2.2.2.2.2.2.2.2.2.2.2.2.1 d.2.2.2.2.2.2.2.2.2.2.2.2.2.2.2.2.1).bind (ou_spec_Forged_5 k)
  | 0, _, _ => rfl
  | m + 1, ⟨v3, b0_0, b0_1, b0_2, b0_3, b0_4, b0_5, b0_6, b0_7, b0_8, b0_9, b0_10, b0_11, b0_12, b0_13, b0_14, b0_15, ⟨⟩⟩, k => (rd_spec_Forged_5 _ k v3 b0_0 b0_1 b0_2 b0_3 b0_4 b0_5 b0_6 b0_7 b0_8 b0_9 b0_10 b0_11 b0_12 b0_13 b0_14 b0_15).trans ((congrArg (fun F => tr_spec_Forged_5 (fun d => lo_spec_Forged_10 (fu_spec_Forged_10 d.1 d.2.1 d.2.2.1 d.2.2.2.1 d.2.2.2.2.1 d.2.2.2.2.2.1 d.2.2.2.2.2.2.1 d.2.2.2.2.2.2.2.1 d.2.2.2.2.2.2.2.2.1 d.2.2.2.2.2.2.2.2.2.1 d.2.2.2.2.2.2.2.2.2.2.1 d.2.2.2.2.2.2.2.2.2.2.2.1 d.2.2.2.2.2.2.2.2.2.2.2.2.1 d.2.2.2.2.2.2.2.2.2.2.2.2.2.1 d.2.2.2.2.2.2.2.2.2.2.2.2.2.2.1 d.2.2.2.2.2.2.2.2.2.2.2.2.2.2.2.1 d.2.2.2.2.2.2.2.2.2.2.2.2.2.2.2.2.1 d.2.2.2.2.2.2.2.2.2.2.2.2.2.2.2.2.2.1 d.2.2.2.2.2.2.2.2.2.2.2.2.2.2.2.2.2.2.1 d.2.2.2.2.2.2.2.2.2.2.2.2.2.2.2.2.2.2.2.1) d.1 d.2.1 d.2.2.1 d.2.2.2.1 d.2.2.2.2.1 d.2.2.2.2.2.1 d.2.2.2.2.2.2.1 d.2.2.2.2.2.2.2.1 d.2.2.2.2.2.2.2.2.1 d.2.2.2.2.2.2.2.2.2.1 d.2.2.2.2.2.2.2.2.2.2.1 d.2.2.2.2.2.2.2.2.2.2.2.1 d.2.2.2.2.2.2.2.2.2.2.2.2.1 d.2.2.2.2.2.2.2.2.2.2.2.2.2.1 d.2.2.2.2.2.2.2.2.2.2.2.2.2.2.1 d.2.2.2.2.2.2.2.2.2.2.2.2.2.2.2.1 d.2.2.2.2.2.2.2.2.2.2.2.2.2.2.2.2.1 d.2.2.2.2.2.2.2.2.2.2.2.2.2.2.2.2.2.1 d.2.2.2.2.2.2.2.2.2.2.2.2.2.2.2.2.2.2.1 d.2.2.2.2.2.2.2.2.2.2.2.2.2.2.2.2.2.2.2.1) F (fun d => k (.exit 0) (((pa_spec_Forged 5).2 2).st d) (((pa_spec_Forged 5).2 2).nid)) (fun d => k .ret (((pa_spec_Forged 5).2 1).st d) (((pa_spec_Forged 5).2 1).nid)) v3 b0_0 b0_1 b0_2 b0_3 b0_4 b0_5 b0_6 b0_7 b0_8 b0_9 b0_10 b0_11 b0_12 b0_13 b0_14 b0_15) (funext fun d => lp_spec_Forged_5 m d k)).trans (na_spec_Forged_5 (f := ou_spec_Forged_5 k) (fun d => lo_spec_Forged_10 (fu_spec_Forged_10 d.1 d.2.1 d.2.2.1 d.2.2.2.1 d.2.2.2.2.1 d.2.2.2.2.2.1 d.2.2.2.2.2.2.1 d.2.2.2.2.2.2.2.1 d.2.2.2.2.2.2.2.2.1 d.2.2.2.2.2.2.2.2.2.1 d.2.2.2.2.2.2.2.2.2.2.1 d.2.2.2.2.2.2.2.2.2.2.2.1 d.2.2.2.2.2.2.2.2.2.2.2.2.1 d.2.2.2.2.2.2.2.2.2.2.2.2.2.1 d.2.2.2.2.2.2.2.2.2.2.2.2.2.2.1 d.2.2.2.2.2.2.2.2.2.2.2.2.2.2.2.1 d.2.2.2.2.2.2.2.2.2.2.2.2.2.2.2.2.1 d.2.2.2.2.2.2.2.2.2.2.2.2.2.2.2.2.2.1 d.2.2.2.2.2.2.2.2.2.2.2.2.2.2.2.2.2.2.1 d.2.2.2.2.2.2.2.2.2.2.2.2.2.2.2.2.2.2.2.1) d.1 d.2.1 d.2.2.1 d.2.2.2.1 d.2.2.2.2.1 d.2.2.2.2.2.1 d.2.2.2.2.2.2.1 d.2.2.2.2.2.2.2.1 d.2.2.2.2.2.2.2.2.1 d.2.2.2.2.2.2.2.2.2.1 d.2.2.2.2.2.2.2.2.2.2.1 d.2.2.2.2.2.2.2.2.2.2.2.1 d.2.2.2.2.2.2.2.2.2.2.2.2.1 d.2.2.2.2.2.2.2.2.2.2.2.2.2.1 d.2.2.2.2.2.2.2.2.2.2.2.2.2.2.1 d.2.2.2.2.2.2.2.2.2.2.2.2.2.2.2.1 d.2.2.2.2.2.2.2.2.2.2.2.2.2.2.2.2.1 d.2.2.2.2.2.2.2.2.2.2.2.2.2.2.2.2.2.1 d.2.2.2.2.2.2.2.2.2.2.2.2.2.2.2.2.2.2.1 d.2.2.2.2.2.2.2.2.2.2.2.2.2.2.2.2.2.2.2.1) (fun d => lo_spec_Forged_5 m d.1 d.2.1 d.2.2.1 d.2.2.2.1 d.2.2.2.2.1 d.2.2.2.2.2.1 d.2.2.2.2.2.2.1 d.2.2.2.2.2.2.2.1 d.2.2.2.2.2.2.2.2.1 d.2.2.2.2.2.2.2.2.2.1 d.2.2.2.2.2.2.2.2.2.2.1 d.2.2.2.2.2.2.2.2.2.2.2.1 d.2.2.2.2.2.2.2.2.2.2.2.2.1 d.2.2.2.2.2.2.2.2.2.2.2.2.2.1 d.2.2.2.2.2.2.2.2.2.2.2.2.2.2.1 d.2.2.2.2.2.2.2.2.2.2.2.2.2.2.2.1 d.2.2.2.2.2.2.2.2.2.2.2.2.2.2.2.2.1) (fun d => some (.inl (d))) (fun d => some (.inr (d))) v3 b0_0 b0_1 b0_2 b0_3 b0_4 b0_5 b0_6 b0_7 b0_8 b0_9 b0_10 b0_11 b0_12 b0_13 b0_14 b0_15))
theorem en_spec_Forged (a0 : Int × ((List ByteArray) × (List (Int × ByteArray × Unit)) × Unit) × Bool × (Int × Int × Int × (Int × Int × Int × Int × Unit) × Int × Int × ((List (ByteArray × ByteArray × Unit)) × Unit) × Unit) × (List ((List (ByteArray × ByteArray × Unit)) × Unit)) × (List ByteArray) × Unit) : evalF Try.prog ta_spec_Forged pa_spec_Forged sg_spec_Forged Try.f26 L_spec_Forged (a0, ()) = de_spec_Forged a0 := by kernel_rfl
theorem si_spec_Forged : SigsOk Try.prog ta_spec_Forged := SigsOk.of fun f sd h => by
  try dsimp only [Tb.of, ta_spec_Forged] at h
  split at h
  · rename_i e; subst e; cases h; exact sn_spec_ValidWorld
  split at h
  · rename_i e; subst e; cases h; exact sn_spec_ReadPage
  cases h
theorem lk_spec_Forged_10 {R : Type} : LoopOk Try.prog R 51 0 pa_spec_Forged L_spec_Forged co_spec_Forged_10 :=
  loop_key (cfg := ⟨ta_spec_Forged, 0, 51, pa_spec_Forged⟩) (key := 10) (by kernel_rfl) (by kernel_rfl) si_spec_Forged rfl rfl (fun d k r h => ⟨fu_spec_Forged_10 d.1 d.2.1 d.2.2.1 d.2.2.2.1 d.2.2.2.2.1 d.2.2.2.2.2.1 d.2.2.2.2.2.2.1 d.2.2.2.2.2.2.2.1 d.2.2.2.2.2.2.2.2.1 d.2.2.2.2.2.2.2.2.2.1 d.2.2.2.2.2.2.2.2.2.2.1 d.2.2.2.2.2.2.2.2.2.2.2.1 d.2.2.2.2.2.2.2.2.2.2.2.2.1 d.2.2.2.2.2.2.2.2.2.2.2.2.2.1 d.2.2.2.2.2.2.2.2.2.2.2.2.2.2.1 d.2.2.2.2.2.2.2.2.2.2.2.2.2.2.2.1 d.2.2.2.2.2.2.2.2.2.2.2.2.2.2.2.2.1 d.2.2.2.2.2.2.2.2.2.2.2.2.2.2.2.2.2.1 d.2.2.2.2.2.2.2.2.2.2.2.2.2.2.2.2.2.2.1 d.2.2.2.2.2.2.2.2.2.2.2.2.2.2.2.2.2.2.2.1, (lp_spec_Forged_10 _ d k).trans h⟩) (fun c hc => by rw [show loopsIn co_spec_Forged_10 = [] from by kernel_rfl] at hc; cases hc)
theorem lk_spec_Forged_5 {R : Type} : LoopOk Try.prog R 51 0 pa_spec_Forged L_spec_Forged co_spec_Forged_5 :=
  loop_key (cfg := ⟨ta_spec_Forged, 0, 51, pa_spec_Forged⟩) (key := 5) (by kernel_rfl) (by kernel_rfl) si_spec_Forged rfl rfl (fun d k r h => ⟨fu_spec_Forged_5 d.1 d.2.1 d.2.2.1 d.2.2.2.1 d.2.2.2.2.1 d.2.2.2.2.2.1 d.2.2.2.2.2.2.1 d.2.2.2.2.2.2.2.1 d.2.2.2.2.2.2.2.2.1 d.2.2.2.2.2.2.2.2.2.1 d.2.2.2.2.2.2.2.2.2.2.1 d.2.2.2.2.2.2.2.2.2.2.2.1 d.2.2.2.2.2.2.2.2.2.2.2.2.1 d.2.2.2.2.2.2.2.2.2.2.2.2.2.1 d.2.2.2.2.2.2.2.2.2.2.2.2.2.2.1 d.2.2.2.2.2.2.2.2.2.2.2.2.2.2.2.1 d.2.2.2.2.2.2.2.2.2.2.2.2.2.2.2.2.1, (lp_spec_Forged_5 _ d k).trans h⟩) (fun c hc => by rw [show loopsIn co_spec_Forged_5 = [co_spec_Forged_10] from by kernel_rfl] at hc; simp only [List.mem_cons, List.not_mem_nil, or_false] at hc; rcases hc with rfl <;> first | exact lk_spec_Forged_10)
theorem sn_spec_Forged : Callable Try.prog 26 ∧ Sound Try.prog 26 sd_spec_Forged.sg sd_spec_Forged.den :=
  fn_loops (pat := pa_spec_Forged) L_spec_Forged (by kernel_rfl) si_spec_Forged Try.func26 (by kernel_rfl) (by kernel_rfl) (fun c hc => by rw [show loopsIn (bodyOf Try.f26) = [co_spec_Forged_5] from by kernel_rfl] at hc; simp only [List.mem_cons, List.not_mem_nil, or_false] at hc; rcases hc with rfl <;> first | exact lk_spec_Forged_5) fun x r h => by
    obtain ⟨a0, ⟨⟩⟩ := x; rw [← h]; exact (en_spec_Forged a0).trans (eq_spec_Forged a0)
def m_laws_toRoot (a : Int × Int × Int × Int × Unit) : Option (Int × Int × Int × Int × Unit) := toM (.pair (.int .i64) (.pair (.int .i64) (.pair (.int .i64) (.pair (.int .i64) .unit)))) a
def sg_laws_toRoot : Sig := ⟨[.rd (.pair (.int .i64) (.pair (.int .i64) (.pair (.int .i64) (.pair (.int .i64) .unit))))], [some 4], [.rd (.pair (.int .i64) (.pair (.int .i64) (.pair (.int .i64) (.pair (.int .i64) .unit))))], [some 4]⟩
noncomputable def sd_laws_toRoot : SD := ⟨sg_laws_toRoot, fun x => (m_laws_toRoot x.1).bind fun r => some ((r, ()), (()))⟩
noncomputable def ta_laws_toRoot : Tb := Tb.of fun f => none
def pa_laws_toRoot : Nat → Pat × (Nat → Pat) := fun k => (⟨[], [], []⟩, fun _ => ⟨[], [], []⟩)
noncomputable def de_laws_toRoot (a0 : Int × Int × Int × Int × Unit) : Option ((((Int × Int × Int × Int × Unit) × Unit) × (Unit))) :=
  some (((a0.fst, a0.snd.fst, a0.snd.snd.fst, a0.snd.snd.snd.fst, ()), ()), ())
theorem eq_laws_toRoot (a0 : Int × Int × Int × Int × Unit) r (h : m_laws_toRoot a0 = some r) : de_laws_toRoot a0 = some ((r, ()), (())) := by
  obtain ⟨hc, rfl⟩ := toM_some (t := (.pair (.int .i64) (.pair (.int .i64) (.pair (.int .i64) (.pair (.int .i64) .unit))))) h
  · rfl
theorem en_laws_toRoot (a0 : Int × Int × Int × Int × Unit) : evalF Try.prog ta_laws_toRoot pa_laws_toRoot sg_laws_toRoot Try.f50 noL (a0, ()) = de_laws_toRoot a0 := by kernel_rfl
theorem si_laws_toRoot : SigsOk Try.prog ta_laws_toRoot := SigsOk.of fun f sd h => by
  try dsimp only [Tb.of, ta_laws_toRoot] at h
  cases h
theorem sn_laws_toRoot : Callable Try.prog 50 ∧ Sound Try.prog 50 sd_laws_toRoot.sg sd_laws_toRoot.den :=
  fn_plain (pat := pa_laws_toRoot) (by kernel_rfl) si_laws_toRoot Try.func50 (by kernel_rfl) (by kernel_rfl) (by kernel_rfl) fun x r h => by
    obtain ⟨a0, ⟨⟩⟩ := x; obtain ⟨y, h1, h2⟩ := Option.bind_eq_some_iff.1 (show (m_laws_toRoot a0).bind (fun r => some ((r, ()), (()))) = some r from h); cases h2; exact (en_laws_toRoot a0).trans (eq_laws_toRoot a0 _ h1)
def m_laws_toPair (a : ByteArray × ByteArray × Unit) : Option (ByteArray × ByteArray × Unit) := toM (.pair .str (.pair .str .unit)) a
def sg_laws_toPair : Sig := ⟨[.rd (.pair .str (.pair .str .unit))], [some 2], [.rd (.pair .str (.pair .str .unit))], [some 2]⟩
noncomputable def sd_laws_toPair : SD := ⟨sg_laws_toPair, fun x => (m_laws_toPair x.1).bind fun r => some ((r, ()), (()))⟩
noncomputable def ta_laws_toPair : Tb := Tb.of fun f => none
def pa_laws_toPair : Nat → Pat × (Nat → Pat) := fun k => (⟨[], [], []⟩, fun _ => ⟨[], [], []⟩)
noncomputable def de_laws_toPair (a0 : ByteArray × ByteArray × Unit) : Option ((((ByteArray × ByteArray × Unit) × Unit) × (Unit))) :=
  some (((a0.fst, a0.snd.fst, ()), ()), ())
theorem eq_laws_toPair (a0 : ByteArray × ByteArray × Unit) r (h : m_laws_toPair a0 = some r) : de_laws_toPair a0 = some ((r, ()), (())) := by
  obtain ⟨hc, rfl⟩ := toM_some (t := (.pair .str (.pair .str .unit))) h
  · rfl
theorem en_laws_toPair (a0 : ByteArray × ByteArray × Unit) : evalF Try.prog ta_laws_toPair pa_laws_toPair sg_laws_toPair Try.f164 noL (a0, ()) = de_laws_toPair a0 := by kernel_rfl
theorem si_laws_toPair : SigsOk Try.prog ta_laws_toPair := SigsOk.of fun f sd h => by
  try dsimp only [Tb.of, ta_laws_toPair] at h
  cases h
theorem sn_laws_toPair : Callable Try.prog 164 ∧ Sound Try.prog 164 sd_laws_toPair.sg sd_laws_toPair.den :=
  fn_plain (pat := pa_laws_toPair) (by kernel_rfl) si_laws_toPair Try.func164 (by kernel_rfl) (by kernel_rfl) (by kernel_rfl) fun x r h => by
    obtain ⟨a0, ⟨⟩⟩ := x; obtain ⟨y, h1, h2⟩ := Option.bind_eq_some_iff.1 (show (m_laws_toPair a0).bind (fun r => some ((r, ()), (()))) = some r from h); cases h2; exact (en_laws_toPair a0).trans (eq_laws_toPair a0 _ h1)
def m_laws_toPairS (a : List (ByteArray × ByteArray × Unit)) : Option (List (ByteArray × ByteArray × Unit)) := toM (.sl (.pair .str (.pair .str .unit))) a
def sg_laws_toPairS : Sig := ⟨[.rd (.sl (.pair .str (.pair .str .unit)))], [none], [.own 151 (.pair .str (.pair .str .unit))], [none]⟩
noncomputable def sd_laws_toPairS : SD := ⟨sg_laws_toPairS, fun x => (m_laws_toPairS x.1).bind fun r => some ((r, ()), (()))⟩
noncomputable def ta_laws_toPairS : Tb := Tb.of fun f => if f = 164 then some sd_laws_toPair else none
def pa_laws_toPairS : Nat → Pat × (Nat → Pat) := fun k => if k = 4 then (⟨[.sl 0 0 (.pair .str (.pair .str .unit)), .row 3 0 151 (.pair .str (.pair .str .unit))], [(0, .lf (.d (.sl (.pair .str (.pair .str .unit))))), (3, .lf (.row 0)), (4, .lf (.d (.int .i64)))], [.row 151 (.pair .str (.pair .str .unit))]⟩, fun e => if e = 2 then ⟨[.row 3 0 151 (.pair .str (.pair .str .unit))], [(3, .lf (.row 0))], [.row 151 (.pair .str (.pair .str .unit))]⟩ else ⟨[], [], []⟩) else (⟨[], [], []⟩, fun _ => ⟨[], [], []⟩)
noncomputable def co_laws_toPairS_4 : Code := (loopsIn (bodyOf Try.f122)).getD 0 .skip
def fu_laws_toPairS_4 (v0 : List (ByteArray × ByteArray × Unit)) (v4 : Int) (r0 : List (ByteArray × ByteArray × Unit)) : Nat := ((v0.length : Int) - v4).toNat + 1
noncomputable def tr_laws_toPairS_4 {R : Type}  (NX : ((List (ByteArray × ByteArray × Unit)) × (Int) × (List (ByteArray × ByteArray × Unit)) × Unit) → Option R) (X2 : ((List (ByteArray × ByteArray × Unit)) × Unit) → Option R) (v0 : List (ByteArray × ByteArray × Unit)) (v4 : Int) (r0 : List (ByteArray × ByteArray × Unit)) : Option R :=
  bif decide (v4 < nI (List.length v0)) then
    bif decide (0 ≤ v4) then
      bif decide (v4 < nI (List.length v0)) then
        bif decide (0 ≤ v4) then
          bif decide (v4 < nI (List.length r0)) then
            bif decide (Int.toNat v4 < List.length r0) then
              NX
                (v0, IntKind.wrap IntKind.i64 (v4 + 1),
                  List.set r0 (Int.toNat v4)
                    ((List.getD v0 (Int.toNat v4) (ByteArray.mk #[], ByteArray.mk #[], ())).fst, (List.getD v0 (Int.toNat v4) (ByteArray.mk #[], ByteArray.mk #[], ())).snd.fst, ()),
                  ())
            else none
          else none
        else none
      else none
    else none
  else X2 (r0, ())
noncomputable def lo_laws_toPairS_4 : Nat → (List (ByteArray × ByteArray × Unit)) → (Int) → (List (ByteArray × ByteArray × Unit)) →  Option ((List (ByteArray × ByteArray × Unit)) × Unit)
  | 0, _, _, _ => none
  | m + 1, v0, v4, r0 => tr_laws_toPairS_4  (fun d => lo_laws_toPairS_4 m d.1 d.2.1 d.2.2.1) (fun d => some (d)) v0 v4 r0
theorem na_laws_toPairS_4 {R S : Type}  (NX : ((List (ByteArray × ByteArray × Unit)) × (Int) × (List (ByteArray × ByteArray × Unit)) × Unit) → Option R) (X2 : ((List (ByteArray × ByteArray × Unit)) × Unit) → Option R) (v0 : List (ByteArray × ByteArray × Unit)) (v4 : Int) (r0 : List (ByteArray × ByteArray × Unit)) (f : R → Option S) : tr_laws_toPairS_4  (fun d => (NX d).bind f) (fun d => (X2 d).bind f) v0 v4 r0 = (tr_laws_toPairS_4  NX X2 v0 v4 r0).bind f := by
  unfold tr_laws_toPairS_4
  simp only [cond_bind, ite_bind, onSum_bind, Option.bind_assoc, Option.bind_none, Option.bind_some]
noncomputable def de_laws_toPairS (a0 : List (ByteArray × ByteArray × Unit)) : Option ((((List (ByteArray × ByteArray × Unit)) × Unit) × (Unit))) :=
  bif decide (nI (List.length a0) = nI (List.length a0)) then
    bif decide (Int.toNat (nI (List.length a0)) * 32 ≤ 140737488355328) then
      Option.bind ((fun d => lo_laws_toPairS_4 (fu_laws_toPairS_4 d.1 d.2.1 d.2.2.1) d.1 d.2.1 d.2.2.1) (a0, 0, List.replicate (Int.toNat (nI (List.length a0))) (ByteArray.mk #[], ByteArray.mk #[], ()), ())) fun val => some ((val.fst, ()), ())
    else none
  else none
theorem eq_laws_toPairS (a0 : List (ByteArray × ByteArray × Unit)) r (h : m_laws_toPairS a0 = some r) : de_laws_toPairS a0 = some ((r, ()), (())) := by
  obtain ⟨hc, rfl⟩ := toM_some (t := .sl (.pair .str (.pair .str .unit))) h
  obtain ⟨hl0, hall⟩ := smallB_sl hc
  have hl : a0.length ≤ 1048576 := hl0
  clear hl0 hc h
  · unfold de_laws_toPairS
    have e : Int.toNat (nI a0.length) = a0.length := by simp [nI]
    have hL := to_loop (xs := a0) ((ByteArray.mk #[]), (ByteArray.mk #[]), ()) (g := fun m i r => lo_laws_toPairS_4 m a0 i r) (ok := fun r => (r, ())) (fun m i r hi hr => by
      show lo_laws_toPairS_4 (m + 1) a0 i r = _
      simp only [lo_laws_toPairS_4, tr_laws_toPairS_4]
      have hir : i < r.length := by omega
      rw [cLt hi, cLe0, cLt hir, wI (by omega)]
      simp only [cond_true, Int.toNat_natCast]
      rw [cLtN hir]
      rfl) (fun m r => by
      show lo_laws_toPairS_4 (m + 1) a0 a0.length r = _
      simp only [lo_laws_toPairS_4, tr_laws_toPairS_4]
      rw [cLtF]
      rfl) (fu_laws_toPairS_4 a0 0 (List.replicate a0.length ((ByteArray.mk #[]), (ByteArray.mk #[]), ()))) 0 (List.replicate a0.length ((ByteArray.mk #[]), (ByteArray.mk #[]), ())) (by omega) (by simp [fu_laws_toPairS_4]) (by simp)
    have c1 : decide (Int.toNat (nI a0.length) * 32 ≤ 140737488355328) = true := by rw [e]; simp; omega
    rw [c1, decide_eq_true rfl, e]
    have hL' : lo_laws_toPairS_4 (fu_laws_toPairS_4 a0 0 (List.replicate a0.length ((ByteArray.mk #[]), (ByteArray.mk #[]), ()))) a0 0 (List.replicate a0.length ((ByteArray.mk #[]), (ByteArray.mk #[]), ())) = _ := hL
    show (lo_laws_toPairS_4 (fu_laws_toPairS_4 a0 0 (List.replicate a0.length ((ByteArray.mk #[]), (ByteArray.mk #[]), ()))) a0 0 (List.replicate a0.length ((ByteArray.mk #[]), (ByteArray.mk #[]), ()))).bind _ = _
    rw [hL']
    rfl
noncomputable def ou_laws_toPairS_4 {R : Type} (k : Kt R) : ((List (ByteArray × ByteArray × Unit)) × Unit) → Option R := (fun d => k (.exit 0) (((pa_laws_toPairS 4).2 2).st d) (((pa_laws_toPairS 4).2 2).nid))
noncomputable def L_laws_toPairS {R : Type} : Lt R pa_laws_toPairS := (addL (pat := pa_laws_toPairS) 4 (fun d k => (lo_laws_toPairS_4 (fu_laws_toPairS_4 d.1 d.2.1 d.2.2.1) d.1 d.2.1 d.2.2.1).bind (ou_laws_toPairS_4 k)) noL)
theorem rd_laws_toPairS_4 {R : Type} (nx : (pa_laws_toPairS 4).1.D → Kt R → Option R) (k : Kt R) (v0 : List (ByteArray × ByteArray × Unit)) (v4 : Int) (r0 : List (ByteArray × ByteArray × Unit)) : ev Try.prog ⟨ta_laws_toPairS, 0, 23, pa_laws_toPairS⟩ L_laws_toPairS co_laws_toPairS_4 ((pa_laws_toPairS 4).1.st (v0, v4, r0, ())) (pa_laws_toPairS 4).1.nid (roundK 0 (pa_laws_toPairS 4) nx k) = tr_laws_toPairS_4  (fun d => nx d k) (fun d => k (.exit 0) (((pa_laws_toPairS 4).2 2).st d) (((pa_laws_toPairS 4).2 2).nid)) v0 v4 r0 := by kernel_rfl
theorem lp_laws_toPairS_4 {R : Type} : ∀ (m : Nat) (d : (pa_laws_toPairS 4).1.D) (k : Kt R), loopN 0 (pa_laws_toPairS 4) (fun s nid k => ev Try.prog ⟨ta_laws_toPairS, 0, 23, pa_laws_toPairS⟩ L_laws_toPairS co_laws_toPairS_4 s nid k) m d k = (lo_laws_toPairS_4 m d.1 d.2.1 d.2.2.1).bind (ou_laws_toPairS_4 k)
  | 0, _, _ => rfl
  | m + 1, ⟨v0, v4, r0, ⟨⟩⟩, k => (rd_laws_toPairS_4 _ k v0 v4 r0).trans ((congrArg (fun F => tr_laws_toPairS_4  F (fun d => k (.exit 0) (((pa_laws_toPairS 4).2 2).st d) (((pa_laws_toPairS 4).2 2).nid)) v0 v4 r0) (funext fun d => lp_laws_toPairS_4 m d k)).trans (na_laws_toPairS_4 (f := ou_laws_toPairS_4 k)  (fun d => lo_laws_toPairS_4 m d.1 d.2.1 d.2.2.1) (fun d => some (d)) v0 v4 r0))
theorem en_laws_toPairS (a0 : List (ByteArray × ByteArray × Unit)) : evalF Try.prog ta_laws_toPairS pa_laws_toPairS sg_laws_toPairS Try.f122 L_laws_toPairS (a0, ()) = de_laws_toPairS a0 := by kernel_rfl
theorem si_laws_toPairS : SigsOk Try.prog ta_laws_toPairS := SigsOk.of fun f sd h => by
  try dsimp only [Tb.of, ta_laws_toPairS] at h
  split at h
  · rename_i e; subst e; cases h; exact sn_laws_toPair
  cases h
theorem lk_laws_toPairS_4 {R : Type} : LoopOk Try.prog R 23 0 pa_laws_toPairS L_laws_toPairS co_laws_toPairS_4 :=
  loop_key (cfg := ⟨ta_laws_toPairS, 0, 23, pa_laws_toPairS⟩) (key := 4) (by kernel_rfl) (by kernel_rfl) si_laws_toPairS rfl rfl (fun d k r h => ⟨fu_laws_toPairS_4 d.1 d.2.1 d.2.2.1, (lp_laws_toPairS_4 _ d k).trans h⟩) (fun c hc => by rw [show loopsIn co_laws_toPairS_4 = [] from by kernel_rfl] at hc; cases hc)
theorem sn_laws_toPairS : Callable Try.prog 122 ∧ Sound Try.prog 122 sd_laws_toPairS.sg sd_laws_toPairS.den :=
  fn_loops (pat := pa_laws_toPairS) L_laws_toPairS (by kernel_rfl) si_laws_toPairS Try.func122 (by kernel_rfl) (by kernel_rfl) (fun c hc => by rw [show loopsIn (bodyOf Try.f122) = [co_laws_toPairS_4] from by kernel_rfl] at hc; simp only [List.mem_cons, List.not_mem_nil, or_false] at hc; rcases hc with rfl <;> first | exact lk_laws_toPairS_4) fun x r h => by
    obtain ⟨a0, ⟨⟩⟩ := x; obtain ⟨y, h1, h2⟩ := Option.bind_eq_some_iff.1 (show (m_laws_toPairS a0).bind (fun r => some ((r, ()), (()))) = some r from h); cases h2; exact (en_laws_toPairS a0).trans (eq_laws_toPairS a0 _ h1)
def m_laws_toState (a : (List (ByteArray × ByteArray × Unit)) × Unit) : Option ((List (ByteArray × ByteArray × Unit)) × Unit) := toM (.pair (.sl (.pair .str (.pair .str .unit))) .unit) a
def sg_laws_toState : Sig := ⟨[.rd (.pair (.sl (.pair .str (.pair .str .unit))) .unit)], [some 1], [.own 151 (.pair .str (.pair .str .unit))], [some 1]⟩
noncomputable def sd_laws_toState : SD := ⟨sg_laws_toState, fun x => (m_laws_toState x.1).bind fun r => some ((r.1, ()), (()))⟩
noncomputable def ta_laws_toState : Tb := Tb.of fun f => if f = 122 then some sd_laws_toPairS else none
def pa_laws_toState : Nat → Pat × (Nat → Pat) := fun k => (⟨[], [], []⟩, fun _ => ⟨[], [], []⟩)
noncomputable def de_laws_toState (a0 : (List (ByteArray × ByteArray × Unit)) × Unit) : Option ((((List (ByteArray × ByteArray × Unit)) × Unit) × (Unit))) :=
  Option.bind (Option.bind (m_laws_toPairS a0.fst) fun val => some ((val, ()), ())) fun val => some ((val.fst.fst, ()), ())
theorem eq_laws_toState (a0 : (List (ByteArray × ByteArray × Unit)) × Unit) r (h : m_laws_toState a0 = some r) : de_laws_toState a0 = some ((r.1, ()), (())) := by
  obtain ⟨hc, rfl⟩ := toM_some (t := (.pair (.sl (.pair .str (.pair .str .unit))) .unit)) h
  · obtain ⟨s0, _⟩ : smallB (.sl (.pair .str (.pair .str .unit))) a0.1 = true ∧ True := by
      have s := hc
      obtain ⟨h0, s⟩ := smallB_pair s
      exact ⟨h0, trivial⟩
    unfold de_laws_toState
    have e0 : m_laws_toPairS a0.1 = some a0.1 := toM_is (t := (.sl (.pair .str (.pair .str .unit)))) s0
    simp only [e0]
    rfl
theorem en_laws_toState (a0 : (List (ByteArray × ByteArray × Unit)) × Unit) : evalF Try.prog ta_laws_toState pa_laws_toState sg_laws_toState Try.f51 noL (a0, ()) = de_laws_toState a0 := by kernel_rfl
theorem si_laws_toState : SigsOk Try.prog ta_laws_toState := SigsOk.of fun f sd h => by
  try dsimp only [Tb.of, ta_laws_toState] at h
  split at h
  · rename_i e; subst e; cases h; exact sn_laws_toPairS
  cases h
theorem sn_laws_toState : Callable Try.prog 51 ∧ Sound Try.prog 51 sd_laws_toState.sg sd_laws_toState.den :=
  fn_plain (pat := pa_laws_toState) (by kernel_rfl) si_laws_toState Try.func51 (by kernel_rfl) (by kernel_rfl) (by kernel_rfl) fun x r h => by
    obtain ⟨a0, ⟨⟩⟩ := x; obtain ⟨y, h1, h2⟩ := Option.bind_eq_some_iff.1 (show (m_laws_toState a0).bind (fun r => some ((r.1, ()), (()))) = some r from h); cases h2; exact (en_laws_toState a0).trans (eq_laws_toState a0 _ h1)
def m_laws_toStore (a : Int × Int × Int × (Int × Int × Int × Int × Unit) × Int × Int × ((List (ByteArray × ByteArray × Unit)) × Unit) × Unit) : Option (Int × Int × Int × (Int × Int × Int × Int × Unit) × Int × Int × ((List (ByteArray × ByteArray × Unit)) × Unit) × Unit) := toM (.pair (.int .i64) (.pair (.int .i64) (.pair (.int .i64) (.pair (.pair (.int .i64) (.pair (.int .i64) (.pair (.int .i64) (.pair (.int .i64) .unit)))) (.pair (.int .i64) (.pair (.int .i64) (.pair (.pair (.sl (.pair .str (.pair .str .unit))) .unit) .unit))))))) a
def sg_laws_toStore : Sig := ⟨[.rd (.pair (.int .i64) (.pair (.int .i64) (.pair (.int .i64) (.pair (.pair (.int .i64) (.pair (.int .i64) (.pair (.int .i64) (.pair (.int .i64) .unit)))) (.pair (.int .i64) (.pair (.int .i64) (.pair (.pair (.sl (.pair .str (.pair .str .unit))) .unit) .unit)))))))], [some 10], [.rd (.int .i64), .rd (.int .i64), .rd (.int .i64), .rd (.int .i64), .rd (.int .i64), .rd (.int .i64), .rd (.int .i64), .rd (.int .i64), .rd (.int .i64), .own 151 (.pair .str (.pair .str .unit))], [some 10]⟩
noncomputable def sd_laws_toStore : SD := ⟨sg_laws_toStore, fun x => (m_laws_toStore x.1).bind fun r => some ((r.1, r.2.1, r.2.2.1, r.2.2.2.1.1, r.2.2.2.1.2.1, r.2.2.2.1.2.2.1, r.2.2.2.1.2.2.2.1, r.2.2.2.2.1, r.2.2.2.2.2.1, r.2.2.2.2.2.2.1.1, ()), (()))⟩
noncomputable def ta_laws_toStore : Tb := Tb.of fun f => if f = 50 then some sd_laws_toRoot else if f = 51 then some sd_laws_toState else none
def pa_laws_toStore : Nat → Pat × (Nat → Pat) := fun k => (⟨[], [], []⟩, fun _ => ⟨[], [], []⟩)
noncomputable def de_laws_toStore (a0 : Int × Int × Int × (Int × Int × Int × Int × Unit) × Int × Int × ((List (ByteArray × ByteArray × Unit)) × Unit) × Unit) : Option ((((Int) × (Int) × (Int) × (Int) × (Int) × (Int) × (Int) × (Int) × (Int) × (List (ByteArray × ByteArray × Unit)) × Unit) × (Unit))) :=
  Option.bind (Option.bind (m_laws_toState (a0.snd.snd.snd.snd.snd.snd.fst.fst, ())) fun val => some ((val.fst, ()), ())) fun val =>
    some
      ((a0.fst, a0.snd.fst, a0.snd.snd.fst, a0.snd.snd.snd.fst.fst, a0.snd.snd.snd.fst.snd.fst, a0.snd.snd.snd.fst.snd.snd.fst, a0.snd.snd.snd.fst.snd.snd.snd.fst, a0.snd.snd.snd.snd.fst,
          a0.snd.snd.snd.snd.snd.fst, val.fst.fst, ()),
        ())
theorem eq_laws_toStore (a0 : Int × Int × Int × (Int × Int × Int × Int × Unit) × Int × Int × ((List (ByteArray × ByteArray × Unit)) × Unit) × Unit) r (h : m_laws_toStore a0 = some r) : de_laws_toStore a0 = some ((r.1, r.2.1, r.2.2.1, r.2.2.2.1.1, r.2.2.2.1.2.1, r.2.2.2.1.2.2.1, r.2.2.2.1.2.2.2.1, r.2.2.2.2.1, r.2.2.2.2.2.1, r.2.2.2.2.2.2.1.1, ()), (())) := by
  obtain ⟨hc, rfl⟩ := toM_some (t := (.pair (.int .i64) (.pair (.int .i64) (.pair (.int .i64) (.pair (.pair (.int .i64) (.pair (.int .i64) (.pair (.int .i64) (.pair (.int .i64) .unit)))) (.pair (.int .i64) (.pair (.int .i64) (.pair (.pair (.sl (.pair .str (.pair .str .unit))) .unit) .unit)))))))) h
  · obtain ⟨s0, s1, s2, s3, s4, s5, s6, _⟩ : smallB (.int .i64) a0.1 = true ∧ smallB (.int .i64) a0.2.1 = true ∧ smallB (.int .i64) a0.2.2.1 = true ∧ smallB (.pair (.int .i64) (.pair (.int .i64) (.pair (.int .i64) (.pair (.int .i64) .unit)))) a0.2.2.2.1 = true ∧ smallB (.int .i64) a0.2.2.2.2.1 = true ∧ smallB (.int .i64) a0.2.2.2.2.2.1 = true ∧ smallB (.pair (.sl (.pair .str (.pair .str .unit))) .unit) a0.2.2.2.2.2.2.1 = true ∧ True := by
      have s := hc
      obtain ⟨h0, s⟩ := smallB_pair s
      obtain ⟨h1, s⟩ := smallB_pair s
      obtain ⟨h2, s⟩ := smallB_pair s
      obtain ⟨h3, s⟩ := smallB_pair s
      obtain ⟨h4, s⟩ := smallB_pair s
      obtain ⟨h5, s⟩ := smallB_pair s
      obtain ⟨h6, s⟩ := smallB_pair s
      exact ⟨h0, h1, h2, h3, h4, h5, h6, trivial⟩
    unfold de_laws_toStore
    have e6 : m_laws_toState a0.2.2.2.2.2.2.1 = some a0.2.2.2.2.2.2.1 := toM_is (t := (.pair (.sl (.pair .str (.pair .str .unit))) .unit)) s6
    simp only [e6]
    rfl
theorem en_laws_toStore (a0 : Int × Int × Int × (Int × Int × Int × Int × Unit) × Int × Int × ((List (ByteArray × ByteArray × Unit)) × Unit) × Unit) : evalF Try.prog ta_laws_toStore pa_laws_toStore sg_laws_toStore Try.f10 noL (a0, ()) = de_laws_toStore a0 := by kernel_rfl
theorem si_laws_toStore : SigsOk Try.prog ta_laws_toStore := SigsOk.of fun f sd h => by
  try dsimp only [Tb.of, ta_laws_toStore] at h
  split at h
  · rename_i e; subst e; cases h; exact sn_laws_toRoot
  split at h
  · rename_i e; subst e; cases h; exact sn_laws_toState
  cases h
theorem sn_laws_toStore : Callable Try.prog 10 ∧ Sound Try.prog 10 sd_laws_toStore.sg sd_laws_toStore.den :=
  fn_plain (pat := pa_laws_toStore) (by kernel_rfl) si_laws_toStore Try.func10 (by kernel_rfl) (by kernel_rfl) (by kernel_rfl) fun x r h => by
    obtain ⟨a0, ⟨⟩⟩ := x; obtain ⟨y, h1, h2⟩ := Option.bind_eq_some_iff.1 (show (m_laws_toStore a0).bind (fun r => some ((r.1, r.2.1, r.2.2.1, r.2.2.2.1.1, r.2.2.2.1.2.1, r.2.2.2.1.2.2.1, r.2.2.2.1.2.2.2.1, r.2.2.2.2.1, r.2.2.2.2.2.1, r.2.2.2.2.2.2.1.1, ()), (()))) = some r from h); cases h2; exact (en_laws_toStore a0).trans (eq_laws_toStore a0 _ h1)
def m_laws_toStringS (a : List ByteArray) : Option (List ByteArray) := toM (.sl .str) a
def sg_laws_toStringS : Sig := ⟨[.rd (.sl .str)], [none], [.own 9 .str], [none]⟩
noncomputable def sd_laws_toStringS : SD := ⟨sg_laws_toStringS, fun x => (m_laws_toStringS x.1).bind fun r => some ((r, ()), (()))⟩
noncomputable def ta_laws_toStringS : Tb := Tb.of fun f => none
def pa_laws_toStringS : Nat → Pat × (Nat → Pat) := fun k => if k = 4 then (⟨[.sl 0 0 .str, .row 3 0 9 .str], [(0, .lf (.d (.sl .str))), (3, .lf (.row 0)), (4, .lf (.d (.int .i64)))], [.row 9 .str]⟩, fun e => if e = 2 then ⟨[.row 3 0 9 .str], [(3, .lf (.row 0))], [.row 9 .str]⟩ else ⟨[], [], []⟩) else (⟨[], [], []⟩, fun _ => ⟨[], [], []⟩)
noncomputable def co_laws_toStringS_4 : Code := (loopsIn (bodyOf Try.f80)).getD 0 .skip
def fu_laws_toStringS_4 (v0 : List ByteArray) (v4 : Int) (r0 : List ByteArray) : Nat := ((v0.length : Int) - v4).toNat + 1
noncomputable def tr_laws_toStringS_4 {R : Type}  (NX : ((List ByteArray) × (Int) × (List ByteArray) × Unit) → Option R) (X2 : ((List ByteArray) × Unit) → Option R) (v0 : List ByteArray) (v4 : Int) (r0 : List ByteArray) : Option R :=
  bif decide (v4 < nI (List.length v0)) then
    bif decide (0 ≤ v4) then
      bif decide (v4 < nI (List.length v0)) then
        bif decide (0 ≤ v4) then
          bif decide (v4 < nI (List.length r0)) then
            bif decide (Int.toNat v4 < List.length r0) then NX (v0, IntKind.wrap IntKind.i64 (v4 + 1), List.set r0 (Int.toNat v4) (List.getD v0 (Int.toNat v4) (ByteArray.mk #[])), ()) else none
          else none
        else none
      else none
    else none
  else X2 (r0, ())
noncomputable def lo_laws_toStringS_4 : Nat → (List ByteArray) → (Int) → (List ByteArray) →  Option ((List ByteArray) × Unit)
  | 0, _, _, _ => none
  | m + 1, v0, v4, r0 => tr_laws_toStringS_4  (fun d => lo_laws_toStringS_4 m d.1 d.2.1 d.2.2.1) (fun d => some (d)) v0 v4 r0
theorem na_laws_toStringS_4 {R S : Type}  (NX : ((List ByteArray) × (Int) × (List ByteArray) × Unit) → Option R) (X2 : ((List ByteArray) × Unit) → Option R) (v0 : List ByteArray) (v4 : Int) (r0 : List ByteArray) (f : R → Option S) : tr_laws_toStringS_4  (fun d => (NX d).bind f) (fun d => (X2 d).bind f) v0 v4 r0 = (tr_laws_toStringS_4  NX X2 v0 v4 r0).bind f := by
  unfold tr_laws_toStringS_4
  simp only [cond_bind, ite_bind, onSum_bind, Option.bind_assoc, Option.bind_none, Option.bind_some]
noncomputable def de_laws_toStringS (a0 : List ByteArray) : Option ((((List ByteArray) × Unit) × (Unit))) :=
  bif decide (nI (List.length a0) = nI (List.length a0)) then
    bif decide (Int.toNat (nI (List.length a0)) * 16 ≤ 140737488355328) then
      Option.bind ((fun d => lo_laws_toStringS_4 (fu_laws_toStringS_4 d.1 d.2.1 d.2.2.1) d.1 d.2.1 d.2.2.1) (a0, 0, List.replicate (Int.toNat (nI (List.length a0))) (ByteArray.mk #[]), ())) fun val => some ((val.fst, ()), ())
    else none
  else none
theorem eq_laws_toStringS (a0 : List ByteArray) r (h : m_laws_toStringS a0 = some r) : de_laws_toStringS a0 = some ((r, ()), (())) := by
  obtain ⟨hc, rfl⟩ := toM_some (t := .sl .str) h
  obtain ⟨hl0, hall⟩ := smallB_sl hc
  have hl : a0.length ≤ 1048576 := hl0
  clear hl0 hc h
  · unfold de_laws_toStringS
    have e : Int.toNat (nI a0.length) = a0.length := by simp [nI]
    have hL := to_loop (xs := a0) (ByteArray.mk #[]) (g := fun m i r => lo_laws_toStringS_4 m a0 i r) (ok := fun r => (r, ())) (fun m i r hi hr => by
      show lo_laws_toStringS_4 (m + 1) a0 i r = _
      simp only [lo_laws_toStringS_4, tr_laws_toStringS_4]
      have hir : i < r.length := by omega
      rw [cLt hi, cLe0, cLt hir, wI (by omega)]
      simp only [cond_true, Int.toNat_natCast]
      rw [cLtN hir]
      rfl) (fun m r => by
      show lo_laws_toStringS_4 (m + 1) a0 a0.length r = _
      simp only [lo_laws_toStringS_4, tr_laws_toStringS_4]
      rw [cLtF]
      rfl) (fu_laws_toStringS_4 a0 0 (List.replicate a0.length (ByteArray.mk #[]))) 0 (List.replicate a0.length (ByteArray.mk #[])) (by omega) (by simp [fu_laws_toStringS_4]) (by simp)
    have c1 : decide (Int.toNat (nI a0.length) * 16 ≤ 140737488355328) = true := by rw [e]; simp; omega
    rw [c1, decide_eq_true rfl, e]
    have hL' : lo_laws_toStringS_4 (fu_laws_toStringS_4 a0 0 (List.replicate a0.length (ByteArray.mk #[]))) a0 0 (List.replicate a0.length (ByteArray.mk #[])) = _ := hL
    show (lo_laws_toStringS_4 (fu_laws_toStringS_4 a0 0 (List.replicate a0.length (ByteArray.mk #[]))) a0 0 (List.replicate a0.length (ByteArray.mk #[]))).bind _ = _
    rw [hL']
    rfl
noncomputable def ou_laws_toStringS_4 {R : Type} (k : Kt R) : ((List ByteArray) × Unit) → Option R := (fun d => k (.exit 0) (((pa_laws_toStringS 4).2 2).st d) (((pa_laws_toStringS 4).2 2).nid))
noncomputable def L_laws_toStringS {R : Type} : Lt R pa_laws_toStringS := (addL (pat := pa_laws_toStringS) 4 (fun d k => (lo_laws_toStringS_4 (fu_laws_toStringS_4 d.1 d.2.1 d.2.2.1) d.1 d.2.1 d.2.2.1).bind (ou_laws_toStringS_4 k)) noL)
theorem rd_laws_toStringS_4 {R : Type} (nx : (pa_laws_toStringS 4).1.D → Kt R → Option R) (k : Kt R) (v0 : List ByteArray) (v4 : Int) (r0 : List ByteArray) : ev Try.prog ⟨ta_laws_toStringS, 0, 22, pa_laws_toStringS⟩ L_laws_toStringS co_laws_toStringS_4 ((pa_laws_toStringS 4).1.st (v0, v4, r0, ())) (pa_laws_toStringS 4).1.nid (roundK 0 (pa_laws_toStringS 4) nx k) = tr_laws_toStringS_4  (fun d => nx d k) (fun d => k (.exit 0) (((pa_laws_toStringS 4).2 2).st d) (((pa_laws_toStringS 4).2 2).nid)) v0 v4 r0 := by kernel_rfl
theorem lp_laws_toStringS_4 {R : Type} : ∀ (m : Nat) (d : (pa_laws_toStringS 4).1.D) (k : Kt R), loopN 0 (pa_laws_toStringS 4) (fun s nid k => ev Try.prog ⟨ta_laws_toStringS, 0, 22, pa_laws_toStringS⟩ L_laws_toStringS co_laws_toStringS_4 s nid k) m d k = (lo_laws_toStringS_4 m d.1 d.2.1 d.2.2.1).bind (ou_laws_toStringS_4 k)
  | 0, _, _ => rfl
  | m + 1, ⟨v0, v4, r0, ⟨⟩⟩, k => (rd_laws_toStringS_4 _ k v0 v4 r0).trans ((congrArg (fun F => tr_laws_toStringS_4  F (fun d => k (.exit 0) (((pa_laws_toStringS 4).2 2).st d) (((pa_laws_toStringS 4).2 2).nid)) v0 v4 r0) (funext fun d => lp_laws_toStringS_4 m d k)).trans (na_laws_toStringS_4 (f := ou_laws_toStringS_4 k)  (fun d => lo_laws_toStringS_4 m d.1 d.2.1 d.2.2.1) (fun d => some (d)) v0 v4 r0))
theorem en_laws_toStringS (a0 : List ByteArray) : evalF Try.prog ta_laws_toStringS pa_laws_toStringS sg_laws_toStringS Try.f80 L_laws_toStringS (a0, ()) = de_laws_toStringS a0 := by kernel_rfl
theorem si_laws_toStringS : SigsOk Try.prog ta_laws_toStringS := SigsOk.of fun f sd h => by
  try dsimp only [Tb.of, ta_laws_toStringS] at h
  cases h
theorem lk_laws_toStringS_4 {R : Type} : LoopOk Try.prog R 22 0 pa_laws_toStringS L_laws_toStringS co_laws_toStringS_4 :=
  loop_key (cfg := ⟨ta_laws_toStringS, 0, 22, pa_laws_toStringS⟩) (key := 4) (by kernel_rfl) (by kernel_rfl) si_laws_toStringS rfl rfl (fun d k r h => ⟨fu_laws_toStringS_4 d.1 d.2.1 d.2.2.1, (lp_laws_toStringS_4 _ d k).trans h⟩) (fun c hc => by rw [show loopsIn co_laws_toStringS_4 = [] from by kernel_rfl] at hc; cases hc)
theorem sn_laws_toStringS : Callable Try.prog 80 ∧ Sound Try.prog 80 sd_laws_toStringS.sg sd_laws_toStringS.den :=
  fn_loops (pat := pa_laws_toStringS) L_laws_toStringS (by kernel_rfl) si_laws_toStringS Try.func80 (by kernel_rfl) (by kernel_rfl) (fun c hc => by rw [show loopsIn (bodyOf Try.f80) = [co_laws_toStringS_4] from by kernel_rfl] at hc; simp only [List.mem_cons, List.not_mem_nil, or_false] at hc; rcases hc with rfl <;> first | exact lk_laws_toStringS_4) fun x r h => by
    obtain ⟨a0, ⟨⟩⟩ := x; obtain ⟨y, h1, h2⟩ := Option.bind_eq_some_iff.1 (show (m_laws_toStringS a0).bind (fun r => some ((r, ()), (()))) = some r from h); cases h2; exact (en_laws_toStringS a0).trans (eq_laws_toStringS a0 _ h1)
def m_laws_toWrite (a : Int × ByteArray × Unit) : Option (Int × ByteArray × Unit) := toM (.pair (.int .i64) (.pair .str .unit)) a
def sg_laws_toWrite : Sig := ⟨[.rd (.pair (.int .i64) (.pair .str .unit))], [some 2], [.rd (.pair (.int .i64) (.pair .str .unit))], [some 2]⟩
noncomputable def sd_laws_toWrite : SD := ⟨sg_laws_toWrite, fun x => (m_laws_toWrite x.1).bind fun r => some ((r, ()), (()))⟩
noncomputable def ta_laws_toWrite : Tb := Tb.of fun f => none
def pa_laws_toWrite : Nat → Pat × (Nat → Pat) := fun k => (⟨[], [], []⟩, fun _ => ⟨[], [], []⟩)
noncomputable def de_laws_toWrite (a0 : Int × ByteArray × Unit) : Option ((((Int × ByteArray × Unit) × Unit) × (Unit))) :=
  some (((a0.fst, a0.snd.fst, ()), ()), ())
theorem eq_laws_toWrite (a0 : Int × ByteArray × Unit) r (h : m_laws_toWrite a0 = some r) : de_laws_toWrite a0 = some ((r, ()), (())) := by
  obtain ⟨hc, rfl⟩ := toM_some (t := (.pair (.int .i64) (.pair .str .unit))) h
  · rfl
theorem en_laws_toWrite (a0 : Int × ByteArray × Unit) : evalF Try.prog ta_laws_toWrite pa_laws_toWrite sg_laws_toWrite Try.f168 noL (a0, ()) = de_laws_toWrite a0 := by kernel_rfl
theorem si_laws_toWrite : SigsOk Try.prog ta_laws_toWrite := SigsOk.of fun f sd h => by
  try dsimp only [Tb.of, ta_laws_toWrite] at h
  cases h
theorem sn_laws_toWrite : Callable Try.prog 168 ∧ Sound Try.prog 168 sd_laws_toWrite.sg sd_laws_toWrite.den :=
  fn_plain (pat := pa_laws_toWrite) (by kernel_rfl) si_laws_toWrite Try.func168 (by kernel_rfl) (by kernel_rfl) (by kernel_rfl) fun x r h => by
    obtain ⟨a0, ⟨⟩⟩ := x; obtain ⟨y, h1, h2⟩ := Option.bind_eq_some_iff.1 (show (m_laws_toWrite a0).bind (fun r => some ((r, ()), (()))) = some r from h); cases h2; exact (en_laws_toWrite a0).trans (eq_laws_toWrite a0 _ h1)
def m_laws_toWriteS (a : List (Int × ByteArray × Unit)) : Option (List (Int × ByteArray × Unit)) := toM (.sl (.pair (.int .i64) (.pair .str .unit))) a
def sg_laws_toWriteS : Sig := ⟨[.rd (.sl (.pair (.int .i64) (.pair .str .unit)))], [none], [.own 115 (.pair (.int .i64) (.pair .str .unit))], [none]⟩
noncomputable def sd_laws_toWriteS : SD := ⟨sg_laws_toWriteS, fun x => (m_laws_toWriteS x.1).bind fun r => some ((r, ()), (()))⟩
noncomputable def ta_laws_toWriteS : Tb := Tb.of fun f => if f = 168 then some sd_laws_toWrite else none
def pa_laws_toWriteS : Nat → Pat × (Nat → Pat) := fun k => if k = 4 then (⟨[.sl 0 0 (.pair (.int .i64) (.pair .str .unit)), .row 3 0 115 (.pair (.int .i64) (.pair .str .unit))], [(0, .lf (.d (.sl (.pair (.int .i64) (.pair .str .unit))))), (3, .lf (.row 0)), (4, .lf (.d (.int .i64)))], [.row 115 (.pair (.int .i64) (.pair .str .unit))]⟩, fun e => if e = 2 then ⟨[.row 3 0 115 (.pair (.int .i64) (.pair .str .unit))], [(3, .lf (.row 0))], [.row 115 (.pair (.int .i64) (.pair .str .unit))]⟩ else ⟨[], [], []⟩) else (⟨[], [], []⟩, fun _ => ⟨[], [], []⟩)
noncomputable def co_laws_toWriteS_4 : Code := (loopsIn (bodyOf Try.f138)).getD 0 .skip
def fu_laws_toWriteS_4 (v0 : List (Int × ByteArray × Unit)) (v4 : Int) (r0 : List (Int × ByteArray × Unit)) : Nat := ((v0.length : Int) - v4).toNat + 1
noncomputable def tr_laws_toWriteS_4 {R : Type}  (NX : ((List (Int × ByteArray × Unit)) × (Int) × (List (Int × ByteArray × Unit)) × Unit) → Option R) (X2 : ((List (Int × ByteArray × Unit)) × Unit) → Option R) (v0 : List (Int × ByteArray × Unit)) (v4 : Int) (r0 : List (Int × ByteArray × Unit)) : Option R :=
  bif decide (v4 < nI (List.length v0)) then
    bif decide (0 ≤ v4) then
      bif decide (v4 < nI (List.length v0)) then
        bif decide (0 ≤ v4) then
          bif decide (v4 < nI (List.length r0)) then
            bif decide (Int.toNat v4 < List.length r0) then
              NX
                (v0, IntKind.wrap IntKind.i64 (v4 + 1),
                  List.set r0 (Int.toNat v4) ((List.getD v0 (Int.toNat v4) (0, ByteArray.mk #[], ())).fst, (List.getD v0 (Int.toNat v4) (0, ByteArray.mk #[], ())).snd.fst, ()), ())
            else none
          else none
        else none
      else none
    else none
  else X2 (r0, ())
noncomputable def lo_laws_toWriteS_4 : Nat → (List (Int × ByteArray × Unit)) → (Int) → (List (Int × ByteArray × Unit)) →  Option ((List (Int × ByteArray × Unit)) × Unit)
  | 0, _, _, _ => none
  | m + 1, v0, v4, r0 => tr_laws_toWriteS_4  (fun d => lo_laws_toWriteS_4 m d.1 d.2.1 d.2.2.1) (fun d => some (d)) v0 v4 r0
theorem na_laws_toWriteS_4 {R S : Type}  (NX : ((List (Int × ByteArray × Unit)) × (Int) × (List (Int × ByteArray × Unit)) × Unit) → Option R) (X2 : ((List (Int × ByteArray × Unit)) × Unit) → Option R) (v0 : List (Int × ByteArray × Unit)) (v4 : Int) (r0 : List (Int × ByteArray × Unit)) (f : R → Option S) : tr_laws_toWriteS_4  (fun d => (NX d).bind f) (fun d => (X2 d).bind f) v0 v4 r0 = (tr_laws_toWriteS_4  NX X2 v0 v4 r0).bind f := by
  unfold tr_laws_toWriteS_4
  simp only [cond_bind, ite_bind, onSum_bind, Option.bind_assoc, Option.bind_none, Option.bind_some]
noncomputable def de_laws_toWriteS (a0 : List (Int × ByteArray × Unit)) : Option ((((List (Int × ByteArray × Unit)) × Unit) × (Unit))) :=
  bif decide (nI (List.length a0) = nI (List.length a0)) then
    bif decide (Int.toNat (nI (List.length a0)) * 24 ≤ 140737488355328) then
      Option.bind ((fun d => lo_laws_toWriteS_4 (fu_laws_toWriteS_4 d.1 d.2.1 d.2.2.1) d.1 d.2.1 d.2.2.1) (a0, 0, List.replicate (Int.toNat (nI (List.length a0))) (0, ByteArray.mk #[], ()), ())) fun val => some ((val.fst, ()), ())
    else none
  else none
theorem eq_laws_toWriteS (a0 : List (Int × ByteArray × Unit)) r (h : m_laws_toWriteS a0 = some r) : de_laws_toWriteS a0 = some ((r, ()), (())) := by
  obtain ⟨hc, rfl⟩ := toM_some (t := .sl (.pair (.int .i64) (.pair .str .unit))) h
  obtain ⟨hl0, hall⟩ := smallB_sl hc
  have hl : a0.length ≤ 1048576 := hl0
  clear hl0 hc h
  · unfold de_laws_toWriteS
    have e : Int.toNat (nI a0.length) = a0.length := by simp [nI]
    have hL := to_loop (xs := a0) (0, (ByteArray.mk #[]), ()) (g := fun m i r => lo_laws_toWriteS_4 m a0 i r) (ok := fun r => (r, ())) (fun m i r hi hr => by
      show lo_laws_toWriteS_4 (m + 1) a0 i r = _
      simp only [lo_laws_toWriteS_4, tr_laws_toWriteS_4]
      have hir : i < r.length := by omega
      rw [cLt hi, cLe0, cLt hir, wI (by omega)]
      simp only [cond_true, Int.toNat_natCast]
      rw [cLtN hir]
      rfl) (fun m r => by
      show lo_laws_toWriteS_4 (m + 1) a0 a0.length r = _
      simp only [lo_laws_toWriteS_4, tr_laws_toWriteS_4]
      rw [cLtF]
      rfl) (fu_laws_toWriteS_4 a0 0 (List.replicate a0.length (0, (ByteArray.mk #[]), ()))) 0 (List.replicate a0.length (0, (ByteArray.mk #[]), ())) (by omega) (by simp [fu_laws_toWriteS_4]) (by simp)
    have c1 : decide (Int.toNat (nI a0.length) * 24 ≤ 140737488355328) = true := by rw [e]; simp; omega
    rw [c1, decide_eq_true rfl, e]
    have hL' : lo_laws_toWriteS_4 (fu_laws_toWriteS_4 a0 0 (List.replicate a0.length (0, (ByteArray.mk #[]), ()))) a0 0 (List.replicate a0.length (0, (ByteArray.mk #[]), ())) = _ := hL
    show (lo_laws_toWriteS_4 (fu_laws_toWriteS_4 a0 0 (List.replicate a0.length (0, (ByteArray.mk #[]), ()))) a0 0 (List.replicate a0.length (0, (ByteArray.mk #[]), ()))).bind _ = _
    rw [hL']
    rfl
noncomputable def ou_laws_toWriteS_4 {R : Type} (k : Kt R) : ((List (Int × ByteArray × Unit)) × Unit) → Option R := (fun d => k (.exit 0) (((pa_laws_toWriteS 4).2 2).st d) (((pa_laws_toWriteS 4).2 2).nid))
noncomputable def L_laws_toWriteS {R : Type} : Lt R pa_laws_toWriteS := (addL (pat := pa_laws_toWriteS) 4 (fun d k => (lo_laws_toWriteS_4 (fu_laws_toWriteS_4 d.1 d.2.1 d.2.2.1) d.1 d.2.1 d.2.2.1).bind (ou_laws_toWriteS_4 k)) noL)
theorem rd_laws_toWriteS_4 {R : Type} (nx : (pa_laws_toWriteS 4).1.D → Kt R → Option R) (k : Kt R) (v0 : List (Int × ByteArray × Unit)) (v4 : Int) (r0 : List (Int × ByteArray × Unit)) : ev Try.prog ⟨ta_laws_toWriteS, 0, 23, pa_laws_toWriteS⟩ L_laws_toWriteS co_laws_toWriteS_4 ((pa_laws_toWriteS 4).1.st (v0, v4, r0, ())) (pa_laws_toWriteS 4).1.nid (roundK 0 (pa_laws_toWriteS 4) nx k) = tr_laws_toWriteS_4  (fun d => nx d k) (fun d => k (.exit 0) (((pa_laws_toWriteS 4).2 2).st d) (((pa_laws_toWriteS 4).2 2).nid)) v0 v4 r0 := by kernel_rfl
theorem lp_laws_toWriteS_4 {R : Type} : ∀ (m : Nat) (d : (pa_laws_toWriteS 4).1.D) (k : Kt R), loopN 0 (pa_laws_toWriteS 4) (fun s nid k => ev Try.prog ⟨ta_laws_toWriteS, 0, 23, pa_laws_toWriteS⟩ L_laws_toWriteS co_laws_toWriteS_4 s nid k) m d k = (lo_laws_toWriteS_4 m d.1 d.2.1 d.2.2.1).bind (ou_laws_toWriteS_4 k)
  | 0, _, _ => rfl
  | m + 1, ⟨v0, v4, r0, ⟨⟩⟩, k => (rd_laws_toWriteS_4 _ k v0 v4 r0).trans ((congrArg (fun F => tr_laws_toWriteS_4  F (fun d => k (.exit 0) (((pa_laws_toWriteS 4).2 2).st d) (((pa_laws_toWriteS 4).2 2).nid)) v0 v4 r0) (funext fun d => lp_laws_toWriteS_4 m d k)).trans (na_laws_toWriteS_4 (f := ou_laws_toWriteS_4 k)  (fun d => lo_laws_toWriteS_4 m d.1 d.2.1 d.2.2.1) (fun d => some (d)) v0 v4 r0))
theorem en_laws_toWriteS (a0 : List (Int × ByteArray × Unit)) : evalF Try.prog ta_laws_toWriteS pa_laws_toWriteS sg_laws_toWriteS Try.f138 L_laws_toWriteS (a0, ()) = de_laws_toWriteS a0 := by kernel_rfl
theorem si_laws_toWriteS : SigsOk Try.prog ta_laws_toWriteS := SigsOk.of fun f sd h => by
  try dsimp only [Tb.of, ta_laws_toWriteS] at h
  split at h
  · rename_i e; subst e; cases h; exact sn_laws_toWrite
  cases h
theorem lk_laws_toWriteS_4 {R : Type} : LoopOk Try.prog R 23 0 pa_laws_toWriteS L_laws_toWriteS co_laws_toWriteS_4 :=
  loop_key (cfg := ⟨ta_laws_toWriteS, 0, 23, pa_laws_toWriteS⟩) (key := 4) (by kernel_rfl) (by kernel_rfl) si_laws_toWriteS rfl rfl (fun d k r h => ⟨fu_laws_toWriteS_4 d.1 d.2.1 d.2.2.1, (lp_laws_toWriteS_4 _ d k).trans h⟩) (fun c hc => by rw [show loopsIn co_laws_toWriteS_4 = [] from by kernel_rfl] at hc; cases hc)
theorem sn_laws_toWriteS : Callable Try.prog 138 ∧ Sound Try.prog 138 sd_laws_toWriteS.sg sd_laws_toWriteS.den :=
  fn_loops (pat := pa_laws_toWriteS) L_laws_toWriteS (by kernel_rfl) si_laws_toWriteS Try.func138 (by kernel_rfl) (by kernel_rfl) (fun c hc => by rw [show loopsIn (bodyOf Try.f138) = [co_laws_toWriteS_4] from by kernel_rfl] at hc; simp only [List.mem_cons, List.not_mem_nil, or_false] at hc; rcases hc with rfl <;> first | exact lk_laws_toWriteS_4) fun x r h => by
    obtain ⟨a0, ⟨⟩⟩ := x; obtain ⟨y, h1, h2⟩ := Option.bind_eq_some_iff.1 (show (m_laws_toWriteS a0).bind (fun r => some ((r, ()), (()))) = some r from h); cases h2; exact (en_laws_toWriteS a0).trans (eq_laws_toWriteS a0 _ h1)
def m_laws_toDisk (a : (List ByteArray) × (List (Int × ByteArray × Unit)) × Unit) : Option ((List ByteArray) × (List (Int × ByteArray × Unit)) × Unit) := toM (.pair (.sl .str) (.pair (.sl (.pair (.int .i64) (.pair .str .unit))) .unit)) a
def sg_laws_toDisk : Sig := ⟨[.rd (.pair (.sl .str) (.pair (.sl (.pair (.int .i64) (.pair .str .unit))) .unit))], [some 2], [.own 9 .str, .own 115 (.pair (.int .i64) (.pair .str .unit))], [some 2]⟩
noncomputable def sd_laws_toDisk : SD := ⟨sg_laws_toDisk, fun x => (m_laws_toDisk x.1).bind fun r => some ((r.1, r.2.1, ()), (()))⟩
noncomputable def ta_laws_toDisk : Tb := Tb.of fun f => if f = 80 then some sd_laws_toStringS else if f = 138 then some sd_laws_toWriteS else none
def pa_laws_toDisk : Nat → Pat × (Nat → Pat) := fun k => (⟨[], [], []⟩, fun _ => ⟨[], [], []⟩)
noncomputable def de_laws_toDisk (a0 : (List ByteArray) × (List (Int × ByteArray × Unit)) × Unit) : Option ((((List ByteArray) × (List (Int × ByteArray × Unit)) × Unit) × (Unit))) :=
  Option.bind (Option.bind (m_laws_toStringS a0.fst) fun val => some ((val, ()), ())) fun val =>
    Option.bind (Option.bind (m_laws_toWriteS a0.snd.fst) fun val => some ((val, ()), ())) fun val_1 => some ((val.fst.fst, val_1.fst.fst, ()), ())
theorem eq_laws_toDisk (a0 : (List ByteArray) × (List (Int × ByteArray × Unit)) × Unit) r (h : m_laws_toDisk a0 = some r) : de_laws_toDisk a0 = some ((r.1, r.2.1, ()), (())) := by
  obtain ⟨hc, rfl⟩ := toM_some (t := (.pair (.sl .str) (.pair (.sl (.pair (.int .i64) (.pair .str .unit))) .unit))) h
  · obtain ⟨s0, s1, _⟩ : smallB (.sl .str) a0.1 = true ∧ smallB (.sl (.pair (.int .i64) (.pair .str .unit))) a0.2.1 = true ∧ True := by
      have s := hc
      obtain ⟨h0, s⟩ := smallB_pair s
      obtain ⟨h1, s⟩ := smallB_pair s
      exact ⟨h0, h1, trivial⟩
    unfold de_laws_toDisk
    have e0 : m_laws_toStringS a0.1 = some a0.1 := toM_is (t := (.sl .str)) s0
    have e1 : m_laws_toWriteS a0.2.1 = some a0.2.1 := toM_is (t := (.sl (.pair (.int .i64) (.pair .str .unit)))) s1
    simp only [e0, e1]
    rfl
theorem en_laws_toDisk (a0 : (List ByteArray) × (List (Int × ByteArray × Unit)) × Unit) : evalF Try.prog ta_laws_toDisk pa_laws_toDisk sg_laws_toDisk Try.f78 noL (a0, ()) = de_laws_toDisk a0 := by kernel_rfl
theorem si_laws_toDisk : SigsOk Try.prog ta_laws_toDisk := SigsOk.of fun f sd h => by
  try dsimp only [Tb.of, ta_laws_toDisk] at h
  split at h
  · rename_i e; subst e; cases h; exact sn_laws_toStringS
  split at h
  · rename_i e; subst e; cases h; exact sn_laws_toWriteS
  cases h
theorem sn_laws_toDisk : Callable Try.prog 78 ∧ Sound Try.prog 78 sd_laws_toDisk.sg sd_laws_toDisk.den :=
  fn_plain (pat := pa_laws_toDisk) (by kernel_rfl) si_laws_toDisk Try.func78 (by kernel_rfl) (by kernel_rfl) (by kernel_rfl) fun x r h => by
    obtain ⟨a0, ⟨⟩⟩ := x; obtain ⟨y, h1, h2⟩ := Option.bind_eq_some_iff.1 (show (m_laws_toDisk a0).bind (fun r => some ((r.1, r.2.1, ()), (()))) = some r from h); cases h2; exact (en_laws_toDisk a0).trans (eq_laws_toDisk a0 _ h1)
def m_laws_toStateS (a : List ((List (ByteArray × ByteArray × Unit)) × Unit)) : Option (List ((List (ByteArray × ByteArray × Unit)) × Unit)) := toM (.sl (.pair (.sl (.pair .str (.pair .str .unit))) .unit)) a
def sg_laws_toStateS : Sig := ⟨[.rd (.sl (.pair (.sl (.pair .str (.pair .str .unit))) .unit))], [none], [.rd (.sl (.pair (.sl (.pair .str (.pair .str .unit))) .unit))], [none]⟩
noncomputable def sd_laws_toStateS : SD := ⟨sg_laws_toStateS, fun x => (m_laws_toStateS x.1).bind fun r => some ((r, ()), (()))⟩
noncomputable def ta_laws_toStateS : Tb := Tb.of fun f => if f = 51 then some sd_laws_toState else none
def pa_laws_toStateS : Nat → Pat × (Nat → Pat) := fun k => if k = 4 then (⟨[.sl 0 0 (.pair (.sl (.pair .str (.pair .str .unit))) .unit), .row 3 0 33 (.pair (.sl (.pair .str (.pair .str .unit))) .unit)], [(0, .lf (.d (.sl (.pair (.sl (.pair .str (.pair .str .unit))) .unit)))), (3, .lf (.row 0)), (4, .lf (.d (.int .i64)))], [.row 33 (.pair (.sl (.pair .str (.pair .str .unit))) .unit)]⟩, fun e => if e = 2 then ⟨[.row 3 0 33 (.pair (.sl (.pair .str (.pair .str .unit))) .unit)], [(3, .lf (.row 0))], [.row 33 (.pair (.sl (.pair .str (.pair .str .unit))) .unit)]⟩ else ⟨[], [], []⟩) else (⟨[], [], []⟩, fun _ => ⟨[], [], []⟩)
noncomputable def co_laws_toStateS_4 : Code := (loopsIn (bodyOf Try.f79)).getD 0 .skip
def fu_laws_toStateS_4 (v0 : List ((List (ByteArray × ByteArray × Unit)) × Unit)) (v4 : Int) (r0 : List ((List (ByteArray × ByteArray × Unit)) × Unit)) : Nat := ((v0.length : Int) - v4).toNat + 1
noncomputable def tr_laws_toStateS_4 {R : Type}  (NX : ((List ((List (ByteArray × ByteArray × Unit)) × Unit)) × (Int) × (List ((List (ByteArray × ByteArray × Unit)) × Unit)) × Unit) → Option R) (X2 : ((List ((List (ByteArray × ByteArray × Unit)) × Unit)) × Unit) → Option R) (v0 : List ((List (ByteArray × ByteArray × Unit)) × Unit)) (v4 : Int) (r0 : List ((List (ByteArray × ByteArray × Unit)) × Unit)) : Option R :=
  bif decide (v4 < nI (List.length v0)) then
    bif decide (0 ≤ v4) then
      bif decide (v4 < nI (List.length v0)) then
        Option.bind (Option.bind (m_laws_toState ((List.getD v0 (Int.toNat v4) ([], ())).fst, ())) fun val => some ((val.fst, ()), ())) fun val =>
          bif decide (0 ≤ v4) then
            bif decide (v4 < nI (List.length r0)) then
              bif decide (Int.toNat v4 < List.length r0) then NX (v0, IntKind.wrap IntKind.i64 (v4 + 1), List.set r0 (Int.toNat v4) (val.fst.fst, ()), ()) else none
            else none
          else none
      else none
    else none
  else X2 (r0, ())
noncomputable def lo_laws_toStateS_4 : Nat → (List ((List (ByteArray × ByteArray × Unit)) × Unit)) → (Int) → (List ((List (ByteArray × ByteArray × Unit)) × Unit)) →  Option ((List ((List (ByteArray × ByteArray × Unit)) × Unit)) × Unit)
  | 0, _, _, _ => none
  | m + 1, v0, v4, r0 => tr_laws_toStateS_4  (fun d => lo_laws_toStateS_4 m d.1 d.2.1 d.2.2.1) (fun d => some (d)) v0 v4 r0
theorem na_laws_toStateS_4 {R S : Type}  (NX : ((List ((List (ByteArray × ByteArray × Unit)) × Unit)) × (Int) × (List ((List (ByteArray × ByteArray × Unit)) × Unit)) × Unit) → Option R) (X2 : ((List ((List (ByteArray × ByteArray × Unit)) × Unit)) × Unit) → Option R) (v0 : List ((List (ByteArray × ByteArray × Unit)) × Unit)) (v4 : Int) (r0 : List ((List (ByteArray × ByteArray × Unit)) × Unit)) (f : R → Option S) : tr_laws_toStateS_4  (fun d => (NX d).bind f) (fun d => (X2 d).bind f) v0 v4 r0 = (tr_laws_toStateS_4  NX X2 v0 v4 r0).bind f := by
  unfold tr_laws_toStateS_4
  simp only [cond_bind, ite_bind, onSum_bind, Option.bind_assoc, Option.bind_none, Option.bind_some]
noncomputable def de_laws_toStateS (a0 : List ((List (ByteArray × ByteArray × Unit)) × Unit)) : Option ((((List ((List (ByteArray × ByteArray × Unit)) × Unit)) × Unit) × (Unit))) :=
  bif decide (nI (List.length a0) = nI (List.length a0)) then
    bif decide (Int.toNat (nI (List.length a0)) * 24 ≤ 140737488355328) then Option.bind ((fun d => lo_laws_toStateS_4 (fu_laws_toStateS_4 d.1 d.2.1 d.2.2.1) d.1 d.2.1 d.2.2.1) (a0, 0, List.replicate (Int.toNat (nI (List.length a0))) ([], ()), ())) fun val => some ((val.fst, ()), ())
    else none
  else none
theorem eq_laws_toStateS (a0 : List ((List (ByteArray × ByteArray × Unit)) × Unit)) r (h : m_laws_toStateS a0 = some r) : de_laws_toStateS a0 = some ((r, ()), (())) := by
  obtain ⟨hc, rfl⟩ := toM_some (t := .sl (.pair (.sl (.pair .str (.pair .str .unit))) .unit)) h
  obtain ⟨hl0, hall⟩ := smallB_sl hc
  have hl : a0.length ≤ 1048576 := hl0
  clear hl0 hc h
  · unfold de_laws_toStateS
    have e : Int.toNat (nI a0.length) = a0.length := by simp [nI]
    have hL := to_loop (xs := a0) ([], ()) (g := fun m i r => lo_laws_toStateS_4 m a0 i r) (ok := fun r => (r, ())) (fun m i r hi hr => by
      show lo_laws_toStateS_4 (m + 1) a0 i r = _
      simp only [lo_laws_toStateS_4, tr_laws_toStateS_4]
      have hir : i < r.length := by omega
      rw [cLt hi, cLe0, cLt hir, wI (by omega)]
      simp only [cond_true, Int.toNat_natCast]
      have ec : m_laws_toState (List.getD a0 i ([], ())) = some (List.getD a0 i ([], ())) := toM_is (t := (.pair (.sl (.pair .str (.pair .str .unit))) .unit)) (x := (List.getD a0 i ([], ()))) (hall _ (getD_mem _ hi))
      have ec : m_laws_toState ((List.getD a0 i ([], ())).fst, ()) = some (List.getD a0 i ([], ())) := ec
      rw [ec]
      simp only [Option.bind_some]
      rw [cLtN hir]
      rfl) (fun m r => by
      show lo_laws_toStateS_4 (m + 1) a0 a0.length r = _
      simp only [lo_laws_toStateS_4, tr_laws_toStateS_4]
      rw [cLtF]
      rfl) (fu_laws_toStateS_4 a0 0 (List.replicate a0.length ([], ()))) 0 (List.replicate a0.length ([], ())) (by omega) (by simp [fu_laws_toStateS_4]) (by simp)
    have c1 : decide (Int.toNat (nI a0.length) * 24 ≤ 140737488355328) = true := by rw [e]; simp; omega
    rw [c1, decide_eq_true rfl, e]
    have hL' : lo_laws_toStateS_4 (fu_laws_toStateS_4 a0 0 (List.replicate a0.length ([], ()))) a0 0 (List.replicate a0.length ([], ())) = _ := hL
    show (lo_laws_toStateS_4 (fu_laws_toStateS_4 a0 0 (List.replicate a0.length ([], ()))) a0 0 (List.replicate a0.length ([], ()))).bind _ = _
    rw [hL']
    rfl
noncomputable def ou_laws_toStateS_4 {R : Type} (k : Kt R) : ((List ((List (ByteArray × ByteArray × Unit)) × Unit)) × Unit) → Option R := (fun d => k (.exit 0) (((pa_laws_toStateS 4).2 2).st d) (((pa_laws_toStateS 4).2 2).nid))
noncomputable def L_laws_toStateS {R : Type} : Lt R pa_laws_toStateS := (addL (pat := pa_laws_toStateS) 4 (fun d k => (lo_laws_toStateS_4 (fu_laws_toStateS_4 d.1 d.2.1 d.2.2.1) d.1 d.2.1 d.2.2.1).bind (ou_laws_toStateS_4 k)) noL)
theorem rd_laws_toStateS_4 {R : Type} (nx : (pa_laws_toStateS 4).1.D → Kt R → Option R) (k : Kt R) (v0 : List ((List (ByteArray × ByteArray × Unit)) × Unit)) (v4 : Int) (r0 : List ((List (ByteArray × ByteArray × Unit)) × Unit)) : ev Try.prog ⟨ta_laws_toStateS, 0, 23, pa_laws_toStateS⟩ L_laws_toStateS co_laws_toStateS_4 ((pa_laws_toStateS 4).1.st (v0, v4, r0, ())) (pa_laws_toStateS 4).1.nid (roundK 0 (pa_laws_toStateS 4) nx k) = tr_laws_toStateS_4  (fun d => nx d k) (fun d => k (.exit 0) (((pa_laws_toStateS 4).2 2).st d) (((pa_laws_toStateS 4).2 2).nid)) v0 v4 r0 := by kernel_rfl
theorem lp_laws_toStateS_4 {R : Type} : ∀ (m : Nat) (d : (pa_laws_toStateS 4).1.D) (k : Kt R), loopN 0 (pa_laws_toStateS 4) (fun s nid k => ev Try.prog ⟨ta_laws_toStateS, 0, 23, pa_laws_toStateS⟩ L_laws_toStateS co_laws_toStateS_4 s nid k) m d k = (lo_laws_toStateS_4 m d.1 d.2.1 d.2.2.1).bind (ou_laws_toStateS_4 k)
  | 0, _, _ => rfl
  | m + 1, ⟨v0, v4, r0, ⟨⟩⟩, k => (rd_laws_toStateS_4 _ k v0 v4 r0).trans ((congrArg (fun F => tr_laws_toStateS_4  F (fun d => k (.exit 0) (((pa_laws_toStateS 4).2 2).st d) (((pa_laws_toStateS 4).2 2).nid)) v0 v4 r0) (funext fun d => lp_laws_toStateS_4 m d k)).trans (na_laws_toStateS_4 (f := ou_laws_toStateS_4 k)  (fun d => lo_laws_toStateS_4 m d.1 d.2.1 d.2.2.1) (fun d => some (d)) v0 v4 r0))
theorem en_laws_toStateS (a0 : List ((List (ByteArray × ByteArray × Unit)) × Unit)) : evalF Try.prog ta_laws_toStateS pa_laws_toStateS sg_laws_toStateS Try.f79 L_laws_toStateS (a0, ()) = de_laws_toStateS a0 := by kernel_rfl
theorem si_laws_toStateS : SigsOk Try.prog ta_laws_toStateS := SigsOk.of fun f sd h => by
  try dsimp only [Tb.of, ta_laws_toStateS] at h
  split at h
  · rename_i e; subst e; cases h; exact sn_laws_toState
  cases h
theorem lk_laws_toStateS_4 {R : Type} : LoopOk Try.prog R 23 0 pa_laws_toStateS L_laws_toStateS co_laws_toStateS_4 :=
  loop_key (cfg := ⟨ta_laws_toStateS, 0, 23, pa_laws_toStateS⟩) (key := 4) (by kernel_rfl) (by kernel_rfl) si_laws_toStateS rfl rfl (fun d k r h => ⟨fu_laws_toStateS_4 d.1 d.2.1 d.2.2.1, (lp_laws_toStateS_4 _ d k).trans h⟩) (fun c hc => by rw [show loopsIn co_laws_toStateS_4 = [] from by kernel_rfl] at hc; cases hc)
theorem sn_laws_toStateS : Callable Try.prog 79 ∧ Sound Try.prog 79 sd_laws_toStateS.sg sd_laws_toStateS.den :=
  fn_loops (pat := pa_laws_toStateS) L_laws_toStateS (by kernel_rfl) si_laws_toStateS Try.func79 (by kernel_rfl) (by kernel_rfl) (fun c hc => by rw [show loopsIn (bodyOf Try.f79) = [co_laws_toStateS_4] from by kernel_rfl] at hc; simp only [List.mem_cons, List.not_mem_nil, or_false] at hc; rcases hc with rfl <;> first | exact lk_laws_toStateS_4) fun x r h => by
    obtain ⟨a0, ⟨⟩⟩ := x; obtain ⟨y, h1, h2⟩ := Option.bind_eq_some_iff.1 (show (m_laws_toStateS a0).bind (fun r => some ((r, ()), (()))) = some r from h); cases h2; exact (en_laws_toStateS a0).trans (eq_laws_toStateS a0 _ h1)
def m_laws_toWorld (a : Int × ((List ByteArray) × (List (Int × ByteArray × Unit)) × Unit) × Bool × (Int × Int × Int × (Int × Int × Int × Int × Unit) × Int × Int × ((List (ByteArray × ByteArray × Unit)) × Unit) × Unit) × (List ((List (ByteArray × ByteArray × Unit)) × Unit)) × (List ByteArray) × Unit) : Option (Int × ((List ByteArray) × (List (Int × ByteArray × Unit)) × Unit) × Bool × (Int × Int × Int × (Int × Int × Int × Int × Unit) × Int × Int × ((List (ByteArray × ByteArray × Unit)) × Unit) × Unit) × (List ((List (ByteArray × ByteArray × Unit)) × Unit)) × (List ByteArray) × Unit) := toM (.pair (.int .i64) (.pair (.pair (.sl .str) (.pair (.sl (.pair (.int .i64) (.pair .str .unit))) .unit)) (.pair .bool (.pair (.pair (.int .i64) (.pair (.int .i64) (.pair (.int .i64) (.pair (.pair (.int .i64) (.pair (.int .i64) (.pair (.int .i64) (.pair (.int .i64) .unit)))) (.pair (.int .i64) (.pair (.int .i64) (.pair (.pair (.sl (.pair .str (.pair .str .unit))) .unit) .unit))))))) (.pair (.sl (.pair (.sl (.pair .str (.pair .str .unit))) .unit)) (.pair (.sl .str) .unit)))))) a
def sg_laws_toWorld : Sig := ⟨[.rd (.pair (.int .i64) (.pair (.pair (.sl .str) (.pair (.sl (.pair (.int .i64) (.pair .str .unit))) .unit)) (.pair .bool (.pair (.pair (.int .i64) (.pair (.int .i64) (.pair (.int .i64) (.pair (.pair (.int .i64) (.pair (.int .i64) (.pair (.int .i64) (.pair (.int .i64) .unit)))) (.pair (.int .i64) (.pair (.int .i64) (.pair (.pair (.sl (.pair .str (.pair .str .unit))) .unit) .unit))))))) (.pair (.sl (.pair (.sl (.pair .str (.pair .str .unit))) .unit)) (.pair (.sl .str) .unit))))))], [some 16], [.rd (.int .i64), .own 9 .str, .own 115 (.pair (.int .i64) (.pair .str .unit)), .rd .bool, .rd (.int .i64), .rd (.int .i64), .rd (.int .i64), .rd (.int .i64), .rd (.int .i64), .rd (.int .i64), .rd (.int .i64), .rd (.int .i64), .rd (.int .i64), .own 151 (.pair .str (.pair .str .unit)), .rd (.sl (.pair (.sl (.pair .str (.pair .str .unit))) .unit)), .own 9 .str], [some 16]⟩
noncomputable def sd_laws_toWorld : SD := ⟨sg_laws_toWorld, fun x => (m_laws_toWorld x.1).bind fun r => some ((r.1, r.2.1.1, r.2.1.2.1, r.2.2.1, r.2.2.2.1.1, r.2.2.2.1.2.1, r.2.2.2.1.2.2.1, r.2.2.2.1.2.2.2.1.1, r.2.2.2.1.2.2.2.1.2.1, r.2.2.2.1.2.2.2.1.2.2.1, r.2.2.2.1.2.2.2.1.2.2.2.1, r.2.2.2.1.2.2.2.2.1, r.2.2.2.1.2.2.2.2.2.1, r.2.2.2.1.2.2.2.2.2.2.1.1, r.2.2.2.2.1, r.2.2.2.2.2.1, ()), (()))⟩
noncomputable def ta_laws_toWorld : Tb := Tb.of fun f => if f = 10 then some sd_laws_toStore else if f = 78 then some sd_laws_toDisk else if f = 79 then some sd_laws_toStateS else if f = 80 then some sd_laws_toStringS else none
def pa_laws_toWorld : Nat → Pat × (Nat → Pat) := fun k => (⟨[], [], []⟩, fun _ => ⟨[], [], []⟩)
noncomputable def de_laws_toWorld (a0 : Int × ((List ByteArray) × (List (Int × ByteArray × Unit)) × Unit) × Bool × (Int × Int × Int × (Int × Int × Int × Int × Unit) × Int × Int × ((List (ByteArray × ByteArray × Unit)) × Unit) × Unit) × (List ((List (ByteArray × ByteArray × Unit)) × Unit)) × (List ByteArray) × Unit) : Option ((((Int) × (List ByteArray) × (List (Int × ByteArray × Unit)) × (Bool) × (Int) × (Int) × (Int) × (Int) × (Int) × (Int) × (Int) × (Int) × (Int) × (List (ByteArray × ByteArray × Unit)) × (List ((List (ByteArray × ByteArray × Unit)) × Unit)) × (List ByteArray) × Unit) × (Unit))) :=
  Option.bind (Option.bind (m_laws_toDisk (a0.snd.fst.fst, a0.snd.fst.snd.fst, ())) fun val => some ((val.fst, val.snd.fst, ()), ())) fun val =>
    Option.bind
      (Option.bind
        (m_laws_toStore
          (a0.snd.snd.snd.fst.fst, a0.snd.snd.snd.fst.snd.fst, a0.snd.snd.snd.fst.snd.snd.fst,
            (a0.snd.snd.snd.fst.snd.snd.snd.fst.fst, a0.snd.snd.snd.fst.snd.snd.snd.fst.snd.fst, a0.snd.snd.snd.fst.snd.snd.snd.fst.snd.snd.fst, a0.snd.snd.snd.fst.snd.snd.snd.fst.snd.snd.snd.fst, ()),
            a0.snd.snd.snd.fst.snd.snd.snd.snd.fst, a0.snd.snd.snd.fst.snd.snd.snd.snd.snd.fst, (a0.snd.snd.snd.fst.snd.snd.snd.snd.snd.snd.fst.fst, ()), ()))
        fun val =>
        some
          ((val.fst, val.snd.fst, val.snd.snd.fst, val.snd.snd.snd.fst.fst, val.snd.snd.snd.fst.snd.fst, val.snd.snd.snd.fst.snd.snd.fst, val.snd.snd.snd.fst.snd.snd.snd.fst, val.snd.snd.snd.snd.fst,
              val.snd.snd.snd.snd.snd.fst, val.snd.snd.snd.snd.snd.snd.fst.fst, ()),
            ()))
      fun val_1 =>
      Option.bind (Option.bind (m_laws_toStateS a0.snd.snd.snd.snd.fst) fun val => some ((val, ()), ())) fun val_2 =>
        Option.bind (Option.bind (m_laws_toStringS a0.snd.snd.snd.snd.snd.fst) fun val => some ((val, ()), ())) fun val_3 =>
          some
            ((a0.fst, val.fst.fst, val.fst.snd.fst, a0.snd.snd.fst, val_1.fst.fst, val_1.fst.snd.fst, val_1.fst.snd.snd.fst, val_1.fst.snd.snd.snd.fst, val_1.fst.snd.snd.snd.snd.fst,
                val_1.fst.snd.snd.snd.snd.snd.fst, val_1.fst.snd.snd.snd.snd.snd.snd.fst, val_1.fst.snd.snd.snd.snd.snd.snd.snd.fst, val_1.fst.snd.snd.snd.snd.snd.snd.snd.snd.fst,
                val_1.fst.snd.snd.snd.snd.snd.snd.snd.snd.snd.fst, val_2.fst.fst, val_3.fst.fst, ()),
              ())
theorem eq_laws_toWorld (a0 : Int × ((List ByteArray) × (List (Int × ByteArray × Unit)) × Unit) × Bool × (Int × Int × Int × (Int × Int × Int × Int × Unit) × Int × Int × ((List (ByteArray × ByteArray × Unit)) × Unit) × Unit) × (List ((List (ByteArray × ByteArray × Unit)) × Unit)) × (List ByteArray) × Unit) r (h : m_laws_toWorld a0 = some r) : de_laws_toWorld a0 = some ((r.1, r.2.1.1, r.2.1.2.1, r.2.2.1, r.2.2.2.1.1, r.2.2.2.1.2.1, r.2.2.2.1.2.2.1, r.2.2.2.1.2.2.2.1.1, r.2.2.2.1.2.2.2.1.2.1, r.2.2.2.1.2.2.2.1.2.2.1, r.2.2.2.1.2.2.2.1.2.2.2.1, r.2.2.2.1.2.2.2.2.1, r.2.2.2.1.2.2.2.2.2.1, r.2.2.2.1.2.2.2.2.2.2.1.1, r.2.2.2.2.1, r.2.2.2.2.2.1, ()), (())) := by
  obtain ⟨hc, rfl⟩ := toM_some (t := (.pair (.int .i64) (.pair (.pair (.sl .str) (.pair (.sl (.pair (.int .i64) (.pair .str .unit))) .unit)) (.pair .bool (.pair (.pair (.int .i64) (.pair (.int .i64) (.pair (.int .i64) (.pair (.pair (.int .i64) (.pair (.int .i64) (.pair (.int .i64) (.pair (.int .i64) .unit)))) (.pair (.int .i64) (.pair (.int .i64) (.pair (.pair (.sl (.pair .str (.pair .str .unit))) .unit) .unit))))))) (.pair (.sl (.pair (.sl (.pair .str (.pair .str .unit))) .unit)) (.pair (.sl .str) .unit))))))) h
  · obtain ⟨s0, s1, s2, s3, s4, s5, _⟩ : smallB (.int .i64) a0.1 = true ∧ smallB (.pair (.sl .str) (.pair (.sl (.pair (.int .i64) (.pair .str .unit))) .unit)) a0.2.1 = true ∧ smallB .bool a0.2.2.1 = true ∧ smallB (.pair (.int .i64) (.pair (.int .i64) (.pair (.int .i64) (.pair (.pair (.int .i64) (.pair (.int .i64) (.pair (.int .i64) (.pair (.int .i64) .unit)))) (.pair (.int .i64) (.pair (.int .i64) (.pair (.pair (.sl (.pair .str (.pair .str .unit))) .unit) .unit))))))) a0.2.2.2.1 = true ∧ smallB (.sl (.pair (.sl (.pair .str (.pair .str .unit))) .unit)) a0.2.2.2.2.1 = true ∧ smallB (.sl .str) a0.2.2.2.2.2.1 = true ∧ True := by
      have s := hc
      obtain ⟨h0, s⟩ := smallB_pair s
      obtain ⟨h1, s⟩ := smallB_pair s
      obtain ⟨h2, s⟩ := smallB_pair s
      obtain ⟨h3, s⟩ := smallB_pair s
      obtain ⟨h4, s⟩ := smallB_pair s
      obtain ⟨h5, s⟩ := smallB_pair s
      exact ⟨h0, h1, h2, h3, h4, h5, trivial⟩
    unfold de_laws_toWorld
    have e1 : m_laws_toDisk a0.2.1 = some a0.2.1 := toM_is (t := (.pair (.sl .str) (.pair (.sl (.pair (.int .i64) (.pair .str .unit))) .unit))) s1
    have e3 : m_laws_toStore a0.2.2.2.1 = some a0.2.2.2.1 := toM_is (t := (.pair (.int .i64) (.pair (.int .i64) (.pair (.int .i64) (.pair (.pair (.int .i64) (.pair (.int .i64) (.pair (.int .i64) (.pair (.int .i64) .unit)))) (.pair (.int .i64) (.pair (.int .i64) (.pair (.pair (.sl (.pair .str (.pair .str .unit))) .unit) .unit)))))))) s3
    have e4 : m_laws_toStateS a0.2.2.2.2.1 = some a0.2.2.2.2.1 := toM_is (t := (.sl (.pair (.sl (.pair .str (.pair .str .unit))) .unit))) s4
    have e5 : m_laws_toStringS a0.2.2.2.2.2.1 = some a0.2.2.2.2.2.1 := toM_is (t := (.sl .str)) s5
    simp only [e1, e3, e4, e5]
    rfl
theorem en_laws_toWorld (a0 : Int × ((List ByteArray) × (List (Int × ByteArray × Unit)) × Unit) × Bool × (Int × Int × Int × (Int × Int × Int × Int × Unit) × Int × Int × ((List (ByteArray × ByteArray × Unit)) × Unit) × Unit) × (List ((List (ByteArray × ByteArray × Unit)) × Unit)) × (List ByteArray) × Unit) : evalF Try.prog ta_laws_toWorld pa_laws_toWorld sg_laws_toWorld Try.f27 noL (a0, ()) = de_laws_toWorld a0 := by kernel_rfl
theorem si_laws_toWorld : SigsOk Try.prog ta_laws_toWorld := SigsOk.of fun f sd h => by
  try dsimp only [Tb.of, ta_laws_toWorld] at h
  split at h
  · rename_i e; subst e; cases h; exact sn_laws_toStore
  split at h
  · rename_i e; subst e; cases h; exact sn_laws_toDisk
  split at h
  · rename_i e; subst e; cases h; exact sn_laws_toStateS
  split at h
  · rename_i e; subst e; cases h; exact sn_laws_toStringS
  cases h
theorem sn_laws_toWorld : Callable Try.prog 27 ∧ Sound Try.prog 27 sd_laws_toWorld.sg sd_laws_toWorld.den :=
  fn_plain (pat := pa_laws_toWorld) (by kernel_rfl) si_laws_toWorld Try.func27 (by kernel_rfl) (by kernel_rfl) (by kernel_rfl) fun x r h => by
    obtain ⟨a0, ⟨⟩⟩ := x; obtain ⟨y, h1, h2⟩ := Option.bind_eq_some_iff.1 (show (m_laws_toWorld a0).bind (fun r => some ((r.1, r.2.1.1, r.2.1.2.1, r.2.2.1, r.2.2.2.1.1, r.2.2.2.1.2.1, r.2.2.2.1.2.2.1, r.2.2.2.1.2.2.2.1.1, r.2.2.2.1.2.2.2.1.2.1, r.2.2.2.1.2.2.2.1.2.2.1, r.2.2.2.1.2.2.2.1.2.2.2.1, r.2.2.2.1.2.2.2.2.1, r.2.2.2.1.2.2.2.2.2.1, r.2.2.2.1.2.2.2.2.2.2.1.1, r.2.2.2.2.1, r.2.2.2.2.2.1, ()), (()))) = some r from h); cases h2; exact (en_laws_toWorld a0).trans (eq_laws_toWorld a0 _ h1)
def m_impl_in (v lo hi : Int) : Bool := inB v lo hi
def sg_impl_in : Sig := ⟨[.rd (.int .i64), .rd (.int .i64), .rd (.int .i64)], [none, none, none], [.rd .bool], [none]⟩
noncomputable def sd_impl_in : SD := ⟨sg_impl_in, fun x => some (((m_impl_in x.1 x.2.1 x.2.2.1), ()), (()))⟩
noncomputable def ta_impl_in : Tb := Tb.of fun f => none
def pa_impl_in : Nat → Pat × (Nat → Pat) := fun k => (⟨[], [], []⟩, fun _ => ⟨[], [], []⟩)
noncomputable def de_impl_in (a0 : Int) (a1 : Int) (a2 : Int) : Option ((((Bool) × Unit) × (Unit))) :=
  bif decide (a0 ≥ a1) then some ((decide (a0 ≤ a2), ()), ()) else some ((false, ()), ())
theorem eq_impl_in (a0 a1 a2 : Int) : de_impl_in a0 a1 a2 = some ((m_impl_in a0 a1 a2, ()), ()) := by
  unfold de_impl_in m_impl_in inB
  by_cases h : a0 ≥ a1
  · have : decide (a1 ≤ a0) = true := by simpa using h
    simp [h, this]
  · have : decide (a1 ≤ a0) = false := by simpa using h
    simp [h, this]
theorem en_impl_in (a0 : Int) (a1 : Int) (a2 : Int) : evalF Try.prog ta_impl_in pa_impl_in sg_impl_in Try.f67 noL (a0, a1, a2, ()) = de_impl_in a0 a1 a2 := by kernel_rfl
theorem si_impl_in : SigsOk Try.prog ta_impl_in := SigsOk.of fun f sd h => by
  try dsimp only [Tb.of, ta_impl_in] at h
  cases h
theorem sn_impl_in : Callable Try.prog 67 ∧ Sound Try.prog 67 sd_impl_in.sg sd_impl_in.den :=
  fn_plain (pat := pa_impl_in) (by kernel_rfl) si_impl_in Try.func67 (by kernel_rfl) (by kernel_rfl) (by kernel_rfl) fun x r h => by
    obtain ⟨a0, a1, a2, ⟨⟩⟩ := x; rw [← h]; exact (en_impl_in a0 a1 a2).trans (eq_impl_in a0 a1 a2)
def m_impl_ValidDisk (d : Dk) : Bool := validDisk d
def sg_impl_ValidDisk : Sig := ⟨[.rd (.pair (.sl .str) (.pair (.sl (.pair (.int .i64) (.pair .str .unit))) .unit))], [some 2], [.rd .bool], [none]⟩
noncomputable def sd_impl_ValidDisk : SD := ⟨sg_impl_ValidDisk, fun x => some (((m_impl_ValidDisk x.1), ()), (()))⟩
noncomputable def ta_impl_ValidDisk : Tb := Tb.of fun f => if f = 67 then some sd_impl_in else none
def pa_impl_ValidDisk : Nat → Pat × (Nat → Pat) := fun k => if k = 5 then (⟨[.sl 19 0 .str, .boxSl 1 0 .str, .boxSl 1 1 (.pair (.int .i64) (.pair .str .unit))], [(1, .lf (.ptr 0 0)), (19, .lf (.d (.sl .str))), (20, .lf (.d (.int .i64))), (21, .lf (.d (.int .i64)))], [.box 50 [.d (.sl .str), .d (.sl (.pair (.int .i64) (.pair .str .unit)))]]⟩, fun e => if e = 1 then ⟨[], [(2, .lf (.d .bool))], []⟩ else if e = 2 then ⟨[.boxSl 1 0 .str, .boxSl 1 1 (.pair (.int .i64) (.pair .str .unit))], [(1, .lf (.ptr 0 0))], [.box 50 [.d (.sl .str), .d (.sl (.pair (.int .i64) (.pair .str .unit)))]]⟩ else ⟨[], [], []⟩) else if k = 11 then (⟨[.sl 30 0 (.pair (.int .i64) (.pair .str .unit)), .boxSl 1 0 .str, .boxSl 1 1 (.pair (.int .i64) (.pair .str .unit))], [(1, .lf (.ptr 0 0)), (30, .lf (.d (.sl (.pair (.int .i64) (.pair .str .unit))))), (31, .lf (.d (.int .i64))), (32, .lf (.d (.int .i64)))], [.box 50 [.d (.sl .str), .d (.sl (.pair (.int .i64) (.pair .str .unit)))]]⟩, fun e => if e = 1 then ⟨[], [(2, .lf (.d .bool))], []⟩ else if e = 4 then ⟨[], [], []⟩ else ⟨[], [], []⟩) else (⟨[], [], []⟩, fun _ => ⟨[], [], []⟩)
noncomputable def co_impl_ValidDisk_5 : Code := (loopsIn (bodyOf Try.f22)).getD 0 .skip
noncomputable def co_impl_ValidDisk_11 : Code := (loopsIn (bodyOf Try.f22)).getD 1 .skip
def fu_impl_ValidDisk_11 (v30 : List (Int × ByteArray × Unit)) (v31 : Int) (v32 : Int) (b0_0 : List ByteArray) (b0_1 : List (Int × ByteArray × Unit)) : Nat := (v31 - v32).toNat + 1
noncomputable def tr_impl_ValidDisk_11 {R : Type}  (NX : ((List (Int × ByteArray × Unit)) × (Int) × (Int) × (List ByteArray) × (List (Int × ByteArray × Unit)) × Unit) → Option R) (X4 : (Unit) → Option R) (X1 : ((Bool) × Unit) → Option R) (v30 : List (Int × ByteArray × Unit)) (v31 : Int) (v32 : Int) (b0_0 : List ByteArray) (b0_1 : List (Int × ByteArray × Unit)) : Option R :=
  bif decide (v32 < v31) then
    bif decide (0 ≤ v32) then
      bif decide (v32 < nI (List.length v30)) then
        bif !m_impl_in (List.getD v30 (Int.toNat v32) (0, ByteArray.mk #[], ())).fst 0 (IntKind.wrap IntKind.i64 (nI (List.length b0_0) - 1)) then X1 (false, ())
        else bif nI (ByteArray.size (List.getD v30 (Int.toNat v32) (0, ByteArray.mk #[], ())).snd.fst) != 64 then X1 (false, ()) else NX (v30, v31, IntKind.wrap IntKind.i64 (v32 + 1), b0_0, b0_1, ())
      else none
    else none
  else X4 PUnit.unit
noncomputable def lo_impl_ValidDisk_11 : Nat → (List (Int × ByteArray × Unit)) → (Int) → (Int) → (List ByteArray) → (List (Int × ByteArray × Unit)) →  Option ((Unit) ⊕ ((Bool) × Unit))
  | 0, _, _, _, _, _ => none
  | m + 1, v30, v31, v32, b0_0, b0_1 => tr_impl_ValidDisk_11  (fun d => lo_impl_ValidDisk_11 m d.1 d.2.1 d.2.2.1 d.2.2.2.1 d.2.2.2.2.1) (fun d => some (.inl (d))) (fun d => some (.inr (d))) v30 v31 v32 b0_0 b0_1
theorem na_impl_ValidDisk_11 {R S : Type}  (NX : ((List (Int × ByteArray × Unit)) × (Int) × (Int) × (List ByteArray) × (List (Int × ByteArray × Unit)) × Unit) → Option R) (X4 : (Unit) → Option R) (X1 : ((Bool) × Unit) → Option R) (v30 : List (Int × ByteArray × Unit)) (v31 : Int) (v32 : Int) (b0_0 : List ByteArray) (b0_1 : List (Int × ByteArray × Unit)) (f : R → Option S) : tr_impl_ValidDisk_11  (fun d => (NX d).bind f) (fun d => (X4 d).bind f) (fun d => (X1 d).bind f) v30 v31 v32 b0_0 b0_1 = (tr_impl_ValidDisk_11  NX X4 X1 v30 v31 v32 b0_0 b0_1).bind f := by
  unfold tr_impl_ValidDisk_11
  simp only [cond_bind, ite_bind, onSum_bind, Option.bind_assoc, Option.bind_none, Option.bind_some]
def fu_impl_ValidDisk_5 (v19 : List ByteArray) (v20 : Int) (v21 : Int) (b0_0 : List ByteArray) (b0_1 : List (Int × ByteArray × Unit)) : Nat := (v20 - v21).toNat + 1
noncomputable def tr_impl_ValidDisk_5 {R : Type}  (NX : ((List ByteArray) × (Int) × (Int) × (List ByteArray) × (List (Int × ByteArray × Unit)) × Unit) → Option R) (X2 : ((List ByteArray) × (List (Int × ByteArray × Unit)) × Unit) → Option R) (X1 : ((Bool) × Unit) → Option R) (v19 : List ByteArray) (v20 : Int) (v21 : Int) (b0_0 : List ByteArray) (b0_1 : List (Int × ByteArray × Unit)) : Option R :=
  bif decide (v21 < v20) then
    bif decide (0 ≤ v21) then
      bif decide (v21 < nI (List.length v19)) then
        bif nI (ByteArray.size (List.getD v19 (Int.toNat v21) (ByteArray.mk #[]))) != 64 then X1 (false, ()) else NX (v19, v20, IntKind.wrap IntKind.i64 (v21 + 1), b0_0, b0_1, ())
      else none
    else none
  else X2 (b0_0, b0_1, ())
noncomputable def lo_impl_ValidDisk_5 : Nat → (List ByteArray) → (Int) → (Int) → (List ByteArray) → (List (Int × ByteArray × Unit)) →  Option (((List ByteArray) × (List (Int × ByteArray × Unit)) × Unit) ⊕ ((Bool) × Unit))
  | 0, _, _, _, _, _ => none
  | m + 1, v19, v20, v21, b0_0, b0_1 => tr_impl_ValidDisk_5  (fun d => lo_impl_ValidDisk_5 m d.1 d.2.1 d.2.2.1 d.2.2.2.1 d.2.2.2.2.1) (fun d => some (.inl (d))) (fun d => some (.inr (d))) v19 v20 v21 b0_0 b0_1
theorem na_impl_ValidDisk_5 {R S : Type}  (NX : ((List ByteArray) × (Int) × (Int) × (List ByteArray) × (List (Int × ByteArray × Unit)) × Unit) → Option R) (X2 : ((List ByteArray) × (List (Int × ByteArray × Unit)) × Unit) → Option R) (X1 : ((Bool) × Unit) → Option R) (v19 : List ByteArray) (v20 : Int) (v21 : Int) (b0_0 : List ByteArray) (b0_1 : List (Int × ByteArray × Unit)) (f : R → Option S) : tr_impl_ValidDisk_5  (fun d => (NX d).bind f) (fun d => (X2 d).bind f) (fun d => (X1 d).bind f) v19 v20 v21 b0_0 b0_1 = (tr_impl_ValidDisk_5  NX X2 X1 v19 v20 v21 b0_0 b0_1).bind f := by
  unfold tr_impl_ValidDisk_5
  simp only [cond_bind, ite_bind, onSum_bind, Option.bind_assoc, Option.bind_none, Option.bind_some]
noncomputable def de_impl_ValidDisk (a0 : (List ByteArray) × (List (Int × ByteArray × Unit)) × Unit) : Option ((((Bool) × Unit) × (Unit))) :=
  bif !m_impl_in (nI (List.length a0.fst)) 8 200 then some ((false, ()), ())
  else
    bif decide (nI (List.length a0.snd.fst) > 300) then some ((false, ()), ())
    else
      Option.bind ((fun d => lo_impl_ValidDisk_5 (fu_impl_ValidDisk_5 d.1 d.2.1 d.2.2.1 d.2.2.2.1 d.2.2.2.2.1) d.1 d.2.1 d.2.2.1 d.2.2.2.1 d.2.2.2.2.1) (a0.fst, nI (List.length a0.fst), 0, a0.fst, a0.snd.fst, ())) fun val =>
        onSum
          (fun val =>
            Option.bind ((fun d => lo_impl_ValidDisk_11 (fu_impl_ValidDisk_11 d.1 d.2.1 d.2.2.1 d.2.2.2.1 d.2.2.2.2.1) d.1 d.2.1 d.2.2.1 d.2.2.2.1 d.2.2.2.2.1) (val.snd.fst, nI (List.length val.snd.fst), 0, val.fst, val.snd.fst, ())) fun val => onSum (fun val => some ((true, ()), ())) (fun val => some ((val.fst, ()), ())) val)
          (fun val => some ((val.fst, ()), ())) val
theorem eq_impl_ValidDisk (a0 : Dk) : de_impl_ValidDisk a0 = some ((m_impl_ValidDisk a0, ()), ()) := by
  unfold de_impl_ValidDisk m_impl_ValidDisk validDisk
  have c1 : decide (nI a0.2.1.length > 300) = !decide (a0.2.1.length ≤ 300) := gt100 _ 300
  rw [c1]
  show (bif !inB (a0.1.length : Int) 8 200 then _ else _) = _
  cases hin : inB (a0.1.length : Int) 8 200 with
  | false => rfl
  | true =>
    have hlen : a0.1.length ≤ 200 := by have := of_decide_eq_true (and2 hin).2; omega
    by_cases hp : a0.2.1.length ≤ 300
    · rw [decide_eq_true hp]
      have hL := all_loop (n := a0.1.length) (fun i => decide ((a0.1.getD i z0).size = 64)) (g := fun m i => lo_impl_ValidDisk_5 m a0.1 (nI a0.1.length) i a0.1 a0.2.1) (ok := .inl (a0.1, a0.2.1, ())) (bad := .inr (false, ())) (fun m i hi => by
        show lo_impl_ValidDisk_5 (m + 1) a0.1 (nI a0.1.length) i a0.1 a0.2.1 = _
        simp only [lo_impl_ValidDisk_5, tr_impl_ValidDisk_5]
        have g1 : (nI (ByteArray.size (List.getD a0.1 i (ByteArray.mk #[]))) != 64) = !decide ((a0.1.getD i z0).size = 64) := ne64 _ 64
        rw [cLt hi, cLe0, wI (show i < 4611686018427387904 by omega), Int.toNat_natCast, g1]
        cases decide ((a0.1.getD i z0).size = 64) <;> rfl) (fun m => by
        show lo_impl_ValidDisk_5 (m + 1) a0.1 (nI a0.1.length) (a0.1.length : Int) a0.1 a0.2.1 = _
        simp only [lo_impl_ValidDisk_5, tr_impl_ValidDisk_5]
        rw [cLtF]
        rfl) (fu_impl_ValidDisk_5 a0.1 (nI a0.1.length) 0 a0.1 a0.2.1) 0 (by omega) (by simp [fu_impl_ValidDisk_5, nI])
      have hL' : lo_impl_ValidDisk_5 (fu_impl_ValidDisk_5 a0.1 (nI a0.1.length) 0 a0.1 a0.2.1) a0.1 (nI a0.1.length) 0 a0.1 a0.2.1 = _ := hL
      have hM := all_loop (n := a0.2.1.length) (fun i => okWr a0.1.length (a0.2.1.getD i zW)) (g := fun m i => lo_impl_ValidDisk_11 m a0.2.1 (nI a0.2.1.length) i a0.1 a0.2.1) (ok := .inl ()) (bad := .inr (false, ())) (fun m i hi => by
        show lo_impl_ValidDisk_11 (m + 1) a0.2.1 (nI a0.2.1.length) i a0.1 a0.2.1 = _
        simp only [lo_impl_ValidDisk_11, tr_impl_ValidDisk_11]
        have g1 : (nI (ByteArray.size (List.getD a0.2.1 i (0, ByteArray.mk #[], ())).2.1) != 64) = !decide ((a0.2.1.getD i zW).2.1.size = 64) := ne64 _ 64
        have hw : IntKind.wrap IntKind.i64 (nI a0.1.length - 1) = (a0.1.length : Int) - 1 := wrap_ok (by simp only [nI]; omega) (by simp only [nI]; omega)
        rw [cLt hi, cLe0, wI (show i < 4611686018427387904 by omega), Int.toNat_natCast, g1, hw]
        have g2 : m_impl_in (List.getD a0.2.1 i (0, ByteArray.mk #[], ())).1 0 ((a0.1.length : Int) - 1) = (decide (0 ≤ (a0.2.1.getD i zW).1) && decide ((a0.2.1.getD i zW).1 < (a0.1.length : Int))) := by
          show (decide (0 ≤ (a0.2.1.getD i zW).1) && decide ((a0.2.1.getD i zW).1 ≤ (a0.1.length : Int) - 1)) = _
          congr 1
          exact decide_eq_decide.2 (by omega)
        rw [g2]
        unfold okWr
        cases decide (0 ≤ (a0.2.1.getD i zW).1) <;> cases decide ((a0.2.1.getD i zW).1 < (a0.1.length : Int)) <;> cases decide ((a0.2.1.getD i zW).2.1.size = 64) <;> rfl) (fun m => by
        show lo_impl_ValidDisk_11 (m + 1) a0.2.1 (nI a0.2.1.length) (a0.2.1.length : Int) a0.1 a0.2.1 = _
        simp only [lo_impl_ValidDisk_11, tr_impl_ValidDisk_11]
        rw [cLtF]
        rfl) (fu_impl_ValidDisk_11 a0.2.1 (nI a0.2.1.length) 0 a0.1 a0.2.1) 0 (by omega) (by simp [fu_impl_ValidDisk_11, nI])
      have hM' : lo_impl_ValidDisk_11 (fu_impl_ValidDisk_11 a0.2.1 (nI a0.2.1.length) 0 a0.1 a0.2.1) a0.2.1 (nI a0.2.1.length) 0 a0.1 a0.2.1 = _ := hM
      show (lo_impl_ValidDisk_5 (fu_impl_ValidDisk_5 a0.1 (nI a0.1.length) 0 a0.1 a0.2.1) a0.1 (nI a0.1.length) 0 a0.1 a0.2.1).bind _ = _
      rw [hL']
      rw [Nat.sub_zero] at hM' ⊢
      cases (List.range' 0 a0.1.length).all (fun i => decide ((a0.1.getD i z0).size = 64)) with
      | false => rfl
      | true =>
        show (lo_impl_ValidDisk_11 (fu_impl_ValidDisk_11 a0.2.1 (nI a0.2.1.length) 0 a0.1 a0.2.1) a0.2.1 (nI a0.2.1.length) 0 a0.1 a0.2.1).bind _ = _
        rw [hM']
        cases (List.range' 0 a0.2.1.length).all (fun i => okWr a0.1.length (a0.2.1.getD i zW)) <;> rfl
    · rw [decide_eq_false hp]
      rfl
noncomputable def ou_impl_ValidDisk_5 {R : Type} (k : Kt R) : (((List ByteArray) × (List (Int × ByteArray × Unit)) × Unit) ⊕ ((Bool) × Unit)) → Option R := (onSum (fun d => k (.exit 0) (((pa_impl_ValidDisk 5).2 2).st d) (((pa_impl_ValidDisk 5).2 2).nid)) (fun d => k .ret (((pa_impl_ValidDisk 5).2 1).st d) (((pa_impl_ValidDisk 5).2 1).nid)))
noncomputable def ou_impl_ValidDisk_11 {R : Type} (k : Kt R) : ((Unit) ⊕ ((Bool) × Unit)) → Option R := (onSum (fun d => k (.exit 2) (((pa_impl_ValidDisk 11).2 4).st d) (((pa_impl_ValidDisk 11).2 4).nid)) (fun d => k .ret (((pa_impl_ValidDisk 11).2 1).st d) (((pa_impl_ValidDisk 11).2 1).nid)))
noncomputable def L_impl_ValidDisk {R : Type} : Lt R pa_impl_ValidDisk := (addL (pat := pa_impl_ValidDisk) 5 (fun d k => (lo_impl_ValidDisk_5 (fu_impl_ValidDisk_5 d.1 d.2.1 d.2.2.1 d.2.2.2.1 d.2.2.2.2.1) d.1 d.2.1 d.2.2.1 d.2.2.2.1 d.2.2.2.2.1).bind (ou_impl_ValidDisk_5 k)) (addL (pat := pa_impl_ValidDisk) 11 (fun d k => (lo_impl_ValidDisk_11 (fu_impl_ValidDisk_11 d.1 d.2.1 d.2.2.1 d.2.2.2.1 d.2.2.2.2.1) d.1 d.2.1 d.2.2.1 d.2.2.2.1 d.2.2.2.2.1).bind (ou_impl_ValidDisk_11 k)) noL))
theorem rd_impl_ValidDisk_11 {R : Type} (nx : (pa_impl_ValidDisk 11).1.D → Kt R → Option R) (k : Kt R) (v30 : List (Int × ByteArray × Unit)) (v31 : Int) (v32 : Int) (b0_0 : List ByteArray) (b0_1 : List (Int × ByteArray × Unit)) : ev Try.prog ⟨ta_impl_ValidDisk, 0, 51, pa_impl_ValidDisk⟩ L_impl_ValidDisk co_impl_ValidDisk_11 ((pa_impl_ValidDisk 11).1.st (v30, v31, v32, b0_0, b0_1, ())) (pa_impl_ValidDisk 11).1.nid (roundK 0 (pa_impl_ValidDisk 11) nx k) = tr_impl_ValidDisk_11  (fun d => nx d k) (fun d => k (.exit 2) (((pa_impl_ValidDisk 11).2 4).st d) (((pa_impl_ValidDisk 11).2 4).nid)) (fun d => k .ret (((pa_impl_ValidDisk 11).2 1).st d) (((pa_impl_ValidDisk 11).2 1).nid)) v30 v31 v32 b0_0 b0_1 := by kernel_rfl
theorem lp_impl_ValidDisk_11 {R : Type} : ∀ (m : Nat) (d : (pa_impl_ValidDisk 11).1.D) (k : Kt R), loopN 0 (pa_impl_ValidDisk 11) (fun s nid k => ev Try.prog ⟨ta_impl_ValidDisk, 0, 51, pa_impl_ValidDisk⟩ L_impl_ValidDisk co_impl_ValidDisk_11 s nid k) m d k = (lo_impl_ValidDisk_11 m d.1 d.2.1 d.2.2.1 d.2.2.2.1 d.2.2.2.2.1).bind (ou_impl_ValidDisk_11 k)
  | 0, _, _ => rfl
  | m + 1, ⟨v30, v31, v32, b0_0, b0_1, ⟨⟩⟩, k => (rd_impl_ValidDisk_11 _ k v30 v31 v32 b0_0 b0_1).trans ((congrArg (fun F => tr_impl_ValidDisk_11  F (fun d => k (.exit 2) (((pa_impl_ValidDisk 11).2 4).st d) (((pa_impl_ValidDisk 11).2 4).nid)) (fun d => k .ret (((pa_impl_ValidDisk 11).2 1).st d) (((pa_impl_ValidDisk 11).2 1).nid)) v30 v31 v32 b0_0 b0_1) (funext fun d => lp_impl_ValidDisk_11 m d k)).trans (na_impl_ValidDisk_11 (f := ou_impl_ValidDisk_11 k)  (fun d => lo_impl_ValidDisk_11 m d.1 d.2.1 d.2.2.1 d.2.2.2.1 d.2.2.2.2.1) (fun d => some (.inl (d))) (fun d => some (.inr (d))) v30 v31 v32 b0_0 b0_1))
theorem rd_impl_ValidDisk_5 {R : Type} (nx : (pa_impl_ValidDisk 5).1.D → Kt R → Option R) (k : Kt R) (v19 : List ByteArray) (v20 : Int) (v21 : Int) (b0_0 : List ByteArray) (b0_1 : List (Int × ByteArray × Unit)) : ev Try.prog ⟨ta_impl_ValidDisk, 0, 51, pa_impl_ValidDisk⟩ L_impl_ValidDisk co_impl_ValidDisk_5 ((pa_impl_ValidDisk 5).1.st (v19, v20, v21, b0_0, b0_1, ())) (pa_impl_ValidDisk 5).1.nid (roundK 0 (pa_impl_ValidDisk 5) nx k) = tr_impl_ValidDisk_5  (fun d => nx d k) (fun d => k (.exit 0) (((pa_impl_ValidDisk 5).2 2).st d) (((pa_impl_ValidDisk 5).2 2).nid)) (fun d => k .ret (((pa_impl_ValidDisk 5).2 1).st d) (((pa_impl_ValidDisk 5).2 1).nid)) v19 v20 v21 b0_0 b0_1 := by kernel_rfl
theorem lp_impl_ValidDisk_5 {R : Type} : ∀ (m : Nat) (d : (pa_impl_ValidDisk 5).1.D) (k : Kt R), loopN 0 (pa_impl_ValidDisk 5) (fun s nid k => ev Try.prog ⟨ta_impl_ValidDisk, 0, 51, pa_impl_ValidDisk⟩ L_impl_ValidDisk co_impl_ValidDisk_5 s nid k) m d k = (lo_impl_ValidDisk_5 m d.1 d.2.1 d.2.2.1 d.2.2.2.1 d.2.2.2.2.1).bind (ou_impl_ValidDisk_5 k)
  | 0, _, _ => rfl
  | m + 1, ⟨v19, v20, v21, b0_0, b0_1, ⟨⟩⟩, k => (rd_impl_ValidDisk_5 _ k v19 v20 v21 b0_0 b0_1).trans ((congrArg (fun F => tr_impl_ValidDisk_5  F (fun d => k (.exit 0) (((pa_impl_ValidDisk 5).2 2).st d) (((pa_impl_ValidDisk 5).2 2).nid)) (fun d => k .ret (((pa_impl_ValidDisk 5).2 1).st d) (((pa_impl_ValidDisk 5).2 1).nid)) v19 v20 v21 b0_0 b0_1) (funext fun d => lp_impl_ValidDisk_5 m d k)).trans (na_impl_ValidDisk_5 (f := ou_impl_ValidDisk_5 k)  (fun d => lo_impl_ValidDisk_5 m d.1 d.2.1 d.2.2.1 d.2.2.2.1 d.2.2.2.2.1) (fun d => some (.inl (d))) (fun d => some (.inr (d))) v19 v20 v21 b0_0 b0_1))
theorem en_impl_ValidDisk (a0 : (List ByteArray) × (List (Int × ByteArray × Unit)) × Unit) : evalF Try.prog ta_impl_ValidDisk pa_impl_ValidDisk sg_impl_ValidDisk Try.f22 L_impl_ValidDisk (a0, ()) = de_impl_ValidDisk a0 := by kernel_rfl
theorem si_impl_ValidDisk : SigsOk Try.prog ta_impl_ValidDisk := SigsOk.of fun f sd h => by
  try dsimp only [Tb.of, ta_impl_ValidDisk] at h
  split at h
  · rename_i e; subst e; cases h; exact sn_impl_in
  cases h
theorem lk_impl_ValidDisk_11 {R : Type} : LoopOk Try.prog R 51 0 pa_impl_ValidDisk L_impl_ValidDisk co_impl_ValidDisk_11 :=
  loop_key (cfg := ⟨ta_impl_ValidDisk, 0, 51, pa_impl_ValidDisk⟩) (key := 11) (by kernel_rfl) (by kernel_rfl) si_impl_ValidDisk rfl rfl (fun d k r h => ⟨fu_impl_ValidDisk_11 d.1 d.2.1 d.2.2.1 d.2.2.2.1 d.2.2.2.2.1, (lp_impl_ValidDisk_11 _ d k).trans h⟩) (fun c hc => by rw [show loopsIn co_impl_ValidDisk_11 = [] from by kernel_rfl] at hc; cases hc)
theorem lk_impl_ValidDisk_5 {R : Type} : LoopOk Try.prog R 51 0 pa_impl_ValidDisk L_impl_ValidDisk co_impl_ValidDisk_5 :=
  loop_key (cfg := ⟨ta_impl_ValidDisk, 0, 51, pa_impl_ValidDisk⟩) (key := 5) (by kernel_rfl) (by kernel_rfl) si_impl_ValidDisk rfl rfl (fun d k r h => ⟨fu_impl_ValidDisk_5 d.1 d.2.1 d.2.2.1 d.2.2.2.1 d.2.2.2.2.1, (lp_impl_ValidDisk_5 _ d k).trans h⟩) (fun c hc => by rw [show loopsIn co_impl_ValidDisk_5 = [] from by kernel_rfl] at hc; cases hc)
theorem sn_impl_ValidDisk : Callable Try.prog 22 ∧ Sound Try.prog 22 sd_impl_ValidDisk.sg sd_impl_ValidDisk.den :=
  fn_loops (pat := pa_impl_ValidDisk) L_impl_ValidDisk (by kernel_rfl) si_impl_ValidDisk Try.func22 (by kernel_rfl) (by kernel_rfl) (fun c hc => by rw [show loopsIn (bodyOf Try.f22) = [co_impl_ValidDisk_5, co_impl_ValidDisk_11] from by kernel_rfl] at hc; simp only [List.mem_cons, List.not_mem_nil, or_false] at hc; rcases hc with rfl | rfl <;> first | exact lk_impl_ValidDisk_5 | exact lk_impl_ValidDisk_11) fun x r h => by
    obtain ⟨a0, ⟨⟩⟩ := x; rw [← h]; exact (en_impl_ValidDisk a0).trans (eq_impl_ValidDisk a0)
def m_impl_goodKey (k : ByteArray) : Bool := keyOk k
def sg_impl_goodKey : Sig := ⟨[.rd .str], [none], [.rd .bool], [none]⟩
noncomputable def sd_impl_goodKey : SD := ⟨sg_impl_goodKey, fun x => some (((m_impl_goodKey x.1), ()), (()))⟩
noncomputable def ta_impl_goodKey : Tb := Tb.of fun f => if f = 67 then some sd_impl_in else none
def pa_impl_goodKey : Nat → Pat × (Nat → Pat) := fun k => (⟨[], [], []⟩, fun _ => ⟨[], [], []⟩)
noncomputable def de_impl_goodKey (a0 : ByteArray) : Option ((((Bool) × Unit) × (Unit))) :=
  some ((m_impl_in (nI (ByteArray.size a0)) 1 20, ()), ())
theorem eq_impl_goodKey (a0 : ByteArray) : de_impl_goodKey a0 = some ((m_impl_goodKey a0, ()), ()) := rfl
theorem en_impl_goodKey (a0 : ByteArray) : evalF Try.prog ta_impl_goodKey pa_impl_goodKey sg_impl_goodKey Try.f112 noL (a0, ()) = de_impl_goodKey a0 := by kernel_rfl
theorem si_impl_goodKey : SigsOk Try.prog ta_impl_goodKey := SigsOk.of fun f sd h => by
  try dsimp only [Tb.of, ta_impl_goodKey] at h
  split at h
  · rename_i e; subst e; cases h; exact sn_impl_in
  cases h
theorem sn_impl_goodKey : Callable Try.prog 112 ∧ Sound Try.prog 112 sd_impl_goodKey.sg sd_impl_goodKey.den :=
  fn_plain (pat := pa_impl_goodKey) (by kernel_rfl) si_impl_goodKey Try.func112 (by kernel_rfl) (by kernel_rfl) (by kernel_rfl) fun x r h => by
    obtain ⟨a0, ⟨⟩⟩ := x; rw [← h]; exact (en_impl_goodKey a0).trans (eq_impl_goodKey a0)
def m_impl_ValidState (s : Stt) : Bool := validState s
def sg_impl_ValidState : Sig := ⟨[.rd (.pair (.sl (.pair .str (.pair .str .unit))) .unit)], [some 1], [.rd .bool], [none]⟩
noncomputable def sd_impl_ValidState : SD := ⟨sg_impl_ValidState, fun x => some (((m_impl_ValidState x.1), ()), (()))⟩
noncomputable def ta_impl_ValidState : Tb := Tb.of fun f => if f = 112 then some sd_impl_goodKey else none
def pa_impl_ValidState : Nat → Pat × (Nat → Pat) := fun k => if k = 5 then (⟨[.sl 10 0 (.pair .str (.pair .str .unit)), .boxSl 1 0 (.pair .str (.pair .str .unit))], [(1, .lf (.ptr 0 0)), (10, .lf (.d (.sl (.pair .str (.pair .str .unit))))), (11, .lf (.d (.int .i64))), (12, .lf (.d (.int .i64)))], [.box 33 [.d (.sl (.pair .str (.pair .str .unit)))]]⟩, fun e => if e = 1 then ⟨[], [(2, .lf (.d .bool))], []⟩ else if e = 2 then ⟨[], [], []⟩ else ⟨[], [], []⟩) else (⟨[], [], []⟩, fun _ => ⟨[], [], []⟩)
noncomputable def co_impl_ValidState_5 : Code := (loopsIn (bodyOf Try.f46)).getD 0 .skip
def fu_impl_ValidState_5 (v10 : List (ByteArray × ByteArray × Unit)) (v11 : Int) (v12 : Int) (b0_0 : List (ByteArray × ByteArray × Unit)) : Nat := (v11 - v12).toNat + 1
noncomputable def tr_impl_ValidState_5 {R : Type}  (NX : ((List (ByteArray × ByteArray × Unit)) × (Int) × (Int) × (List (ByteArray × ByteArray × Unit)) × Unit) → Option R) (X2 : (Unit) → Option R) (X1 : ((Bool) × Unit) → Option R) (v10 : List (ByteArray × ByteArray × Unit)) (v11 : Int) (v12 : Int) (b0_0 : List (ByteArray × ByteArray × Unit)) : Option R :=
  bif decide (v12 < v11) then
    bif decide (0 ≤ v12) then
      bif decide (v12 < nI (List.length v10)) then
        bif !m_impl_goodKey (List.getD v10 (Int.toNat v12) (ByteArray.mk #[], ByteArray.mk #[], ())).fst then X1 (false, ())
        else
          bif decide (nI (ByteArray.size (List.getD v10 (Int.toNat v12) (ByteArray.mk #[], ByteArray.mk #[], ())).snd.fst) > 100) then X1 (false, ())
          else
            bif decide (v12 > 0) then
              bif decide (0 ≤ IntKind.wrap IntKind.i64 (v12 - 1)) then
                bif decide (IntKind.wrap IntKind.i64 (v12 - 1) < nI (List.length b0_0)) then
                  bif
                      !Op.bytesLess (ByteArray.toList (List.getD b0_0 (Int.toNat (IntKind.wrap IntKind.i64 (v12 - 1))) (ByteArray.mk #[], ByteArray.mk #[], ())).fst)
                          (ByteArray.toList (List.getD v10 (Int.toNat v12) (ByteArray.mk #[], ByteArray.mk #[], ())).fst) then
                    X1 (false, ())
                  else NX (v10, v11, IntKind.wrap IntKind.i64 (v12 + 1), b0_0, ())
                else none
              else none
            else NX (v10, v11, IntKind.wrap IntKind.i64 (v12 + 1), b0_0, ())
      else none
    else none
  else X2 PUnit.unit
noncomputable def lo_impl_ValidState_5 : Nat → (List (ByteArray × ByteArray × Unit)) → (Int) → (Int) → (List (ByteArray × ByteArray × Unit)) →  Option ((Unit) ⊕ ((Bool) × Unit))
  | 0, _, _, _, _ => none
  | m + 1, v10, v11, v12, b0_0 => tr_impl_ValidState_5  (fun d => lo_impl_ValidState_5 m d.1 d.2.1 d.2.2.1 d.2.2.2.1) (fun d => some (.inl (d))) (fun d => some (.inr (d))) v10 v11 v12 b0_0
theorem na_impl_ValidState_5 {R S : Type}  (NX : ((List (ByteArray × ByteArray × Unit)) × (Int) × (Int) × (List (ByteArray × ByteArray × Unit)) × Unit) → Option R) (X2 : (Unit) → Option R) (X1 : ((Bool) × Unit) → Option R) (v10 : List (ByteArray × ByteArray × Unit)) (v11 : Int) (v12 : Int) (b0_0 : List (ByteArray × ByteArray × Unit)) (f : R → Option S) : tr_impl_ValidState_5  (fun d => (NX d).bind f) (fun d => (X2 d).bind f) (fun d => (X1 d).bind f) v10 v11 v12 b0_0 = (tr_impl_ValidState_5  NX X2 X1 v10 v11 v12 b0_0).bind f := by
  unfold tr_impl_ValidState_5
  simp only [cond_bind, ite_bind, onSum_bind, Option.bind_assoc, Option.bind_none, Option.bind_some]
noncomputable def de_impl_ValidState (a0 : (List (ByteArray × ByteArray × Unit)) × Unit) : Option ((((Bool) × Unit) × (Unit))) :=
  bif decide (nI (List.length a0.fst) > 100) then some ((false, ()), ())
  else Option.bind ((fun d => lo_impl_ValidState_5 (fu_impl_ValidState_5 d.1 d.2.1 d.2.2.1 d.2.2.2.1) d.1 d.2.1 d.2.2.1 d.2.2.2.1) (a0.fst, nI (List.length a0.fst), 0, a0.fst, ())) fun val => onSum (fun val => some ((true, ()), ())) (fun val => some ((val.fst, ()), ())) val
theorem eq_impl_ValidState (a0 : Stt) : de_impl_ValidState a0 = some ((m_impl_ValidState a0, ()), ()) := by
  unfold de_impl_ValidState m_impl_ValidState validState
  have c1 : decide (nI a0.1.length > 100) = !decide (a0.1.length ≤ 100) := gt100 _ 100
  by_cases hl : a0.1.length ≤ 100
  · have hL := all_loop (n := a0.1.length) (okPairAt a0.1) (g := fun m i => lo_impl_ValidState_5 m a0.1 (nI a0.1.length) i a0.1) (ok := .inl ()) (bad := .inr (false, ())) (fun m i hi => by
      show lo_impl_ValidState_5 (m + 1) a0.1 (nI a0.1.length) i a0.1 = _
      simp only [lo_impl_ValidState_5, tr_impl_ValidState_5]
      have g1 : decide (nI (ByteArray.size (List.getD a0.1 i (ByteArray.mk #[], ByteArray.mk #[], ())).2.1) > 100) = !decide (ByteArray.size (List.getD a0.1 i zP).2.1 ≤ 100) := gt100 _ 100
      rw [cLt hi, cLe0, wI (show i < 4611686018427387904 by omega), Int.toNat_natCast, gt0, g1]
      simp only [cond_true]
      unfold okPairAt bl
      show (bif !keyOk (List.getD a0.1 i zP).1 then _ else _) = _
      cases i with
      | zero =>
        show (bif !keyOk (List.getD a0.1 0 zP).1 then _ else bif !decide (ByteArray.size (List.getD a0.1 0 zP).2.1 ≤ 100) then _ else _) = _
        cases keyOk (List.getD a0.1 0 zP).1 <;> cases decide (ByteArray.size (List.getD a0.1 0 zP).2.1 ≤ 100) <;> rfl
      | succ j =>
        rw [wP j (by omega), cLe0, cLt (show j < a0.1.length by omega)]
        show (bif !keyOk (List.getD a0.1 (j + 1) zP).1 then _ else bif !decide (ByteArray.size (List.getD a0.1 (j + 1) zP).2.1 ≤ 100) then _ else bif !Op.bytesLess (ByteArray.toList (List.getD a0.1 j zP).1) (ByteArray.toList (List.getD a0.1 (j + 1) zP).1) then _ else _) = _
        rw [Nat.add_sub_cancel]
        cases keyOk (List.getD a0.1 (j + 1) zP).1 <;> cases decide (ByteArray.size (List.getD a0.1 (j + 1) zP).2.1 ≤ 100) <;> cases Op.bytesLess (ByteArray.toList (List.getD a0.1 j zP).1) (ByteArray.toList (List.getD a0.1 (j + 1) zP).1) <;> rfl) (fun m => by
      show lo_impl_ValidState_5 (m + 1) a0.1 (nI a0.1.length) (a0.1.length : Int) a0.1 = _
      simp only [lo_impl_ValidState_5, tr_impl_ValidState_5]
      rw [cLtF]
      rfl) (fu_impl_ValidState_5 a0.1 (nI a0.1.length) 0 a0.1) 0 (by omega) (by simp [fu_impl_ValidState_5, nI])
    have hL' : lo_impl_ValidState_5 (fu_impl_ValidState_5 a0.1 (nI a0.1.length) 0 a0.1) a0.1 (nI a0.1.length) 0 a0.1 = _ := hL
    rw [c1, decide_eq_true hl]
    show (lo_impl_ValidState_5 (fu_impl_ValidState_5 a0.1 (nI a0.1.length) 0 a0.1) a0.1 (nI a0.1.length) 0 a0.1).bind _ = _
    rw [hL']
    cases (List.range' 0 (a0.1.length - 0)).all (okPairAt a0.1) <;> rfl
  · rw [c1, decide_eq_false hl]
    rfl
noncomputable def ou_impl_ValidState_5 {R : Type} (k : Kt R) : ((Unit) ⊕ ((Bool) × Unit)) → Option R := (onSum (fun d => k (.exit 0) (((pa_impl_ValidState 5).2 2).st d) (((pa_impl_ValidState 5).2 2).nid)) (fun d => k .ret (((pa_impl_ValidState 5).2 1).st d) (((pa_impl_ValidState 5).2 1).nid)))
noncomputable def L_impl_ValidState {R : Type} : Lt R pa_impl_ValidState := (addL (pat := pa_impl_ValidState) 5 (fun d k => (lo_impl_ValidState_5 (fu_impl_ValidState_5 d.1 d.2.1 d.2.2.1 d.2.2.2.1) d.1 d.2.1 d.2.2.1 d.2.2.2.1).bind (ou_impl_ValidState_5 k)) noL)
theorem rd_impl_ValidState_5 {R : Type} (nx : (pa_impl_ValidState 5).1.D → Kt R → Option R) (k : Kt R) (v10 : List (ByteArray × ByteArray × Unit)) (v11 : Int) (v12 : Int) (b0_0 : List (ByteArray × ByteArray × Unit)) : ev Try.prog ⟨ta_impl_ValidState, 0, 44, pa_impl_ValidState⟩ L_impl_ValidState co_impl_ValidState_5 ((pa_impl_ValidState 5).1.st (v10, v11, v12, b0_0, ())) (pa_impl_ValidState 5).1.nid (roundK 0 (pa_impl_ValidState 5) nx k) = tr_impl_ValidState_5  (fun d => nx d k) (fun d => k (.exit 0) (((pa_impl_ValidState 5).2 2).st d) (((pa_impl_ValidState 5).2 2).nid)) (fun d => k .ret (((pa_impl_ValidState 5).2 1).st d) (((pa_impl_ValidState 5).2 1).nid)) v10 v11 v12 b0_0 := by kernel_rfl
theorem lp_impl_ValidState_5 {R : Type} : ∀ (m : Nat) (d : (pa_impl_ValidState 5).1.D) (k : Kt R), loopN 0 (pa_impl_ValidState 5) (fun s nid k => ev Try.prog ⟨ta_impl_ValidState, 0, 44, pa_impl_ValidState⟩ L_impl_ValidState co_impl_ValidState_5 s nid k) m d k = (lo_impl_ValidState_5 m d.1 d.2.1 d.2.2.1 d.2.2.2.1).bind (ou_impl_ValidState_5 k)
  | 0, _, _ => rfl
  | m + 1, ⟨v10, v11, v12, b0_0, ⟨⟩⟩, k => (rd_impl_ValidState_5 _ k v10 v11 v12 b0_0).trans ((congrArg (fun F => tr_impl_ValidState_5  F (fun d => k (.exit 0) (((pa_impl_ValidState 5).2 2).st d) (((pa_impl_ValidState 5).2 2).nid)) (fun d => k .ret (((pa_impl_ValidState 5).2 1).st d) (((pa_impl_ValidState 5).2 1).nid)) v10 v11 v12 b0_0) (funext fun d => lp_impl_ValidState_5 m d k)).trans (na_impl_ValidState_5 (f := ou_impl_ValidState_5 k)  (fun d => lo_impl_ValidState_5 m d.1 d.2.1 d.2.2.1 d.2.2.2.1) (fun d => some (.inl (d))) (fun d => some (.inr (d))) v10 v11 v12 b0_0))
theorem en_impl_ValidState (a0 : (List (ByteArray × ByteArray × Unit)) × Unit) : evalF Try.prog ta_impl_ValidState pa_impl_ValidState sg_impl_ValidState Try.f46 L_impl_ValidState (a0, ()) = de_impl_ValidState a0 := by kernel_rfl
theorem si_impl_ValidState : SigsOk Try.prog ta_impl_ValidState := SigsOk.of fun f sd h => by
  try dsimp only [Tb.of, ta_impl_ValidState] at h
  split at h
  · rename_i e; subst e; cases h; exact sn_impl_goodKey
  cases h
theorem lk_impl_ValidState_5 {R : Type} : LoopOk Try.prog R 44 0 pa_impl_ValidState L_impl_ValidState co_impl_ValidState_5 :=
  loop_key (cfg := ⟨ta_impl_ValidState, 0, 44, pa_impl_ValidState⟩) (key := 5) (by kernel_rfl) (by kernel_rfl) si_impl_ValidState rfl rfl (fun d k r h => ⟨fu_impl_ValidState_5 d.1 d.2.1 d.2.2.1 d.2.2.2.1, (lp_impl_ValidState_5 _ d k).trans h⟩) (fun c hc => by rw [show loopsIn co_impl_ValidState_5 = [] from by kernel_rfl] at hc; cases hc)
theorem sn_impl_ValidState : Callable Try.prog 46 ∧ Sound Try.prog 46 sd_impl_ValidState.sg sd_impl_ValidState.den :=
  fn_loops (pat := pa_impl_ValidState) L_impl_ValidState (by kernel_rfl) si_impl_ValidState Try.func46 (by kernel_rfl) (by kernel_rfl) (fun c hc => by rw [show loopsIn (bodyOf Try.f46) = [co_impl_ValidState_5] from by kernel_rfl] at hc; simp only [List.mem_cons, List.not_mem_nil, or_false] at hc; rcases hc with rfl <;> first | exact lk_impl_ValidState_5) fun x r h => by
    obtain ⟨a0, ⟨⟩⟩ := x; rw [← h]; exact (en_impl_ValidState a0).trans (eq_impl_ValidState a0)
def m_impl_Snapshot (s : Stt) : List (List Chg) := snapS s
def sg_impl_Snapshot : Sig := ⟨[.rd (.pair (.sl (.pair .str (.pair .str .unit))) .unit)], [some 1], [.rd (.sl (.sl (.pair .str (.pair .str (.pair .bool .unit)))))], [none]⟩
noncomputable def sd_impl_Snapshot : SD := ⟨sg_impl_Snapshot, fun x => some (((m_impl_Snapshot x.1), ()), (()))⟩
noncomputable def ta_impl_Snapshot : Tb := Tb.of fun f => if f = 46 then some sd_impl_ValidState else none
def pa_impl_Snapshot : Nat → Pat × (Nat → Pat) := fun k => if k = 6 then (⟨[.last 3 90 (.pair .str (.pair .str (.pair .bool .unit))), .sl 10 0 (.pair .str (.pair .str .unit))], [(3, .lf (.row 0)), (10, .lf (.d (.sl (.pair .str (.pair .str .unit))))), (11, .lf (.d (.int .i64))), (12, .lf (.d (.int .i64)))], [.last 83 (.pair .str (.pair .str (.pair .bool .unit))) 1, .row 90 (.pair .str (.pair .str (.pair .bool .unit)))]⟩, fun e => if e = 2 then ⟨[.last 3 90 (.pair .str (.pair .str (.pair .bool .unit)))], [(3, .lf (.row 0))], [.last 83 (.pair .str (.pair .str (.pair .bool .unit))) 1, .row 90 (.pair .str (.pair .str (.pair .bool .unit)))]⟩ else ⟨[], [], []⟩) else (⟨[], [], []⟩, fun _ => ⟨[], [], []⟩)
noncomputable def co_impl_Snapshot_6 : Code := (loopsIn (bodyOf Try.f42)).getD 0 .skip
def fu_impl_Snapshot_6 (v10 : List (ByteArray × ByteArray × Unit)) (v11 : Int) (v12 : Int) (r0 : List (List (ByteArray × ByteArray × Bool × Unit))) (c0 : Bool) (r1 : List (ByteArray × ByteArray × Bool × Unit)) : Nat := (v11 - v12).toNat + 1
noncomputable def tr_impl_Snapshot_6 {R : Type}  (NX : ((List (ByteArray × ByteArray × Unit)) × (Int) × (Int) × (List (List (ByteArray × ByteArray × Bool × Unit))) × (Bool) × (List (ByteArray × ByteArray × Bool × Unit)) × Unit) → Option R) (X2 : ((List (List (ByteArray × ByteArray × Bool × Unit))) × (Bool) × (List (ByteArray × ByteArray × Bool × Unit)) × Unit) → Option R) (v10 : List (ByteArray × ByteArray × Unit)) (v11 : Int) (v12 : Int) (r0 : List (List (ByteArray × ByteArray × Bool × Unit))) (c0 : Bool) (r1 : List (ByteArray × ByteArray × Bool × Unit)) : Option R :=
  bif decide (v12 < v11) then
    bif decide (0 ≤ v12) then
      bif decide (v12 < nI (List.length v10)) then
        bif Int.tmod v12 20 == 0 then
          bif decide ((List.length r0 + Bool.toNat c0 + 1) * 24 ≤ 140737488355328) then
            bif decide (0 ≤ IntKind.wrap IntKind.i64 (nI (List.length (bif c0 then r0 ++ [r1] else r0) + Bool.toNat true) - 1)) then
              bif decide (IntKind.wrap IntKind.i64 (nI (List.length (bif c0 then r0 ++ [r1] else r0) + Bool.toNat true) - 1) < nI (List.length (bif c0 then r0 ++ [r1] else r0) + Bool.toNat true)) then
                bif decide (Int.toNat (IntKind.wrap IntKind.i64 (nI (List.length (bif c0 then r0 ++ [r1] else r0) + Bool.toNat true) - 1)) = List.length (bif c0 then r0 ++ [r1] else r0)) then
                  bif decide (0 ≤ IntKind.wrap IntKind.i64 (nI (List.length (bif c0 then r0 ++ [r1] else r0) + Bool.toNat true) - 1)) then
                    bif
                        decide
                          (IntKind.wrap IntKind.i64 (nI (List.length (bif c0 then r0 ++ [r1] else r0) + Bool.toNat true) - 1) < nI (List.length (bif c0 then r0 ++ [r1] else r0) + Bool.toNat true)) then
                      bif decide (Int.toNat (IntKind.wrap IntKind.i64 (nI (List.length (bif c0 then r0 ++ [r1] else r0) + Bool.toNat true) - 1)) = List.length (bif c0 then r0 ++ [r1] else r0)) then
                        NX
                          (v10, v11, IntKind.wrap IntKind.i64 (v12 + 1), bif c0 then r0 ++ [r1] else r0, true,
                            [] ++
                              [((List.getD v10 (Int.toNat v12) (ByteArray.mk #[], ByteArray.mk #[], ())).fst, (List.getD v10 (Int.toNat v12) (ByteArray.mk #[], ByteArray.mk #[], ())).snd.fst, false,
                                  ())],
                            ())
                      else none
                    else none
                  else none
                else none
              else none
            else none
          else none
        else
          bif decide (0 ≤ IntKind.wrap IntKind.i64 (nI (List.length r0 + Bool.toNat c0) - 1)) then
            bif decide (IntKind.wrap IntKind.i64 (nI (List.length r0 + Bool.toNat c0) - 1) < nI (List.length r0 + Bool.toNat c0)) then
              bif c0 then
                bif decide (Int.toNat (IntKind.wrap IntKind.i64 (nI (List.length r0 + Bool.toNat c0) - 1)) = List.length r0) then
                  bif
                      decide
                        ((List.length r1 +
                              List.length
                                [((List.getD v10 (Int.toNat v12) (ByteArray.mk #[], ByteArray.mk #[], ())).fst, (List.getD v10 (Int.toNat v12) (ByteArray.mk #[], ByteArray.mk #[], ())).snd.fst, false,
                                    ())]) *
                            40 ≤
                          140737488355328) then
                    bif decide (0 ≤ IntKind.wrap IntKind.i64 (nI (List.length r0 + Bool.toNat c0) - 1)) then
                      bif decide (IntKind.wrap IntKind.i64 (nI (List.length r0 + Bool.toNat c0) - 1) < nI (List.length r0 + Bool.toNat c0)) then
                        bif c0 then
                          bif decide (Int.toNat (IntKind.wrap IntKind.i64 (nI (List.length r0 + Bool.toNat c0) - 1)) = List.length r0) then
                            NX
                              (v10, v11, IntKind.wrap IntKind.i64 (v12 + 1), r0, c0,
                                r1 ++
                                  [((List.getD v10 (Int.toNat v12) (ByteArray.mk #[], ByteArray.mk #[], ())).fst, (List.getD v10 (Int.toNat v12) (ByteArray.mk #[], ByteArray.mk #[], ())).snd.fst, false,
                                      ())],
                                ())
                          else none
                        else none
                      else none
                    else none
                  else none
                else none
              else none
            else none
          else none
      else none
    else none
  else X2 (r0, c0, r1, ())
noncomputable def lo_impl_Snapshot_6 : Nat → (List (ByteArray × ByteArray × Unit)) → (Int) → (Int) → (List (List (ByteArray × ByteArray × Bool × Unit))) → (Bool) → (List (ByteArray × ByteArray × Bool × Unit)) →  Option ((List (List (ByteArray × ByteArray × Bool × Unit))) × (Bool) × (List (ByteArray × ByteArray × Bool × Unit)) × Unit)
  | 0, _, _, _, _, _, _ => none
  | m + 1, v10, v11, v12, r0, c0, r1 => tr_impl_Snapshot_6  (fun d => lo_impl_Snapshot_6 m d.1 d.2.1 d.2.2.1 d.2.2.2.1 d.2.2.2.2.1 d.2.2.2.2.2.1) (fun d => some (d)) v10 v11 v12 r0 c0 r1
theorem na_impl_Snapshot_6 {R S : Type}  (NX : ((List (ByteArray × ByteArray × Unit)) × (Int) × (Int) × (List (List (ByteArray × ByteArray × Bool × Unit))) × (Bool) × (List (ByteArray × ByteArray × Bool × Unit)) × Unit) → Option R) (X2 : ((List (List (ByteArray × ByteArray × Bool × Unit))) × (Bool) × (List (ByteArray × ByteArray × Bool × Unit)) × Unit) → Option R) (v10 : List (ByteArray × ByteArray × Unit)) (v11 : Int) (v12 : Int) (r0 : List (List (ByteArray × ByteArray × Bool × Unit))) (c0 : Bool) (r1 : List (ByteArray × ByteArray × Bool × Unit)) (f : R → Option S) : tr_impl_Snapshot_6  (fun d => (NX d).bind f) (fun d => (X2 d).bind f) v10 v11 v12 r0 c0 r1 = (tr_impl_Snapshot_6  NX X2 v10 v11 v12 r0 c0 r1).bind f := by
  unfold tr_impl_Snapshot_6
  simp only [cond_bind, ite_bind, onSum_bind, Option.bind_assoc, Option.bind_none, Option.bind_some]
noncomputable def de_impl_Snapshot (a0 : (List (ByteArray × ByteArray × Unit)) × Unit) : Option ((((List (List (ByteArray × ByteArray × Bool × Unit))) × Unit) × (Unit))) :=
  bif !m_impl_ValidState (a0.fst, ()) then some (([], ()), ())
  else Option.bind ((fun d => lo_impl_Snapshot_6 (fu_impl_Snapshot_6 d.1 d.2.1 d.2.2.1 d.2.2.2.1 d.2.2.2.2.1 d.2.2.2.2.2.1) d.1 d.2.1 d.2.2.1 d.2.2.2.1 d.2.2.2.2.1 d.2.2.2.2.2.1) (a0.fst, nI (List.length a0.fst), 0, [], false, [], ())) fun val => some ((bif val.snd.fst then val.fst ++ [val.snd.snd.fst] else val.fst, ()), ())
theorem eq_impl_Snapshot (a0 : Stt) : de_impl_Snapshot a0 = some (((m_impl_Snapshot a0), ()), (())) := by
  unfold de_impl_Snapshot m_impl_Snapshot snapS
  show (bif !validState a0 then _ else _) = _
  cases hv : validState a0 with
  | false => rfl
  | true =>
    have hl := validState_len hv
    have hL := foldi_loop (xs := a0.1) zP SnapI snapStep (g := fun m i s => lo_impl_Snapshot_6 m a0.1 (nI a0.1.length) i s.1 s.2.1 s.2.2) (ok := fun s => (s.1, s.2.1, s.2.2, ())) (fun m i s hi hI => by
      show lo_impl_Snapshot_6 (m + 1) a0.1 (nI a0.1.length) i s.1 s.2.1 s.2.2 = _
      obtain ⟨r0, c0, r1⟩ := s
      obtain ⟨h1, h2, h3, h4⟩ := hI
      simp only at h2 h3 h4 ⊢
      simp only [lo_impl_Snapshot_6, tr_impl_Snapshot_6]
      rw [cLt hi, cLe0, wI (show i < 4611686018427387904 by omega), Int.toNat_natCast, tmod20]
      unfold snapStep
      cases hc : (i % 20 == 0)
      · have hp : 0 < i := Nat.pos_of_ne_zero fun q => by subst q; cases hc
        have hc0 := h3 hp
        subst hc0
        have e1 := lastIx r0.length (by omega)
        have e2 : decide ((r0.length : Int) < nI (r0.length + 1)) = true := cLt (Nat.lt_succ_self _)
        have e3 : decide ((r1.length + 1) * 40 ≤ 140737488355328) = true := decide_eq_true (by omega)
        simp only [Bool.toNat_true, List.length_singleton, cond_true, cond_false, e1, e2, e3, cLe0, Int.toNat_natCast, decide_true]
        rfl
      · have hL : List.length (bif c0 then r0 ++ [r1] else r0) ≤ i + 1 := by cases c0 <;> simp <;> omega
        have e1 := lastIx (List.length (bif c0 then r0 ++ [r1] else r0)) (by omega)
        have e2 : decide (((List.length (bif c0 then r0 ++ [r1] else r0) : Nat) : Int) < nI (List.length (bif c0 then r0 ++ [r1] else r0) + 1)) = true := cLt (Nat.lt_succ_self _)
        have e3 : decide ((r0.length + Bool.toNat c0 + 1) * 24 ≤ 140737488355328) = true := decide_eq_true (by cases c0 <;> simp <;> omega)
        simp only [Bool.toNat_true, cond_true, e1, e2, e3, cLe0, Int.toNat_natCast, decide_true]
        rfl) (fun i s hi hI => hI.step (by omega) _) (fun m s hI => by
      show lo_impl_Snapshot_6 (m + 1) a0.1 (nI a0.1.length) (a0.1.length : Int) s.1 s.2.1 s.2.2 = _
      simp only [lo_impl_Snapshot_6, tr_impl_Snapshot_6]
      rw [cLtF]
      rfl) (fu_impl_Snapshot_6 a0.1 (nI a0.1.length) 0 [] false []) 0 ([], false, []) (by omega) (by simp [fu_impl_Snapshot_6, nI]) ⟨by omega, by simp, fun q => by omega, by simp⟩
    have hL' : lo_impl_Snapshot_6 (fu_impl_Snapshot_6 a0.1 (nI a0.1.length) 0 [] false []) a0.1 (nI a0.1.length) 0 [] false [] = _ := hL
    show (lo_impl_Snapshot_6 (fu_impl_Snapshot_6 a0.1 (nI a0.1.length) 0 [] false []) a0.1 (nI a0.1.length) 0 [] false []).bind _ = _
    rw [hL']
    rfl
noncomputable def ou_impl_Snapshot_6 {R : Type} (k : Kt R) : ((List (List (ByteArray × ByteArray × Bool × Unit))) × (Bool) × (List (ByteArray × ByteArray × Bool × Unit)) × Unit) → Option R := (fun d => k (.exit 0) (((pa_impl_Snapshot 6).2 2).st d) (((pa_impl_Snapshot 6).2 2).nid))
noncomputable def L_impl_Snapshot {R : Type} : Lt R pa_impl_Snapshot := (addL (pat := pa_impl_Snapshot) 6 (fun d k => (lo_impl_Snapshot_6 (fu_impl_Snapshot_6 d.1 d.2.1 d.2.2.1 d.2.2.2.1 d.2.2.2.2.1 d.2.2.2.2.2.1) d.1 d.2.1 d.2.2.1 d.2.2.2.1 d.2.2.2.2.1 d.2.2.2.2.2.1).bind (ou_impl_Snapshot_6 k)) noL)
theorem rd_impl_Snapshot_6 {R : Type} (nx : (pa_impl_Snapshot 6).1.D → Kt R → Option R) (k : Kt R) (v10 : List (ByteArray × ByteArray × Unit)) (v11 : Int) (v12 : Int) (r0 : List (List (ByteArray × ByteArray × Bool × Unit))) (c0 : Bool) (r1 : List (ByteArray × ByteArray × Bool × Unit)) : ev Try.prog ⟨ta_impl_Snapshot, 0, 43, pa_impl_Snapshot⟩ L_impl_Snapshot co_impl_Snapshot_6 ((pa_impl_Snapshot 6).1.st (v10, v11, v12, r0, c0, r1, ())) (pa_impl_Snapshot 6).1.nid (roundK 0 (pa_impl_Snapshot 6) nx k) = tr_impl_Snapshot_6  (fun d => nx d k) (fun d => k (.exit 0) (((pa_impl_Snapshot 6).2 2).st d) (((pa_impl_Snapshot 6).2 2).nid)) v10 v11 v12 r0 c0 r1 := by kernel_rfl
theorem lp_impl_Snapshot_6 {R : Type} : ∀ (m : Nat) (d : (pa_impl_Snapshot 6).1.D) (k : Kt R), loopN 0 (pa_impl_Snapshot 6) (fun s nid k => ev Try.prog ⟨ta_impl_Snapshot, 0, 43, pa_impl_Snapshot⟩ L_impl_Snapshot co_impl_Snapshot_6 s nid k) m d k = (lo_impl_Snapshot_6 m d.1 d.2.1 d.2.2.1 d.2.2.2.1 d.2.2.2.2.1 d.2.2.2.2.2.1).bind (ou_impl_Snapshot_6 k)
  | 0, _, _ => rfl
  | m + 1, ⟨v10, v11, v12, r0, c0, r1, ⟨⟩⟩, k => (rd_impl_Snapshot_6 _ k v10 v11 v12 r0 c0 r1).trans ((congrArg (fun F => tr_impl_Snapshot_6  F (fun d => k (.exit 0) (((pa_impl_Snapshot 6).2 2).st d) (((pa_impl_Snapshot 6).2 2).nid)) v10 v11 v12 r0 c0 r1) (funext fun d => lp_impl_Snapshot_6 m d k)).trans (na_impl_Snapshot_6 (f := ou_impl_Snapshot_6 k)  (fun d => lo_impl_Snapshot_6 m d.1 d.2.1 d.2.2.1 d.2.2.2.1 d.2.2.2.2.1 d.2.2.2.2.2.1) (fun d => some (d)) v10 v11 v12 r0 c0 r1))
theorem en_impl_Snapshot (a0 : (List (ByteArray × ByteArray × Unit)) × Unit) : evalF Try.prog ta_impl_Snapshot pa_impl_Snapshot sg_impl_Snapshot Try.f42 L_impl_Snapshot (a0, ()) = de_impl_Snapshot a0 := by kernel_rfl
theorem si_impl_Snapshot : SigsOk Try.prog ta_impl_Snapshot := SigsOk.of fun f sd h => by
  try dsimp only [Tb.of, ta_impl_Snapshot] at h
  split at h
  · rename_i e; subst e; cases h; exact sn_impl_ValidState
  cases h
theorem lk_impl_Snapshot_6 {R : Type} : LoopOk Try.prog R 43 0 pa_impl_Snapshot L_impl_Snapshot co_impl_Snapshot_6 :=
  loop_key (cfg := ⟨ta_impl_Snapshot, 0, 43, pa_impl_Snapshot⟩) (key := 6) (by kernel_rfl) (by kernel_rfl) si_impl_Snapshot rfl rfl (fun d k r h => ⟨fu_impl_Snapshot_6 d.1 d.2.1 d.2.2.1 d.2.2.2.1 d.2.2.2.2.1 d.2.2.2.2.2.1, (lp_impl_Snapshot_6 _ d k).trans h⟩) (fun c hc => by rw [show loopsIn co_impl_Snapshot_6 = [] from by kernel_rfl] at hc; cases hc)
theorem sn_impl_Snapshot : Callable Try.prog 42 ∧ Sound Try.prog 42 sd_impl_Snapshot.sg sd_impl_Snapshot.den :=
  fn_loops (pat := pa_impl_Snapshot) L_impl_Snapshot (by kernel_rfl) si_impl_Snapshot Try.func42 (by kernel_rfl) (by kernel_rfl) (fun c hc => by rw [show loopsIn (bodyOf Try.f42) = [co_impl_Snapshot_6] from by kernel_rfl] at hc; simp only [List.mem_cons, List.not_mem_nil, or_false] at hc; rcases hc with rfl <;> first | exact lk_impl_Snapshot_6) fun x r h => by
    obtain ⟨a0, ⟨⟩⟩ := x; rw [← h]; exact (en_impl_Snapshot a0).trans (eq_impl_Snapshot a0)
def sg_impl_room : Sig := ⟨[.rd (.int .i64)], [none], [.rd (.int .i64)], [none]⟩
noncomputable def ta_impl_room : Tb := Tb.of fun f => none
def pa_impl_room : Nat → Pat × (Nat → Pat) := fun k => (⟨[], [], []⟩, fun _ => ⟨[], [], []⟩)
noncomputable def de_impl_room (a0 : Int) : Option ((((Int) × Unit) × (Unit))) :=
  some ((IntKind.wrap IntKind.i64 (IntKind.wrap IntKind.i64 (64 - a0) - 8), ()), ())
noncomputable def sd_impl_room : SD := ⟨sg_impl_room, fun x => de_impl_room x.1⟩
theorem en_impl_room (a0 : Int) : evalF Try.prog ta_impl_room pa_impl_room sg_impl_room Try.f109 noL (a0, ()) = de_impl_room a0 := by kernel_rfl
theorem si_impl_room : SigsOk Try.prog ta_impl_room := SigsOk.of fun f sd h => by
  try dsimp only [Tb.of, ta_impl_room] at h
  cases h
theorem sn_impl_room : Callable Try.prog 109 ∧ Sound Try.prog 109 sd_impl_room.sg sd_impl_room.den :=
  fn_plain (pat := pa_impl_room) (by kernel_rfl) si_impl_room Try.func109 (by kernel_rfl) (by kernel_rfl) (by kernel_rfl) fun x r h => by
    obtain ⟨a0, ⟨⟩⟩ := x; exact (en_impl_room a0).trans h
def m_impl_Pages (s : ByteArray) (w : Int) : Option Int := if s.size ≤ 1099511627776 then some (pagesN s.size w) else none
def sg_impl_Pages : Sig := ⟨[.rd .str, .rd (.int .i64)], [none, none], [.rd (.int .i64)], [none]⟩
noncomputable def sd_impl_Pages : SD := ⟨sg_impl_Pages, fun x => (m_impl_Pages x.1 x.2.1).bind fun r => some ((r, ()), (()))⟩
noncomputable def ta_impl_Pages : Tb := Tb.of fun f => if f = 67 then some sd_impl_in else if f = 109 then some sd_impl_room else none
def pa_impl_Pages : Nat → Pat × (Nat → Pat) := fun k => (⟨[], [], []⟩, fun _ => ⟨[], [], []⟩)
noncomputable def de_impl_Pages (a0 : ByteArray) (a1 : Int) : Option ((((Int) × Unit) × (Unit))) :=
  bif !m_impl_in a1 1 8 then some ((0, ()), ())
  else
    bif !decide (IntKind.wrap IntKind.i64 (IntKind.wrap IntKind.i64 (64 - a1) - 8) = 0) then
      some
        ((if
                IntKind.wrap IntKind.i64
                    (Int.tdiv (IntKind.wrap IntKind.i64 (IntKind.wrap IntKind.i64 (nI (ByteArray.size a0) + IntKind.wrap IntKind.i64 (IntKind.wrap IntKind.i64 (64 - a1) - 8)) - 1))
                      (IntKind.wrap IntKind.i64 (IntKind.wrap IntKind.i64 (64 - a1) - 8))) >
                  1 then
              IntKind.wrap IntKind.i64
                (Int.tdiv (IntKind.wrap IntKind.i64 (IntKind.wrap IntKind.i64 (nI (ByteArray.size a0) + IntKind.wrap IntKind.i64 (IntKind.wrap IntKind.i64 (64 - a1) - 8)) - 1))
                  (IntKind.wrap IntKind.i64 (IntKind.wrap IntKind.i64 (64 - a1) - 8)))
            else 1,
            ()),
          ())
    else none
theorem eq_impl_Pages (a0 : ByteArray) (a1 : Int) r (h : m_impl_Pages a0 a1 = some r) : de_impl_Pages a0 a1 = some ((r, ()), (())) := by
  unfold m_impl_Pages at h
  split at h
  · rename_i hc
    cases h
    unfold de_impl_Pages pagesN
    show (bif !inB a1 1 8 then _ else _) = _
    cases hw : inB a1 1 8 with
    | false => rfl
    | true =>
      have k1 := (inB_r hw).1
      have k2 := (inB_r hw).2
      have hq : 0 ≤ ((a0.size : Int) + (56 - a1) - 1) / (56 - a1) := Int.ediv_nonneg (by omega) (by omega)
      have hq2 : ((a0.size : Int) + (56 - a1) - 1) / (56 - a1) ≤ (a0.size : Int) + (56 - a1) - 1 := Int.ediv_le_self _ (by omega)
      rw [wrap_ok (n := 64 - a1) (by omega) (by omega), wrap_ok (n := 64 - a1 - 8) (by omega) (by omega), show 64 - a1 - 8 = 56 - a1 by omega]
      simp only [nI]
      rw [wrap_ok (n := (a0.size : Int) + (56 - a1)) (by omega) (by omega), wrap_ok (n := (a0.size : Int) + (56 - a1) - 1) (by omega) (by omega), Int.tdiv_eq_ediv_of_nonneg (by omega), wrap_ok (n := ((a0.size : Int) + (56 - a1) - 1) / (56 - a1)) (by omega) (by omega), decide_eq_false (show ¬ (56 - a1 = 0) by omega)]
      rfl
  · cases h
theorem en_impl_Pages (a0 : ByteArray) (a1 : Int) : evalF Try.prog ta_impl_Pages pa_impl_Pages sg_impl_Pages Try.f43 noL (a0, a1, ()) = de_impl_Pages a0 a1 := by kernel_rfl
theorem si_impl_Pages : SigsOk Try.prog ta_impl_Pages := SigsOk.of fun f sd h => by
  try dsimp only [Tb.of, ta_impl_Pages] at h
  split at h
  · rename_i e; subst e; cases h; exact sn_impl_in
  split at h
  · rename_i e; subst e; cases h; exact sn_impl_room
  cases h
theorem sn_impl_Pages : Callable Try.prog 43 ∧ Sound Try.prog 43 sd_impl_Pages.sg sd_impl_Pages.den :=
  fn_plain (pat := pa_impl_Pages) (by kernel_rfl) si_impl_Pages Try.func43 (by kernel_rfl) (by kernel_rfl) (by kernel_rfl) fun x r h => by
    obtain ⟨a0, a1, ⟨⟩⟩ := x; obtain ⟨y, h1, h2⟩ := Option.bind_eq_some_iff.1 (show (m_impl_Pages a0 a1).bind (fun r => some ((r, ()), (()))) = some r from h); cases h2; exact (en_impl_Pages a0 a1).trans (eq_impl_Pages a0 a1 _ h1)
def m_impl_be (v n : Int) : Option ByteArray := if 0 ≤ n ∧ n ≤ 1000 then some (beS v n.toNat) else none
def fu_impl_be_4 (v0 v6 : Int) (r0 : List Int) : Nat := v6.toNat + 2
def sg_impl_be : Sig := ⟨[.rd (.int .i64), .rd (.int .i64)], [none, none], [.rd .str], [none]⟩
noncomputable def sd_impl_be : SD := ⟨sg_impl_be, fun x => (m_impl_be x.1 x.2.1).bind fun r => some ((r, ()), (()))⟩
noncomputable def ta_impl_be : Tb := Tb.of fun f => none
def pa_impl_be : Nat → Pat × (Nat → Pat) := fun k => if k = 4 then (⟨[.row 5 0 5 (.int .u8)], [(0, .lf (.d (.int .i64))), (5, .lf (.row 0)), (6, .lf (.d (.int .i64)))], [.row 5 (.int .u8)]⟩, fun e => if e = 2 then ⟨[.row 5 0 5 (.int .u8)], [(5, .lf (.row 0))], [.row 5 (.int .u8)]⟩ else ⟨[], [], []⟩) else (⟨[], [], []⟩, fun _ => ⟨[], [], []⟩)
noncomputable def co_impl_be_4 : Code := (loopsIn (bodyOf Try.f90)).getD 0 .skip
noncomputable def tr_impl_be_4 {R : Type}  (NX : ((Int) × (Int) × (List Int) × Unit) → Option R) (X2 : ((List Int) × Unit) → Option R) (v0 : Int) (v6 : Int) (r0 : List Int) : Option R :=
  bif decide (v6 ≥ 0) then
    bif decide (0 ≤ v6) then
      bif decide (v6 < nI (List.length r0)) then
        bif decide (Int.toNat v6 < List.length r0) then NX (Int.fdiv v0 (2 ^ min (Int.toNat 8) 64), IntKind.wrap IntKind.i64 (v6 - 1), List.set r0 (Int.toNat v6) (IntKind.wrap IntKind.u8 v0), ())
        else none
      else none
    else none
  else X2 (r0, ())
noncomputable def lo_impl_be_4 : Nat → (Int) → (Int) → (List Int) →  Option ((List Int) × Unit)
  | 0, _, _, _ => none
  | m + 1, v0, v6, r0 => tr_impl_be_4  (fun d => lo_impl_be_4 m d.1 d.2.1 d.2.2.1) (fun d => some (d)) v0 v6 r0
theorem na_impl_be_4 {R S : Type}  (NX : ((Int) × (Int) × (List Int) × Unit) → Option R) (X2 : ((List Int) × Unit) → Option R) (v0 : Int) (v6 : Int) (r0 : List Int) (f : R → Option S) : tr_impl_be_4  (fun d => (NX d).bind f) (fun d => (X2 d).bind f) v0 v6 r0 = (tr_impl_be_4  NX X2 v0 v6 r0).bind f := by
  unfold tr_impl_be_4
  simp only [cond_bind, ite_bind, onSum_bind, Option.bind_assoc, Option.bind_none, Option.bind_some]
noncomputable def de_impl_be (a0 : Int) (a1 : Int) : Option ((((ByteArray) × Unit) × (Unit))) :=
  bif decide (a1 = a1) then
    bif decide (0 ≤ a1) then
      bif decide (Int.toNat a1 * 1 ≤ 140737488355328) then Option.bind ((fun d => lo_impl_be_4 (fu_impl_be_4 d.1 d.2.1 d.2.2.1) d.1 d.2.1 d.2.2.1) (a0, IntKind.wrap IntKind.i64 (a1 - 1), List.replicate (Int.toNat a1) 0, ())) fun val => some ((strOfNums val.fst, ()), ())
      else none
    else none
  else none
theorem be_loop : ∀ (k m : Nat) (v : Int) (l t : List Int), l.length = k → k ≤ 1000 → k < m → lo_impl_be_4 m v ((k : Int) - 1) (l ++ t) = some (digL v k ++ t, ())
  | 0, m + 1, v, l, t, hl, hk, hm => by
    obtain rfl : l = [] := List.length_eq_zero_iff.1 hl
    simp only [lo_impl_be_4, tr_impl_be_4]
    rw [decide_eq_false (by omega)]
    rfl
  | k + 1, m + 1, v, l, t, hl, hk, hm => by
    have e : (((k + 1 : Nat) : Int) - 1) = (k : Int) := by omega
    rw [e]
    simp only [lo_impl_be_4, tr_impl_be_4]
    have hlen : (l ++ t).length = k + 1 + t.length := by rw [List.length_append, hl]
    rw [decide_eq_true (show (k : Int) ≥ 0 by omega), decide_eq_true (show (k : Int) < nI (l ++ t).length by simp only [nI, hlen]; omega), decide_eq_true (show Int.toNat (k : Int) < (l ++ t).length by rw [hlen]; omega), wrap_ok (by omega) (by omega)]
    simp only [cond_true, Int.toNat_natCast]
    obtain ⟨l', x, rfl⟩ : ∃ l' x, l = l' ++ [x] := ⟨l.dropLast, l.getLast (by intro h; subst h; simp at hl), (List.dropLast_concat_getLast _).symm⟩
    have hl' : l'.length = k := by simpa using hl
    have hs : ((l' ++ [x]) ++ t).set k (IntKind.wrap IntKind.u8 v) = l' ++ (v % 256 :: t) := by
      rw [List.append_assoc, List.set_append_right _ _ (by omega), hl']
      simp only [Nat.sub_self, List.singleton_append, List.set_cons_zero]
      rfl
    rw [hs]
    have := be_loop k m (v / 256) l' (v % 256 :: t) hl' (by omega) (by omega)
    have e2 : Int.fdiv v (2 ^ min (Int.toNat 8) 64) = v / 256 := by
      show Int.fdiv v 256 = v / 256
      exact Int.fdiv_eq_ediv_of_nonneg _ (by omega)
    rw [e2, this]
    simp only [digL, List.append_assoc, List.singleton_append]
theorem eq_impl_be (a0 : Int) (a1 : Int) r (h : m_impl_be a0 a1 = some r) : de_impl_be a0 a1 = some ((r, ()), (())) := by
  unfold m_impl_be at h
  split at h
  · rename_i hc
    cases h
    obtain ⟨n, rfl⟩ : ∃ n : Nat, a1 = (n : Int) := ⟨a1.toNat, by omega⟩
    unfold de_impl_be
    rw [decide_eq_true rfl, decide_eq_true hc.1, decide_eq_true (show Int.toNat (n : Int) * 1 ≤ 140737488355328 by omega), wrap_ok (by omega) (by omega)]
    have hL := be_loop n (fu_impl_be_4 a0 ((n : Int) - 1) (List.replicate n 0)) a0 (List.replicate n 0) [] (by simp) (by omega) (by simp only [fu_impl_be_4]; omega)
    rw [List.append_nil, List.append_nil] at hL
    exact bi_ hL rfl
  · cases h
noncomputable def ou_impl_be_4 {R : Type} (k : Kt R) : ((List Int) × Unit) → Option R := (fun d => k (.exit 0) (((pa_impl_be 4).2 2).st d) (((pa_impl_be 4).2 2).nid))
noncomputable def L_impl_be {R : Type} : Lt R pa_impl_be := (addL (pat := pa_impl_be) 4 (fun d k => (lo_impl_be_4 (fu_impl_be_4 d.1 d.2.1 d.2.2.1) d.1 d.2.1 d.2.2.1).bind (ou_impl_be_4 k)) noL)
theorem rd_impl_be_4 {R : Type} (nx : (pa_impl_be 4).1.D → Kt R → Option R) (k : Kt R) (v0 : Int) (v6 : Int) (r0 : List Int) : ev Try.prog ⟨ta_impl_be, 0, 24, pa_impl_be⟩ L_impl_be co_impl_be_4 ((pa_impl_be 4).1.st (v0, v6, r0, ())) (pa_impl_be 4).1.nid (roundK 0 (pa_impl_be 4) nx k) = tr_impl_be_4  (fun d => nx d k) (fun d => k (.exit 0) (((pa_impl_be 4).2 2).st d) (((pa_impl_be 4).2 2).nid)) v0 v6 r0 := by kernel_rfl
theorem lp_impl_be_4 {R : Type} : ∀ (m : Nat) (d : (pa_impl_be 4).1.D) (k : Kt R), loopN 0 (pa_impl_be 4) (fun s nid k => ev Try.prog ⟨ta_impl_be, 0, 24, pa_impl_be⟩ L_impl_be co_impl_be_4 s nid k) m d k = (lo_impl_be_4 m d.1 d.2.1 d.2.2.1).bind (ou_impl_be_4 k)
  | 0, _, _ => rfl
  | m + 1, ⟨v0, v6, r0, ⟨⟩⟩, k => (rd_impl_be_4 _ k v0 v6 r0).trans ((congrArg (fun F => tr_impl_be_4  F (fun d => k (.exit 0) (((pa_impl_be 4).2 2).st d) (((pa_impl_be 4).2 2).nid)) v0 v6 r0) (funext fun d => lp_impl_be_4 m d k)).trans (na_impl_be_4 (f := ou_impl_be_4 k)  (fun d => lo_impl_be_4 m d.1 d.2.1 d.2.2.1) (fun d => some (d)) v0 v6 r0))
theorem en_impl_be (a0 : Int) (a1 : Int) : evalF Try.prog ta_impl_be pa_impl_be sg_impl_be Try.f90 L_impl_be (a0, a1, ()) = de_impl_be a0 a1 := by kernel_rfl
theorem si_impl_be : SigsOk Try.prog ta_impl_be := SigsOk.of fun f sd h => by
  try dsimp only [Tb.of, ta_impl_be] at h
  cases h
theorem lk_impl_be_4 {R : Type} : LoopOk Try.prog R 24 0 pa_impl_be L_impl_be co_impl_be_4 :=
  loop_key (cfg := ⟨ta_impl_be, 0, 24, pa_impl_be⟩) (key := 4) (by kernel_rfl) (by kernel_rfl) si_impl_be rfl rfl (fun d k r h => ⟨fu_impl_be_4 d.1 d.2.1 d.2.2.1, (lp_impl_be_4 _ d k).trans h⟩) (fun c hc => by rw [show loopsIn co_impl_be_4 = [] from by kernel_rfl] at hc; cases hc)
theorem sn_impl_be : Callable Try.prog 90 ∧ Sound Try.prog 90 sd_impl_be.sg sd_impl_be.den :=
  fn_loops (pat := pa_impl_be) L_impl_be (by kernel_rfl) si_impl_be Try.func90 (by kernel_rfl) (by kernel_rfl) (fun c hc => by rw [show loopsIn (bodyOf Try.f90) = [co_impl_be_4] from by kernel_rfl] at hc; simp only [List.mem_cons, List.not_mem_nil, or_false] at hc; rcases hc with rfl <;> first | exact lk_impl_be_4) fun x r h => by
    obtain ⟨a0, a1, ⟨⟩⟩ := x; obtain ⟨y, h1, h2⟩ := Option.bind_eq_some_iff.1 (show (m_impl_be a0 a1).bind (fun r => some ((r, ()), (()))) = some r from h); cases h2; exact (en_impl_be a0 a1).trans (eq_impl_be a0 a1 _ h1)
def m_impl_ValidBatch (b : List Chg) : Bool := validBatch b
def sg_impl_ValidBatch : Sig := ⟨[.rd (.sl (.pair .str (.pair .str (.pair .bool .unit))))], [none], [.rd .bool], [none]⟩
noncomputable def sd_impl_ValidBatch : SD := ⟨sg_impl_ValidBatch, fun x => some (((m_impl_ValidBatch x.1), ()), (()))⟩
noncomputable def ta_impl_ValidBatch : Tb := Tb.of fun f => if f = 67 then some sd_impl_in else if f = 112 then some sd_impl_goodKey else none
def pa_impl_ValidBatch : Nat → Pat × (Nat → Pat) := fun k => if k = 5 then (⟨[.sl 9 0 (.pair .str (.pair .str (.pair .bool .unit)))], [(9, .lf (.d (.sl (.pair .str (.pair .str (.pair .bool .unit)))))), (10, .lf (.d (.int .i64))), (11, .lf (.d (.int .i64)))], []⟩, fun e => if e = 1 then ⟨[], [(2, .lf (.d .bool))], []⟩ else if e = 2 then ⟨[], [], []⟩ else ⟨[], [], []⟩) else (⟨[], [], []⟩, fun _ => ⟨[], [], []⟩)
noncomputable def co_impl_ValidBatch_5 : Code := (loopsIn (bodyOf Try.f102)).getD 0 .skip
def fu_impl_ValidBatch_5 (v9 : List (ByteArray × ByteArray × Bool × Unit)) (v10 : Int) (v11 : Int) : Nat := (v10 - v11).toNat + 1
noncomputable def tr_impl_ValidBatch_5 {R : Type}  (NX : ((List (ByteArray × ByteArray × Bool × Unit)) × (Int) × (Int) × Unit) → Option R) (X2 : (Unit) → Option R) (X1 : ((Bool) × Unit) → Option R) (v9 : List (ByteArray × ByteArray × Bool × Unit)) (v10 : Int) (v11 : Int) : Option R :=
  bif decide (v11 < v10) then
    bif decide (0 ≤ v11) then
      bif decide (v11 < nI (List.length v9)) then
        bif !m_impl_goodKey (List.getD v9 (Int.toNat v11) (ByteArray.mk #[], ByteArray.mk #[], false, ())).fst then X1 (false, ())
        else
          bif decide (nI (ByteArray.size (List.getD v9 (Int.toNat v11) (ByteArray.mk #[], ByteArray.mk #[], false, ())).snd.fst) > 100) then X1 (false, ())
          else
            bif (List.getD v9 (Int.toNat v11) (ByteArray.mk #[], ByteArray.mk #[], false, ())).snd.snd.fst then
              bif !ByteArray.toList (List.getD v9 (Int.toNat v11) (ByteArray.mk #[], ByteArray.mk #[], false, ())).snd.fst == ByteArray.toList (ByteArray.mk #[]) then X1 (false, ())
              else NX (v9, v10, IntKind.wrap IntKind.i64 (v11 + 1), ())
            else NX (v9, v10, IntKind.wrap IntKind.i64 (v11 + 1), ())
      else none
    else none
  else X2 PUnit.unit
noncomputable def lo_impl_ValidBatch_5 : Nat → (List (ByteArray × ByteArray × Bool × Unit)) → (Int) → (Int) →  Option ((Unit) ⊕ ((Bool) × Unit))
  | 0, _, _, _ => none
  | m + 1, v9, v10, v11 => tr_impl_ValidBatch_5  (fun d => lo_impl_ValidBatch_5 m d.1 d.2.1 d.2.2.1) (fun d => some (.inl (d))) (fun d => some (.inr (d))) v9 v10 v11
theorem na_impl_ValidBatch_5 {R S : Type}  (NX : ((List (ByteArray × ByteArray × Bool × Unit)) × (Int) × (Int) × Unit) → Option R) (X2 : (Unit) → Option R) (X1 : ((Bool) × Unit) → Option R) (v9 : List (ByteArray × ByteArray × Bool × Unit)) (v10 : Int) (v11 : Int) (f : R → Option S) : tr_impl_ValidBatch_5  (fun d => (NX d).bind f) (fun d => (X2 d).bind f) (fun d => (X1 d).bind f) v9 v10 v11 = (tr_impl_ValidBatch_5  NX X2 X1 v9 v10 v11).bind f := by
  unfold tr_impl_ValidBatch_5
  simp only [cond_bind, ite_bind, onSum_bind, Option.bind_assoc, Option.bind_none, Option.bind_some]
noncomputable def de_impl_ValidBatch (a0 : List (ByteArray × ByteArray × Bool × Unit)) : Option ((((Bool) × Unit) × (Unit))) :=
  bif !m_impl_in (nI (List.length a0)) 1 20 then some ((false, ()), ())
  else Option.bind ((fun d => lo_impl_ValidBatch_5 (fu_impl_ValidBatch_5 d.1 d.2.1 d.2.2.1) d.1 d.2.1 d.2.2.1) (a0, nI (List.length a0), 0, ())) fun val => onSum (fun val => some ((true, ()), ())) (fun val => some ((val.fst, ()), ())) val
theorem eq_impl_ValidBatch (a0 : List (ByteArray × ByteArray × Bool × Unit)) : de_impl_ValidBatch a0 = some (((m_impl_ValidBatch a0), ()), (())) := by
  unfold de_impl_ValidBatch m_impl_ValidBatch validBatch
  have tl : ByteArray.toList (ByteArray.mk #[]) = [] := by decide +kernel
  show (bif !inB (a0.length : Int) 1 20 then _ else _) = _
  cases hin : inB (a0.length : Int) 1 20 with
  | false => rfl
  | true =>
    have hlen : a0.length ≤ 20 := by have := (inB_r hin).2; omega
    have hL := all_loop (n := a0.length) (fun i => okChg (a0.getD i zC)) (g := fun m i => lo_impl_ValidBatch_5 m a0 (nI a0.length) i) (ok := .inl ()) (bad := .inr (false, ())) (fun m i hi => by
      show lo_impl_ValidBatch_5 (m + 1) a0 (nI a0.length) i = _
      simp only [lo_impl_ValidBatch_5, tr_impl_ValidBatch_5]
      rw [tl, cLt hi, cLe0, wI (show i < 4611686018427387904 by omega), Int.toNat_natCast]
      have g1 : decide (nI (ByteArray.size (List.getD a0 i (ByteArray.mk #[], ByteArray.mk #[], false, ())).2.1) > 100) = !decide ((a0.getD i zC).2.1.size ≤ 100) := gt100 _ 100
      rw [g1]
      show (bif !keyOk (a0.getD i zC).1 then _ else (bif _ then _ else (bif (a0.getD i zC).2.2.1 then (bif !((a0.getD i zC).2.1.toList == []) then _ else _) else _))) = _
      unfold okChg
      cases keyOk (a0.getD i zC).1 <;> cases decide ((a0.getD i zC).2.1.size ≤ 100) <;> cases (a0.getD i zC).2.2.1 <;> cases ((a0.getD i zC).2.1.toList == []) <;> rfl) (fun m => by
      show lo_impl_ValidBatch_5 (m + 1) a0 (nI a0.length) (a0.length : Int) = _
      simp only [lo_impl_ValidBatch_5, tr_impl_ValidBatch_5]
      rw [cLtF]
      rfl) (fu_impl_ValidBatch_5 a0 (nI a0.length) 0) 0 (by omega) (by simp [fu_impl_ValidBatch_5, nI])
    refine bi_ hL ?_
    rw [Nat.sub_zero]
    cases (List.range' 0 a0.length).all (fun i => okChg (a0.getD i zC)) <;> rfl
noncomputable def ou_impl_ValidBatch_5 {R : Type} (k : Kt R) : ((Unit) ⊕ ((Bool) × Unit)) → Option R := (onSum (fun d => k (.exit 0) (((pa_impl_ValidBatch 5).2 2).st d) (((pa_impl_ValidBatch 5).2 2).nid)) (fun d => k .ret (((pa_impl_ValidBatch 5).2 1).st d) (((pa_impl_ValidBatch 5).2 1).nid)))
noncomputable def L_impl_ValidBatch {R : Type} : Lt R pa_impl_ValidBatch := (addL (pat := pa_impl_ValidBatch) 5 (fun d k => (lo_impl_ValidBatch_5 (fu_impl_ValidBatch_5 d.1 d.2.1 d.2.2.1) d.1 d.2.1 d.2.2.1).bind (ou_impl_ValidBatch_5 k)) noL)
theorem rd_impl_ValidBatch_5 {R : Type} (nx : (pa_impl_ValidBatch 5).1.D → Kt R → Option R) (k : Kt R) (v9 : List (ByteArray × ByteArray × Bool × Unit)) (v10 : Int) (v11 : Int) : ev Try.prog ⟨ta_impl_ValidBatch, 0, 35, pa_impl_ValidBatch⟩ L_impl_ValidBatch co_impl_ValidBatch_5 ((pa_impl_ValidBatch 5).1.st (v9, v10, v11, ())) (pa_impl_ValidBatch 5).1.nid (roundK 0 (pa_impl_ValidBatch 5) nx k) = tr_impl_ValidBatch_5  (fun d => nx d k) (fun d => k (.exit 0) (((pa_impl_ValidBatch 5).2 2).st d) (((pa_impl_ValidBatch 5).2 2).nid)) (fun d => k .ret (((pa_impl_ValidBatch 5).2 1).st d) (((pa_impl_ValidBatch 5).2 1).nid)) v9 v10 v11 := by kernel_rfl
theorem lp_impl_ValidBatch_5 {R : Type} : ∀ (m : Nat) (d : (pa_impl_ValidBatch 5).1.D) (k : Kt R), loopN 0 (pa_impl_ValidBatch 5) (fun s nid k => ev Try.prog ⟨ta_impl_ValidBatch, 0, 35, pa_impl_ValidBatch⟩ L_impl_ValidBatch co_impl_ValidBatch_5 s nid k) m d k = (lo_impl_ValidBatch_5 m d.1 d.2.1 d.2.2.1).bind (ou_impl_ValidBatch_5 k)
  | 0, _, _ => rfl
  | m + 1, ⟨v9, v10, v11, ⟨⟩⟩, k => (rd_impl_ValidBatch_5 _ k v9 v10 v11).trans ((congrArg (fun F => tr_impl_ValidBatch_5  F (fun d => k (.exit 0) (((pa_impl_ValidBatch 5).2 2).st d) (((pa_impl_ValidBatch 5).2 2).nid)) (fun d => k .ret (((pa_impl_ValidBatch 5).2 1).st d) (((pa_impl_ValidBatch 5).2 1).nid)) v9 v10 v11) (funext fun d => lp_impl_ValidBatch_5 m d k)).trans (na_impl_ValidBatch_5 (f := ou_impl_ValidBatch_5 k)  (fun d => lo_impl_ValidBatch_5 m d.1 d.2.1 d.2.2.1) (fun d => some (.inl (d))) (fun d => some (.inr (d))) v9 v10 v11))
theorem en_impl_ValidBatch (a0 : List (ByteArray × ByteArray × Bool × Unit)) : evalF Try.prog ta_impl_ValidBatch pa_impl_ValidBatch sg_impl_ValidBatch Try.f102 L_impl_ValidBatch (a0, ()) = de_impl_ValidBatch a0 := by kernel_rfl
theorem si_impl_ValidBatch : SigsOk Try.prog ta_impl_ValidBatch := SigsOk.of fun f sd h => by
  try dsimp only [Tb.of, ta_impl_ValidBatch] at h
  split at h
  · rename_i e; subst e; cases h; exact sn_impl_in
  split at h
  · rename_i e; subst e; cases h; exact sn_impl_goodKey
  cases h
theorem lk_impl_ValidBatch_5 {R : Type} : LoopOk Try.prog R 35 0 pa_impl_ValidBatch L_impl_ValidBatch co_impl_ValidBatch_5 :=
  loop_key (cfg := ⟨ta_impl_ValidBatch, 0, 35, pa_impl_ValidBatch⟩) (key := 5) (by kernel_rfl) (by kernel_rfl) si_impl_ValidBatch rfl rfl (fun d k r h => ⟨fu_impl_ValidBatch_5 d.1 d.2.1 d.2.2.1, (lp_impl_ValidBatch_5 _ d k).trans h⟩) (fun c hc => by rw [show loopsIn co_impl_ValidBatch_5 = [] from by kernel_rfl] at hc; cases hc)
theorem sn_impl_ValidBatch : Callable Try.prog 102 ∧ Sound Try.prog 102 sd_impl_ValidBatch.sg sd_impl_ValidBatch.den :=
  fn_loops (pat := pa_impl_ValidBatch) L_impl_ValidBatch (by kernel_rfl) si_impl_ValidBatch Try.func102 (by kernel_rfl) (by kernel_rfl) (fun c hc => by rw [show loopsIn (bodyOf Try.f102) = [co_impl_ValidBatch_5] from by kernel_rfl] at hc; simp only [List.mem_cons, List.not_mem_nil, or_false] at hc; rcases hc with rfl <;> first | exact lk_impl_ValidBatch_5) fun x r h => by
    obtain ⟨a0, ⟨⟩⟩ := x; rw [← h]; exact (en_impl_ValidBatch a0).trans (eq_impl_ValidBatch a0)
def m_impl_FormBatch (b : List Chg) : ByteArray := formB b
def sg_impl_FormBatch : Sig := ⟨[.rd (.sl (.pair .str (.pair .str (.pair .bool .unit))))], [none], [.rd .str], [none]⟩
noncomputable def sd_impl_FormBatch : SD := ⟨sg_impl_FormBatch, fun x => some (((m_impl_FormBatch x.1), ()), (()))⟩
noncomputable def ta_impl_FormBatch : Tb := ⟨fun f => if f = 90 then some sd_impl_be else if f = 102 then some sd_impl_ValidBatch else none, fun f => if f = 110 then some Try.f110 else none, some (160, 158), some (111, 158, 5)⟩
def pa_impl_FormBatch : Nat → Pat × (Nat → Pat) := fun k => if k = 6 then (⟨[.sl 9 0 (.pair .str (.pair .str (.pair .bool .unit))), .self 3 0, .boxRow 3 1 5 (.int .u8)], [(3, .lf (.ptr 0 0)), (9, .lf (.d (.sl (.pair .str (.pair .str (.pair .bool .unit)))))), (10, .lf (.d (.int .i64))), (11, .lf (.d (.int .i64)))], [.box 158 [.sp 0, .row 1], .row 5 (.int .u8)]⟩, fun e => if e = 2 then ⟨[.self 3 0, .boxRow 3 1 5 (.int .u8)], [(3, .lf (.ptr 0 0))], [.box 158 [.sp 0, .row 1], .row 5 (.int .u8)]⟩ else ⟨[], [], []⟩) else (⟨[], [], []⟩, fun _ => ⟨[], [], []⟩)
noncomputable def co_impl_FormBatch_6 : Code := (loopsIn (bodyOf Try.f44)).getD 0 .skip
def fu_impl_FormBatch_6 (v9 : List (ByteArray × ByteArray × Bool × Unit)) (v10 : Int) (v11 : Int) (r1 : List Int) : Nat := (v10 - v11).toNat + 1
noncomputable def tr_impl_FormBatch_6 {R : Type}  (NX : ((List (ByteArray × ByteArray × Bool × Unit)) × (Int) × (Int) × (List Int) × Unit) → Option R) (X2 : ((List Int) × Unit) → Option R) (v9 : List (ByteArray × ByteArray × Bool × Unit)) (v10 : Int) (v11 : Int) (r1 : List Int) : Option R :=
  bif decide (v11 < v10) then
    bif decide (0 ≤ v11) then
      bif decide (v11 < nI (List.length v9)) then
        bif (List.getD v9 (Int.toNat v11) (ByteArray.mk #[], ByteArray.mk #[], false, ())).snd.snd.fst then
          bif
              decide
                (ByteArray.size (ByteArray.mk #[1] ++ beS (nI (ByteArray.size (List.getD v9 (Int.toNat v11) (ByteArray.mk #[], ByteArray.mk #[], false, ())).fst)) (Int.toNat 1)) +
                    ByteArray.size (List.getD v9 (Int.toNat v11) (ByteArray.mk #[], ByteArray.mk #[], false, ())).fst ≤
                  9223372036854775807) then
            bif
                decide
                  (List.length r1 +
                      ByteArray.size
                        (ByteArray.mk #[1] ++ beS (nI (ByteArray.size (List.getD v9 (Int.toNat v11) (ByteArray.mk #[], ByteArray.mk #[], false, ())).fst)) (Int.toNat 1) ++
                          (List.getD v9 (Int.toNat v11) (ByteArray.mk #[], ByteArray.mk #[], false, ())).fst) ≤
                    140737488355328) then
              NX
                (v9, v10, IntKind.wrap IntKind.i64 (v11 + 1),
                  r1 ++
                    bytesOfStr
                      (ByteArray.mk #[1] ++ beS (nI (ByteArray.size (List.getD v9 (Int.toNat v11) (ByteArray.mk #[], ByteArray.mk #[], false, ())).fst)) (Int.toNat 1) ++
                        (List.getD v9 (Int.toNat v11) (ByteArray.mk #[], ByteArray.mk #[], false, ())).fst),
                  ())
            else none
          else none
        else
          bif
              decide
                (ByteArray.size (ByteArray.mk #[0] ++ beS (nI (ByteArray.size (List.getD v9 (Int.toNat v11) (ByteArray.mk #[], ByteArray.mk #[], false, ())).fst)) (Int.toNat 1)) +
                    ByteArray.size (List.getD v9 (Int.toNat v11) (ByteArray.mk #[], ByteArray.mk #[], false, ())).fst ≤
                  9223372036854775807) then
            bif
                decide
                  (ByteArray.size
                        (ByteArray.mk #[0] ++ beS (nI (ByteArray.size (List.getD v9 (Int.toNat v11) (ByteArray.mk #[], ByteArray.mk #[], false, ())).fst)) (Int.toNat 1) ++
                          (List.getD v9 (Int.toNat v11) (ByteArray.mk #[], ByteArray.mk #[], false, ())).fst) +
                      ByteArray.size (beS (nI (ByteArray.size (List.getD v9 (Int.toNat v11) (ByteArray.mk #[], ByteArray.mk #[], false, ())).snd.fst)) (Int.toNat 1)) ≤
                    9223372036854775807) then
              bif
                  decide
                    (ByteArray.size
                          (ByteArray.mk #[0] ++ beS (nI (ByteArray.size (List.getD v9 (Int.toNat v11) (ByteArray.mk #[], ByteArray.mk #[], false, ())).fst)) (Int.toNat 1) ++
                              (List.getD v9 (Int.toNat v11) (ByteArray.mk #[], ByteArray.mk #[], false, ())).fst ++
                            beS (nI (ByteArray.size (List.getD v9 (Int.toNat v11) (ByteArray.mk #[], ByteArray.mk #[], false, ())).snd.fst)) (Int.toNat 1)) +
                        ByteArray.size (List.getD v9 (Int.toNat v11) (ByteArray.mk #[], ByteArray.mk #[], false, ())).snd.fst ≤
                      9223372036854775807) then
                bif
                    decide
                      (List.length r1 +
                          ByteArray.size
                            (ByteArray.mk #[0] ++ beS (nI (ByteArray.size (List.getD v9 (Int.toNat v11) (ByteArray.mk #[], ByteArray.mk #[], false, ())).fst)) (Int.toNat 1) ++
                                  (List.getD v9 (Int.toNat v11) (ByteArray.mk #[], ByteArray.mk #[], false, ())).fst ++
                                beS (nI (ByteArray.size (List.getD v9 (Int.toNat v11) (ByteArray.mk #[], ByteArray.mk #[], false, ())).snd.fst)) (Int.toNat 1) ++
                              (List.getD v9 (Int.toNat v11) (ByteArray.mk #[], ByteArray.mk #[], false, ())).snd.fst) ≤
                        140737488355328) then
                  NX
                    (v9, v10, IntKind.wrap IntKind.i64 (v11 + 1),
                      r1 ++
                        bytesOfStr
                          (ByteArray.mk #[0] ++ beS (nI (ByteArray.size (List.getD v9 (Int.toNat v11) (ByteArray.mk #[], ByteArray.mk #[], false, ())).fst)) (Int.toNat 1) ++
                                (List.getD v9 (Int.toNat v11) (ByteArray.mk #[], ByteArray.mk #[], false, ())).fst ++
                              beS (nI (ByteArray.size (List.getD v9 (Int.toNat v11) (ByteArray.mk #[], ByteArray.mk #[], false, ())).snd.fst)) (Int.toNat 1) ++
                            (List.getD v9 (Int.toNat v11) (ByteArray.mk #[], ByteArray.mk #[], false, ())).snd.fst),
                      ())
                else none
              else none
            else none
          else none
      else none
    else none
  else X2 (r1, ())
noncomputable def lo_impl_FormBatch_6 : Nat → (List (ByteArray × ByteArray × Bool × Unit)) → (Int) → (Int) → (List Int) →  Option ((List Int) × Unit)
  | 0, _, _, _, _ => none
  | m + 1, v9, v10, v11, r1 => tr_impl_FormBatch_6  (fun d => lo_impl_FormBatch_6 m d.1 d.2.1 d.2.2.1 d.2.2.2.1) (fun d => some (d)) v9 v10 v11 r1
theorem na_impl_FormBatch_6 {R S : Type}  (NX : ((List (ByteArray × ByteArray × Bool × Unit)) × (Int) × (Int) × (List Int) × Unit) → Option R) (X2 : ((List Int) × Unit) → Option R) (v9 : List (ByteArray × ByteArray × Bool × Unit)) (v10 : Int) (v11 : Int) (r1 : List Int) (f : R → Option S) : tr_impl_FormBatch_6  (fun d => (NX d).bind f) (fun d => (X2 d).bind f) v9 v10 v11 r1 = (tr_impl_FormBatch_6  NX X2 v9 v10 v11 r1).bind f := by
  unfold tr_impl_FormBatch_6
  simp only [cond_bind, ite_bind, onSum_bind, Option.bind_assoc, Option.bind_none, Option.bind_some]
noncomputable def de_impl_FormBatch (a0 : List (ByteArray × ByteArray × Bool × Unit)) : Option ((((ByteArray) × Unit) × (Unit))) :=
  bif !m_impl_ValidBatch a0 then some ((ByteArray.mk #[], ()), ())
  else Option.bind ((fun d => lo_impl_FormBatch_6 (fu_impl_FormBatch_6 d.1 d.2.1 d.2.2.1 d.2.2.2.1) d.1 d.2.1 d.2.2.1 d.2.2.2.1) (a0, nI (List.length a0), 0, [], ())) fun val => bif allBytes val.fst then some ((strOfNums val.fst, ()), ()) else none
theorem eq_impl_FormBatch (a0 : List (ByteArray × ByteArray × Bool × Unit)) : de_impl_FormBatch a0 = some ((m_impl_FormBatch a0, ()), (())) := by
  unfold de_impl_FormBatch m_impl_FormBatch formB
  show (bif !validBatch a0 then _ else _) = _
  cases hv : validBatch a0 with
  | false => rfl
  | true =>
    obtain ⟨hlen, hok⟩ := validBatch_at hv
    have hL := up_loop a0.length BatOk (fun i r => r ++ chgL (a0.getD i zC)) (g := fun m i r => lo_impl_FormBatch_6 m a0 (nI a0.length) i r) (ok := fun r => (r, ())) (fun m i r hi hr => by
      show lo_impl_FormBatch_6 (m + 1) a0 (nI a0.length) i r = _
      simp only [lo_impl_FormBatch_6, tr_impl_FormBatch_6]
      have hc := hok i hi
      obtain ⟨k1, k2, k3⟩ := okChg_len hc
      rw [cLt hi, cLe0, wI (show i < 4611686018427387904 by omega), Int.toNat_natCast]
      show (bif (a0.getD i zC).2.2.1 then (bif decide (ByteArray.size (ByteArray.mk #[1] ++ beS (nI (ByteArray.size (a0.getD i zC).1)) 1) + ByteArray.size (a0.getD i zC).1 ≤ 9223372036854775807) then (bif decide (List.length r + ByteArray.size (ByteArray.mk #[1] ++ beS (nI (ByteArray.size (a0.getD i zC).1)) 1 ++ (a0.getD i zC).1) ≤ 140737488355328) then lo_impl_FormBatch_6 m a0 (nI a0.length) ((i + 1 : Nat) : Int) (r ++ bytesOfStr (ByteArray.mk #[1] ++ beS (nI (ByteArray.size (a0.getD i zC).1)) 1 ++ (a0.getD i zC).1)) else none) else none) else (bif decide (ByteArray.size (ByteArray.mk #[0] ++ beS (nI (ByteArray.size (a0.getD i zC).1)) 1) + ByteArray.size (a0.getD i zC).1 ≤ 9223372036854775807) then (bif decide (ByteArray.size (ByteArray.mk #[0] ++ beS (nI (ByteArray.size (a0.getD i zC).1)) 1 ++ (a0.getD i zC).1) + ByteArray.size (beS (nI (ByteArray.size (a0.getD i zC).2.1)) 1) ≤ 9223372036854775807) then (bif decide (ByteArray.size (ByteArray.mk #[0] ++ beS (nI (ByteArray.size (a0.getD i zC).1)) 1 ++ (a0.getD i zC).1 ++ beS (nI (ByteArray.size (a0.getD i zC).2.1)) 1) + ByteArray.size (a0.getD i zC).2.1 ≤ 9223372036854775807) then (bif decide (List.length r + ByteArray.size (ByteArray.mk #[0] ++ beS (nI (ByteArray.size (a0.getD i zC).1)) 1 ++ (a0.getD i zC).1 ++ beS (nI (ByteArray.size (a0.getD i zC).2.1)) 1 ++ (a0.getD i zC).2.1) ≤ 140737488355328) then lo_impl_FormBatch_6 m a0 (nI a0.length) ((i + 1 : Nat) : Int) (r ++ bytesOfStr (ByteArray.mk #[0] ++ beS (nI (ByteArray.size (a0.getD i zC).1)) 1 ++ (a0.getD i zC).1 ++ beS (nI (ByteArray.size (a0.getD i zC).2.1)) 1 ++ (a0.getD i zC).2.1)) else none) else none) else none) else none)) = lo_impl_FormBatch_6 m a0 (nI a0.length) ((i + 1 : Nat) : Int) (r ++ chgL (a0.getD i zC))
      have hr1 := hr.1
      generalize a0.getD i zC = c at *
      have o1 : bytesOfStr (ByteArray.mk #[1]) = [1] := rfl
      have o0 : bytesOfStr (ByteArray.mk #[0]) = [0] := rfl
      have s1 : ByteArray.size (ByteArray.mk #[1]) = 1 := rfl
      have s0 : ByteArray.size (ByteArray.mk #[0]) = 1 := rfl
      simp only [bytes_app, bytes_be _ (show c.1.size < 256 by omega), bytes_be _ (show c.2.1.size < 256 by omega), o1, o0, ByteArray.size_append, beS_size, s1, s0]
      rw [decide_eq_true (show 1 + 1 + c.1.size ≤ 9223372036854775807 by omega), decide_eq_true (show r.length + (1 + 1 + c.1.size) ≤ 140737488355328 by omega), decide_eq_true (show 1 + 1 + c.1.size + 1 ≤ 9223372036854775807 by omega), decide_eq_true (show 1 + 1 + c.1.size + 1 + c.2.1.size ≤ 9223372036854775807 by omega), decide_eq_true (show r.length + (1 + 1 + c.1.size + 1 + c.2.1.size) ≤ 140737488355328 by omega)]
      unfold chgL
      cases c.2.2.1 <;> rfl) (fun m r _ => by
      show lo_impl_FormBatch_6 (m + 1) a0 (nI a0.length) (a0.length : Int) r = _
      simp only [lo_impl_FormBatch_6, tr_impl_FormBatch_6]
      rw [cLtF]
      rfl) (fun i r hi hr => hr.step (hok i hi)) a0.length (fu_impl_FormBatch_6 a0 (nI a0.length) 0 []) 0 [] (by omega) (by simp [fu_impl_FormBatch_6, nI]) ⟨by simp, rfl⟩
    have hB := iter_bat hok a0.length 0 [] (by omega) ⟨by simp, rfl⟩
    rw [iter_cat chgL zC a0 a0.length 0 [] (by omega), List.nil_append, List.drop_zero] at hL hB
    refine bi_ hL ?_
    show (bif allBytes (batchL a0) then some ((strOfNums (batchL a0), ()), ()) else none) = _
    have : allBytes (batchL a0) = true := hB.2
    rw [this]
    rfl
noncomputable def ou_impl_FormBatch_6 {R : Type} (k : Kt R) : ((List Int) × Unit) → Option R := (fun d => k (.exit 0) (((pa_impl_FormBatch 6).2 2).st d) (((pa_impl_FormBatch 6).2 2).nid))
noncomputable def L_impl_FormBatch {R : Type} : Lt R pa_impl_FormBatch := (addL (pat := pa_impl_FormBatch) 6 (fun d k => (lo_impl_FormBatch_6 (fu_impl_FormBatch_6 d.1 d.2.1 d.2.2.1 d.2.2.2.1) d.1 d.2.1 d.2.2.1 d.2.2.2.1).bind (ou_impl_FormBatch_6 k)) noL)
theorem rd_impl_FormBatch_6 {R : Type} (nx : (pa_impl_FormBatch 6).1.D → Kt R → Option R) (k : Kt R) (v9 : List (ByteArray × ByteArray × Bool × Unit)) (v10 : Int) (v11 : Int) (r1 : List Int) : ev Try.prog ⟨ta_impl_FormBatch, 0, 45, pa_impl_FormBatch⟩ L_impl_FormBatch co_impl_FormBatch_6 ((pa_impl_FormBatch 6).1.st (v9, v10, v11, r1, ())) (pa_impl_FormBatch 6).1.nid (roundK 0 (pa_impl_FormBatch 6) nx k) = tr_impl_FormBatch_6  (fun d => nx d k) (fun d => k (.exit 0) (((pa_impl_FormBatch 6).2 2).st d) (((pa_impl_FormBatch 6).2 2).nid)) v9 v10 v11 r1 := by kernel_rfl
theorem lp_impl_FormBatch_6 {R : Type} : ∀ (m : Nat) (d : (pa_impl_FormBatch 6).1.D) (k : Kt R), loopN 0 (pa_impl_FormBatch 6) (fun s nid k => ev Try.prog ⟨ta_impl_FormBatch, 0, 45, pa_impl_FormBatch⟩ L_impl_FormBatch co_impl_FormBatch_6 s nid k) m d k = (lo_impl_FormBatch_6 m d.1 d.2.1 d.2.2.1 d.2.2.2.1).bind (ou_impl_FormBatch_6 k)
  | 0, _, _ => rfl
  | m + 1, ⟨v9, v10, v11, r1, ⟨⟩⟩, k => (rd_impl_FormBatch_6 _ k v9 v10 v11 r1).trans ((congrArg (fun F => tr_impl_FormBatch_6  F (fun d => k (.exit 0) (((pa_impl_FormBatch 6).2 2).st d) (((pa_impl_FormBatch 6).2 2).nid)) v9 v10 v11 r1) (funext fun d => lp_impl_FormBatch_6 m d k)).trans (na_impl_FormBatch_6 (f := ou_impl_FormBatch_6 k)  (fun d => lo_impl_FormBatch_6 m d.1 d.2.1 d.2.2.1 d.2.2.2.1) (fun d => some (d)) v9 v10 v11 r1))
theorem en_impl_FormBatch (a0 : List (ByteArray × ByteArray × Bool × Unit)) : evalF Try.prog ta_impl_FormBatch pa_impl_FormBatch sg_impl_FormBatch Try.f44 L_impl_FormBatch (a0, ()) = de_impl_FormBatch a0 := by kernel_rfl
theorem si_impl_FormBatch : SigsOk Try.prog ta_impl_FormBatch where
  sd := fun f sd h => by
    try dsimp only [Tb.of, ta_impl_FormBatch] at h
    split at h
    · rename_i e; subst e; cases h; exact sn_impl_be
    split at h
    · rename_i e; subst e; cases h; exact sn_impl_ValidBatch
    cases h
  inl := fun f fn h => by
    simp only [ta_impl_FormBatch] at h
    split at h
    · rename_i e; subst e; cases h; exact ⟨Try.func110, by kernel_rfl, by kernel_rfl⟩
    cases h
  cc := fun f BT h => by cases h; exact ⟨⟨_, Try.func160, by kernel_rfl, by kernel_rfl⟩, cc_seat⟩
  st := fun f BT e h => by cases h; exact ⟨⟨_, Try.func111, by kernel_rfl, by kernel_rfl⟩, st_seat⟩
theorem lk_impl_FormBatch_6 {R : Type} : LoopOk Try.prog R 45 0 pa_impl_FormBatch L_impl_FormBatch co_impl_FormBatch_6 :=
  loop_key (cfg := ⟨ta_impl_FormBatch, 0, 45, pa_impl_FormBatch⟩) (key := 6) (by kernel_rfl) (by kernel_rfl) si_impl_FormBatch rfl rfl (fun d k r h => ⟨fu_impl_FormBatch_6 d.1 d.2.1 d.2.2.1 d.2.2.2.1, (lp_impl_FormBatch_6 _ d k).trans h⟩) (fun c hc => by rw [show loopsIn co_impl_FormBatch_6 = [] from by kernel_rfl] at hc; cases hc)
theorem sn_impl_FormBatch : Callable Try.prog 44 ∧ Sound Try.prog 44 sd_impl_FormBatch.sg sd_impl_FormBatch.den :=
  fn_loops (pat := pa_impl_FormBatch) L_impl_FormBatch (by kernel_rfl) si_impl_FormBatch Try.func44 (by kernel_rfl) (by kernel_rfl) (fun c hc => by rw [show loopsIn (bodyOf Try.f44) = [co_impl_FormBatch_6] from by kernel_rfl] at hc; simp only [List.mem_cons, List.not_mem_nil, or_false] at hc; rcases hc with rfl <;> first | exact lk_impl_FormBatch_6) fun x r h => by
    obtain ⟨a0, ⟨⟩⟩ := x; rw [← h]; exact (en_impl_FormBatch a0).trans (eq_impl_FormBatch a0)
def m_impl_Room (s : Stt) (w : Int) : Int := roomS s w
def sg_impl_Room : Sig := ⟨[.rd (.pair (.sl (.pair .str (.pair .str .unit))) .unit), .rd (.int .i64)], [some 1, none], [.rd (.int .i64)], [none]⟩
noncomputable def sd_impl_Room : SD := ⟨sg_impl_Room, fun x => some (((m_impl_Room x.1 x.2.1), ()), (()))⟩
noncomputable def ta_impl_Room : Tb := Tb.of fun f => if f = 42 then some sd_impl_Snapshot else if f = 43 then some sd_impl_Pages else if f = 44 then some sd_impl_FormBatch else if f = 67 then some sd_impl_in else none
def pa_impl_Room : Nat → Pat × (Nat → Pat) := fun k => if k = 6 then (⟨[.sl 12 0 (.sl (.pair .str (.pair .str (.pair .bool .unit))))], [(1, .lf (.d (.int .i64))), (5, .lf (.d (.int .i64))), (12, .lf (.d (.sl (.sl (.pair .str (.pair .str (.pair .bool .unit))))))), (13, .lf (.d (.int .i64))), (14, .lf (.d (.int .i64)))], []⟩, fun e => if e = 2 then ⟨[], [(5, .lf (.d (.int .i64)))], []⟩ else ⟨[], [], []⟩) else (⟨[], [], []⟩, fun _ => ⟨[], [], []⟩)
noncomputable def co_impl_Room_6 : Code := (loopsIn (bodyOf Try.f45)).getD 0 .skip
def fu_impl_Room_6 (v1 : Int) (v5 : Int) (v12 : List (List (ByteArray × ByteArray × Bool × Unit))) (v13 : Int) (v14 : Int) : Nat := (v13 - v14).toNat + 1
noncomputable def tr_impl_Room_6 {R : Type}  (NX : ((Int) × (Int) × (List (List (ByteArray × ByteArray × Bool × Unit))) × (Int) × (Int) × Unit) → Option R) (X2 : ((Int) × Unit) → Option R) (v1 : Int) (v5 : Int) (v12 : List (List (ByteArray × ByteArray × Bool × Unit))) (v13 : Int) (v14 : Int) : Option R :=
  bif decide (v14 < v13) then
    bif decide (0 ≤ v14) then
      bif decide (v14 < nI (List.length v12)) then
        Option.bind (Option.bind (m_impl_Pages (m_impl_FormBatch (List.getD v12 (Int.toNat v14) [])) v1) fun val => some ((val, ()), ())) fun val =>
          NX (v1, IntKind.wrap IntKind.i64 (v5 + val.fst.fst), v12, v13, IntKind.wrap IntKind.i64 (v14 + 1), ())
      else none
    else none
  else X2 (v5, ())
noncomputable def lo_impl_Room_6 : Nat → (Int) → (Int) → (List (List (ByteArray × ByteArray × Bool × Unit))) → (Int) → (Int) →  Option ((Int) × Unit)
  | 0, _, _, _, _, _ => none
  | m + 1, v1, v5, v12, v13, v14 => tr_impl_Room_6  (fun d => lo_impl_Room_6 m d.1 d.2.1 d.2.2.1 d.2.2.2.1 d.2.2.2.2.1) (fun d => some (d)) v1 v5 v12 v13 v14
theorem na_impl_Room_6 {R S : Type}  (NX : ((Int) × (Int) × (List (List (ByteArray × ByteArray × Bool × Unit))) × (Int) × (Int) × Unit) → Option R) (X2 : ((Int) × Unit) → Option R) (v1 : Int) (v5 : Int) (v12 : List (List (ByteArray × ByteArray × Bool × Unit))) (v13 : Int) (v14 : Int) (f : R → Option S) : tr_impl_Room_6  (fun d => (NX d).bind f) (fun d => (X2 d).bind f) v1 v5 v12 v13 v14 = (tr_impl_Room_6  NX X2 v1 v5 v12 v13 v14).bind f := by
  unfold tr_impl_Room_6
  simp only [cond_bind, ite_bind, onSum_bind, Option.bind_assoc, Option.bind_none, Option.bind_some]
noncomputable def de_impl_Room (a0 : (List (ByteArray × ByteArray × Unit)) × Unit) (a1 : Int) : Option ((((Int) × Unit) × (Unit))) :=
  bif !m_impl_in a1 1 8 then some ((0, ()), ()) else Option.bind ((fun d => lo_impl_Room_6 (fu_impl_Room_6 d.1 d.2.1 d.2.2.1 d.2.2.2.1 d.2.2.2.2.1) d.1 d.2.1 d.2.2.1 d.2.2.2.1 d.2.2.2.2.1) (a1, 0, m_impl_Snapshot (a0.fst, ()), nI (List.length (m_impl_Snapshot (a0.fst, ()))), 0, ())) fun val => some ((val.fst, ()), ())
theorem eq_impl_Room (a0 : Stt) (a1 : Int) : de_impl_Room a0 a1 = some (((m_impl_Room a0 a1), ()), (())) := by
  unfold de_impl_Room m_impl_Room
  show (bif !inB a1 1 8 then _ else _) = _
  cases hw : inB a1 1 8 with
  | false => unfold roomS; rw [hw]; rfl
  | true =>
    have hl := snapS_len a0
    have hL := foldi_loop (xs := snapS a0) [] SumI (fun _ b a => a + pagesN (formB b).size a1) (g := fun m i a => lo_impl_Room_6 m a1 a (snapS a0) (nI (snapS a0).length) i) (ok := fun a => (a, ())) (fun m i a hi hI => by
      show lo_impl_Room_6 (m + 1) a1 a (snapS a0) (nI (snapS a0).length) i = _
      simp only [lo_impl_Room_6, tr_impl_Room_6]
      rw [cLt hi, cLe0, wI (show i < 4611686018427387904 by omega), Int.toNat_natCast]
      have e1 : m_impl_Pages (m_impl_FormBatch (List.getD (snapS a0) i [])) a1 = some (pagesN (formB (List.getD (snapS a0) i [])).size a1) := if_pos (Nat.le_trans (formB_size _) (by decide))
      rw [e1]
      simp only [cond_true, Option.bind_some]
      rw [pages_wrap hI]) (fun i a hi hI => hI.step (by omega) _ _) (fun m a hI => by
      show lo_impl_Room_6 (m + 1) a1 a (snapS a0) (nI (snapS a0).length) ((snapS a0).length : Int) = _
      simp only [lo_impl_Room_6, tr_impl_Room_6]
      rw [cLtF]
      rfl) (fu_impl_Room_6 a1 0 (snapS a0) (nI (snapS a0).length) 0) 0 0 (by omega) (by simp [fu_impl_Room_6, nI]) ⟨by omega, by omega, by omega⟩
    have hL' : lo_impl_Room_6 (fu_impl_Room_6 a1 0 (snapS a0) (nI (snapS a0).length) 0) a1 0 (snapS a0) (nI (snapS a0).length) 0 = _ := hL
    show (lo_impl_Room_6 (fu_impl_Room_6 a1 0 (snapS a0) (nI (snapS a0).length) 0) a1 0 (snapS a0) (nI (snapS a0).length) 0).bind _ = _
    rw [hL', foldI_sum, List.drop_zero, room_all, Int.zero_add]
    rfl
noncomputable def ou_impl_Room_6 {R : Type} (k : Kt R) : ((Int) × Unit) → Option R := (fun d => k (.exit 0) (((pa_impl_Room 6).2 2).st d) (((pa_impl_Room 6).2 2).nid))
noncomputable def L_impl_Room {R : Type} : Lt R pa_impl_Room := (addL (pat := pa_impl_Room) 6 (fun d k => (lo_impl_Room_6 (fu_impl_Room_6 d.1 d.2.1 d.2.2.1 d.2.2.2.1 d.2.2.2.2.1) d.1 d.2.1 d.2.2.1 d.2.2.2.1 d.2.2.2.2.1).bind (ou_impl_Room_6 k)) noL)
theorem rd_impl_Room_6 {R : Type} (nx : (pa_impl_Room 6).1.D → Kt R → Option R) (k : Kt R) (v1 : Int) (v5 : Int) (v12 : List (List (ByteArray × ByteArray × Bool × Unit))) (v13 : Int) (v14 : Int) : ev Try.prog ⟨ta_impl_Room, 0, 26, pa_impl_Room⟩ L_impl_Room co_impl_Room_6 ((pa_impl_Room 6).1.st (v1, v5, v12, v13, v14, ())) (pa_impl_Room 6).1.nid (roundK 0 (pa_impl_Room 6) nx k) = tr_impl_Room_6  (fun d => nx d k) (fun d => k (.exit 0) (((pa_impl_Room 6).2 2).st d) (((pa_impl_Room 6).2 2).nid)) v1 v5 v12 v13 v14 := by kernel_rfl
theorem lp_impl_Room_6 {R : Type} : ∀ (m : Nat) (d : (pa_impl_Room 6).1.D) (k : Kt R), loopN 0 (pa_impl_Room 6) (fun s nid k => ev Try.prog ⟨ta_impl_Room, 0, 26, pa_impl_Room⟩ L_impl_Room co_impl_Room_6 s nid k) m d k = (lo_impl_Room_6 m d.1 d.2.1 d.2.2.1 d.2.2.2.1 d.2.2.2.2.1).bind (ou_impl_Room_6 k)
  | 0, _, _ => rfl
  | m + 1, ⟨v1, v5, v12, v13, v14, ⟨⟩⟩, k => (rd_impl_Room_6 _ k v1 v5 v12 v13 v14).trans ((congrArg (fun F => tr_impl_Room_6  F (fun d => k (.exit 0) (((pa_impl_Room 6).2 2).st d) (((pa_impl_Room 6).2 2).nid)) v1 v5 v12 v13 v14) (funext fun d => lp_impl_Room_6 m d k)).trans (na_impl_Room_6 (f := ou_impl_Room_6 k)  (fun d => lo_impl_Room_6 m d.1 d.2.1 d.2.2.1 d.2.2.2.1 d.2.2.2.2.1) (fun d => some (d)) v1 v5 v12 v13 v14))
theorem en_impl_Room (a0 : (List (ByteArray × ByteArray × Unit)) × Unit) (a1 : Int) : evalF Try.prog ta_impl_Room pa_impl_Room sg_impl_Room Try.f45 L_impl_Room (a0, a1, ()) = de_impl_Room a0 a1 := by kernel_rfl
theorem si_impl_Room : SigsOk Try.prog ta_impl_Room := SigsOk.of fun f sd h => by
  try dsimp only [Tb.of, ta_impl_Room] at h
  split at h
  · rename_i e; subst e; cases h; exact sn_impl_Snapshot
  split at h
  · rename_i e; subst e; cases h; exact sn_impl_Pages
  split at h
  · rename_i e; subst e; cases h; exact sn_impl_FormBatch
  split at h
  · rename_i e; subst e; cases h; exact sn_impl_in
  cases h
theorem lk_impl_Room_6 {R : Type} : LoopOk Try.prog R 26 0 pa_impl_Room L_impl_Room co_impl_Room_6 :=
  loop_key (cfg := ⟨ta_impl_Room, 0, 26, pa_impl_Room⟩) (key := 6) (by kernel_rfl) (by kernel_rfl) si_impl_Room rfl rfl (fun d k r h => ⟨fu_impl_Room_6 d.1 d.2.1 d.2.2.1 d.2.2.2.1 d.2.2.2.2.1, (lp_impl_Room_6 _ d k).trans h⟩) (fun c hc => by rw [show loopsIn co_impl_Room_6 = [] from by kernel_rfl] at hc; cases hc)
theorem sn_impl_Room : Callable Try.prog 45 ∧ Sound Try.prog 45 sd_impl_Room.sg sd_impl_Room.den :=
  fn_loops (pat := pa_impl_Room) L_impl_Room (by kernel_rfl) si_impl_Room Try.func45 (by kernel_rfl) (by kernel_rfl) (fun c hc => by rw [show loopsIn (bodyOf Try.f45) = [co_impl_Room_6] from by kernel_rfl] at hc; simp only [List.mem_cons, List.not_mem_nil, or_false] at hc; rcases hc with rfl <;> first | exact lk_impl_Room_6) fun x r h => by
    obtain ⟨a0, a1, ⟨⟩⟩ := x; rw [← h]; exact (en_impl_Room a0 a1).trans (eq_impl_Room a0 a1)
def m_impl_validRoot (r : Rt) : Bool := rootOk r
def sg_impl_validRoot : Sig := ⟨[.rd (.pair (.int .i64) (.pair (.int .i64) (.pair (.int .i64) (.pair (.int .i64) .unit))))], [some 4], [.rd .bool], [none]⟩
noncomputable def sd_impl_validRoot : SD := ⟨sg_impl_validRoot, fun x => some (((m_impl_validRoot x.1), ()), (()))⟩
noncomputable def ta_impl_validRoot : Tb := Tb.of fun f => if f = 67 then some sd_impl_in else none
def pa_impl_validRoot : Nat → Pat × (Nat → Pat) := fun k => (⟨[], [], []⟩, fun _ => ⟨[], [], []⟩)
noncomputable def de_impl_validRoot (a0 : Int × Int × Int × Int × Unit) : Option ((((Bool) × Unit) × (Unit))) :=
  bif m_impl_in a0.snd.fst 0 1 then some ((m_impl_in a0.snd.snd.fst 1 999999000, ()), ()) else some ((false, ()), ())
theorem eq_impl_validRoot (a0 : Int × Int × Int × Int × Unit) : de_impl_validRoot a0 = some (((m_impl_validRoot a0), ()), (())) := by
  unfold de_impl_validRoot m_impl_validRoot rootOk
  show (bif inB a0.2.1 0 1 then _ else _) = _
  cases inB a0.2.1 0 1 <;> rfl
theorem en_impl_validRoot (a0 : Int × Int × Int × Int × Unit) : evalF Try.prog ta_impl_validRoot pa_impl_validRoot sg_impl_validRoot Try.f88 noL (a0, ()) = de_impl_validRoot a0 := by kernel_rfl
theorem si_impl_validRoot : SigsOk Try.prog ta_impl_validRoot := SigsOk.of fun f sd h => by
  try dsimp only [Tb.of, ta_impl_validRoot] at h
  split at h
  · rename_i e; subst e; cases h; exact sn_impl_in
  cases h
theorem sn_impl_validRoot : Callable Try.prog 88 ∧ Sound Try.prog 88 sd_impl_validRoot.sg sd_impl_validRoot.den :=
  fn_plain (pat := pa_impl_validRoot) (by kernel_rfl) si_impl_validRoot Try.func88 (by kernel_rfl) (by kernel_rfl) (by kernel_rfl) fun x r h => by
    obtain ⟨a0, ⟨⟩⟩ := x; rw [← h]; exact (en_impl_validRoot a0).trans (eq_impl_validRoot a0)
def m_impl_Halves (n : Int) : Int := halvesN n
def sg_impl_Halves : Sig := ⟨[.rd (.int .i64)], [none], [.rd (.int .i64)], [none]⟩
noncomputable def sd_impl_Halves : SD := ⟨sg_impl_Halves, fun x => some (((m_impl_Halves x.1), ()), (()))⟩
noncomputable def ta_impl_Halves : Tb := Tb.of fun f => if f = 67 then some sd_impl_in else none
def pa_impl_Halves : Nat → Pat × (Nat → Pat) := fun k => (⟨[], [], []⟩, fun _ => ⟨[], [], []⟩)
noncomputable def de_impl_Halves (a0 : Int) : Option ((((Int) × Unit) × (Unit))) :=
  bif !m_impl_in a0 8 200 then some ((0, ()), ()) else some ((IntKind.wrap IntKind.i64 (Int.tdiv (IntKind.wrap IntKind.i64 (a0 - 2)) 2), ()), ())
theorem eq_impl_Halves (a0 : Int) : de_impl_Halves a0 = some (((m_impl_Halves a0), ()), (())) := by
  unfold de_impl_Halves m_impl_Halves halvesN
  show (bif !inB a0 8 200 then _ else _) = _
  cases h : inB a0 8 200 with
  | false => rfl
  | true =>
    obtain ⟨h1, h2⟩ := inB_r h
    rw [halves_code h1 h2]
    rfl
theorem en_impl_Halves (a0 : Int) : evalF Try.prog ta_impl_Halves pa_impl_Halves sg_impl_Halves Try.f123 noL (a0, ()) = de_impl_Halves a0 := by kernel_rfl
theorem si_impl_Halves : SigsOk Try.prog ta_impl_Halves := SigsOk.of fun f sd h => by
  try dsimp only [Tb.of, ta_impl_Halves] at h
  split at h
  · rename_i e; subst e; cases h; exact sn_impl_in
  cases h
theorem sn_impl_Halves : Callable Try.prog 123 ∧ Sound Try.prog 123 sd_impl_Halves.sg sd_impl_Halves.den :=
  fn_plain (pat := pa_impl_Halves) (by kernel_rfl) si_impl_Halves Try.func123 (by kernel_rfl) (by kernel_rfl) (by kernel_rfl) fun x r h => by
    obtain ⟨a0, ⟨⟩⟩ := x; rw [← h]; exact (en_impl_Halves a0).trans (eq_impl_Halves a0)
def m_impl_ValidStore (s : Sto) : Bool := validStore s
def sg_impl_ValidStore : Sig := ⟨[.rd (.pair (.int .i64) (.pair (.int .i64) (.pair (.int .i64) (.pair (.pair (.int .i64) (.pair (.int .i64) (.pair (.int .i64) (.pair (.int .i64) .unit)))) (.pair (.int .i64) (.pair (.int .i64) (.pair (.pair (.sl (.pair .str (.pair .str .unit))) .unit) .unit)))))))], [some 10], [.rd .bool], [none]⟩
noncomputable def sd_impl_ValidStore : SD := ⟨sg_impl_ValidStore, fun x => some (((m_impl_ValidStore x.1), ()), (()))⟩
noncomputable def ta_impl_ValidStore : Tb := Tb.of fun f => if f = 45 then some sd_impl_Room else if f = 46 then some sd_impl_ValidState else if f = 67 then some sd_impl_in else if f = 88 then some sd_impl_validRoot else if f = 123 then some sd_impl_Halves else none
def pa_impl_ValidStore : Nat → Pat × (Nat → Pat) := fun k => (⟨[], [], []⟩, fun _ => ⟨[], [], []⟩)
noncomputable def de_impl_ValidStore (a0 : Int × Int × Int × (Int × Int × Int × Int × Unit) × Int × Int × ((List (ByteArray × ByteArray × Unit)) × Unit) × Unit) : Option ((((Bool) × Unit) × (Unit))) :=
  bif decide (m_impl_Halves a0.snd.fst > 0) then
    bif m_impl_in a0.fst 1 8 then
      bif m_impl_in a0.snd.snd.fst 1 60000 then
        bif m_impl_in a0.snd.snd.snd.fst.fst 0 1000000000 then
          bif m_impl_validRoot (a0.snd.snd.snd.fst.fst, a0.snd.snd.snd.fst.snd.fst, a0.snd.snd.snd.fst.snd.snd.fst, a0.snd.snd.snd.fst.snd.snd.snd.fst, ()) then
            bif m_impl_in a0.snd.snd.snd.fst.snd.snd.snd.fst 0 60000 then
              bif m_impl_in a0.snd.snd.snd.snd.fst 0 (m_impl_Halves a0.snd.fst) then
                bif m_impl_in a0.snd.snd.snd.snd.snd.fst 0 a0.snd.snd.snd.snd.fst then
                  bif m_impl_ValidState (a0.snd.snd.snd.snd.snd.snd.fst.fst, ()) then
                    some ((decide (m_impl_Room (a0.snd.snd.snd.snd.snd.snd.fst.fst, ()) a0.fst ≤ IntKind.wrap IntKind.i64 (m_impl_Halves a0.snd.fst - 1)), ()), ())
                  else some ((false, ()), ())
                else some ((false, ()), ())
              else some ((false, ()), ())
            else some ((false, ()), ())
          else some ((false, ()), ())
        else some ((false, ()), ())
      else some ((false, ()), ())
    else some ((false, ()), ())
  else some ((false, ()), ())
theorem eq_impl_ValidStore (a0 : Sto) : de_impl_ValidStore a0 = some (((m_impl_ValidStore a0), ()), (())) := by
  unfold de_impl_ValidStore m_impl_ValidStore validStore
  simp only [m_impl_Halves, m_impl_in, m_impl_validRoot, m_impl_ValidState, m_impl_Room, gt_iff_lt, halves_wrap, andS]
theorem en_impl_ValidStore (a0 : Int × Int × Int × (Int × Int × Int × Int × Unit) × Int × Int × ((List (ByteArray × ByteArray × Unit)) × Unit) × Unit) : evalF Try.prog ta_impl_ValidStore pa_impl_ValidStore sg_impl_ValidStore Try.f52 noL (a0, ()) = de_impl_ValidStore a0 := by kernel_rfl
theorem si_impl_ValidStore : SigsOk Try.prog ta_impl_ValidStore := SigsOk.of fun f sd h => by
  try dsimp only [Tb.of, ta_impl_ValidStore] at h
  split at h
  · rename_i e; subst e; cases h; exact sn_impl_Room
  split at h
  · rename_i e; subst e; cases h; exact sn_impl_ValidState
  split at h
  · rename_i e; subst e; cases h; exact sn_impl_in
  split at h
  · rename_i e; subst e; cases h; exact sn_impl_validRoot
  split at h
  · rename_i e; subst e; cases h; exact sn_impl_Halves
  cases h
theorem sn_impl_ValidStore : Callable Try.prog 52 ∧ Sound Try.prog 52 sd_impl_ValidStore.sg sd_impl_ValidStore.den :=
  fn_plain (pat := pa_impl_ValidStore) (by kernel_rfl) si_impl_ValidStore Try.func52 (by kernel_rfl) (by kernel_rfl) (by kernel_rfl) fun x r h => by
    obtain ⟨a0, ⟨⟩⟩ := x; rw [← h]; exact (en_impl_ValidStore a0).trans (eq_impl_ValidStore a0)
def m_impl_noStore (s : Sto) : Bool := noStore s
def sg_impl_noStore : Sig := ⟨[.rd (.pair (.int .i64) (.pair (.int .i64) (.pair (.int .i64) (.pair (.pair (.int .i64) (.pair (.int .i64) (.pair (.int .i64) (.pair (.int .i64) .unit)))) (.pair (.int .i64) (.pair (.int .i64) (.pair (.pair (.sl (.pair .str (.pair .str .unit))) .unit) .unit)))))))], [some 10], [.rd .bool], [none]⟩
noncomputable def sd_impl_noStore : SD := ⟨sg_impl_noStore, fun x => some (((m_impl_noStore x.1), ()), (()))⟩
noncomputable def ta_impl_noStore : Tb := Tb.of fun f => none
def pa_impl_noStore : Nat → Pat × (Nat → Pat) := fun k => (⟨[], [], []⟩, fun _ => ⟨[], [], []⟩)
noncomputable def de_impl_noStore (a0 : Int × Int × Int × (Int × Int × Int × Int × Unit) × Int × Int × ((List (ByteArray × ByteArray × Unit)) × Unit) × Unit) : Option ((((Bool) × Unit) × (Unit))) :=
  bif a0.fst == 0 then
    bif a0.snd.fst == 0 then
      bif a0.snd.snd.fst == 0 then
        bif a0.snd.snd.snd.fst.fst == 0 && (a0.snd.snd.snd.fst.snd.fst == 0 && (a0.snd.snd.snd.fst.snd.snd.fst == 0 && (a0.snd.snd.snd.fst.snd.snd.snd.fst == 0 && true))) then
          bif a0.snd.snd.snd.snd.fst == 0 then bif a0.snd.snd.snd.snd.snd.fst == 0 then some ((nI (List.length a0.snd.snd.snd.snd.snd.snd.fst.fst) == 0, ()), ()) else some ((false, ()), ())
          else some ((false, ()), ())
        else some ((false, ()), ())
      else some ((false, ()), ())
    else some ((false, ()), ())
  else some ((false, ()), ())
theorem eq_impl_noStore (a0 : Int × Int × Int × (Int × Int × Int × Int × Unit) × Int × Int × ((List (ByteArray × ByteArray × Unit)) × Unit) × Unit) : de_impl_noStore a0 = some (((m_impl_noStore a0), ()), (())) := by
  unfold de_impl_noStore m_impl_noStore noStore
  simp only [andS, Bool.and_true]
theorem en_impl_noStore (a0 : Int × Int × Int × (Int × Int × Int × Int × Unit) × Int × Int × ((List (ByteArray × ByteArray × Unit)) × Unit) × Unit) : evalF Try.prog ta_impl_noStore pa_impl_noStore sg_impl_noStore Try.f139 noL (a0, ()) = de_impl_noStore a0 := by kernel_rfl
theorem si_impl_noStore : SigsOk Try.prog ta_impl_noStore := SigsOk.of fun f sd h => by
  try dsimp only [Tb.of, ta_impl_noStore] at h
  cases h
theorem sn_impl_noStore : Callable Try.prog 139 ∧ Sound Try.prog 139 sd_impl_noStore.sg sd_impl_noStore.den :=
  fn_plain (pat := pa_impl_noStore) (by kernel_rfl) si_impl_noStore Try.func139 (by kernel_rfl) (by kernel_rfl) (by kernel_rfl) fun x r h => by
    obtain ⟨a0, ⟨⟩⟩ := x; rw [← h]; exact (en_impl_noStore a0).trans (eq_impl_noStore a0)
def m_impl_ValidWorld (w : Wld) : Bool := validWorld w
def sg_impl_ValidWorld : Sig := ⟨[.rd (.pair (.int .i64) (.pair (.pair (.sl .str) (.pair (.sl (.pair (.int .i64) (.pair .str .unit))) .unit)) (.pair .bool (.pair (.pair (.int .i64) (.pair (.int .i64) (.pair (.int .i64) (.pair (.pair (.int .i64) (.pair (.int .i64) (.pair (.int .i64) (.pair (.int .i64) .unit)))) (.pair (.int .i64) (.pair (.int .i64) (.pair (.pair (.sl (.pair .str (.pair .str .unit))) .unit) .unit))))))) (.pair (.sl (.pair (.sl (.pair .str (.pair .str .unit))) .unit)) (.pair (.sl .str) .unit))))))], [some 16], [.rd .bool], [none]⟩
noncomputable def sd_impl_ValidWorld : SD := ⟨sg_impl_ValidWorld, fun x => some (((m_impl_ValidWorld x.1), ()), (()))⟩
noncomputable def ta_impl_ValidWorld : Tb := Tb.of fun f => if f = 22 then some sd_impl_ValidDisk else if f = 46 then some sd_impl_ValidState else if f = 52 then some sd_impl_ValidStore else if f = 67 then some sd_impl_in else if f = 139 then some sd_impl_noStore else none
def pa_impl_ValidWorld : Nat → Pat × (Nat → Pat) := fun k => if k = 7 then (⟨[.sl 68 0 (.pair (.sl (.pair .str (.pair .str .unit))) .unit), .boxSl 1 1 .str, .boxSl 1 2 (.pair (.int .i64) (.pair .str .unit)), .boxSl 1 13 (.pair .str (.pair .str .unit)), .boxSl 1 14 (.pair (.sl (.pair .str (.pair .str .unit))) .unit), .boxSl 1 15 .str], [(1, .lf (.ptr 0 0)), (68, .lf (.d (.sl (.pair (.sl (.pair .str (.pair .str .unit))) .unit)))), (69, .lf (.d (.int .i64))), (70, .lf (.d (.int .i64)))], [.box 72 [.d (.int .i64), .d (.sl .str), .d (.sl (.pair (.int .i64) (.pair .str .unit))), .d .bool, .d (.int .i64), .d (.int .i64), .d (.int .i64), .d (.int .i64), .d (.int .i64), .d (.int .i64), .d (.int .i64), .d (.int .i64), .d (.int .i64), .d (.sl (.pair .str (.pair .str .unit))), .d (.sl (.pair (.sl (.pair .str (.pair .str .unit))) .unit)), .d (.sl .str)]]⟩, fun e => if e = 1 then ⟨[], [(2, .lf (.d .bool))], []⟩ else if e = 2 then ⟨[.boxSl 1 1 .str, .boxSl 1 2 (.pair (.int .i64) (.pair .str .unit)), .boxSl 1 13 (.pair .str (.pair .str .unit)), .boxSl 1 14 (.pair (.sl (.pair .str (.pair .str .unit))) .unit), .boxSl 1 15 .str], [(1, .lf (.ptr 0 0))], [.box 72 [.d (.int .i64), .d (.sl .str), .d (.sl (.pair (.int .i64) (.pair .str .unit))), .d .bool, .d (.int .i64), .d (.int .i64), .d (.int .i64), .d (.int .i64), .d (.int .i64), .d (.int .i64), .d (.int .i64), .d (.int .i64), .d (.int .i64), .d (.sl (.pair .str (.pair .str .unit))), .d (.sl (.pair (.sl (.pair .str (.pair .str .unit))) .unit)), .d (.sl .str)]]⟩ else ⟨[], [], []⟩) else if k = 13 then (⟨[.sl 79 0 .str], [(79, .lf (.d (.sl .str))), (80, .lf (.d (.int .i64))), (81, .lf (.d (.int .i64)))], []⟩, fun e => if e = 1 then ⟨[], [(2, .lf (.d .bool))], []⟩ else if e = 4 then ⟨[], [], []⟩ else ⟨[], [], []⟩) else (⟨[], [], []⟩, fun _ => ⟨[], [], []⟩)
noncomputable def co_impl_ValidWorld_7 : Code := (loopsIn (bodyOf Try.f81)).getD 0 .skip
noncomputable def co_impl_ValidWorld_13 : Code := (loopsIn (bodyOf Try.f81)).getD 1 .skip
def fu_impl_ValidWorld_13 (v79 : List ByteArray) (v80 : Int) (v81 : Int) : Nat := (v80 - v81).toNat + 1
noncomputable def tr_impl_ValidWorld_13 {R : Type}  (NX : ((List ByteArray) × (Int) × (Int) × Unit) → Option R) (X4 : (Unit) → Option R) (X1 : ((Bool) × Unit) → Option R) (v79 : List ByteArray) (v80 : Int) (v81 : Int) : Option R :=
  bif decide (v81 < v80) then
    bif decide (0 ≤ v81) then
      bif decide (v81 < nI (List.length v79)) then
        bif nI (ByteArray.size (List.getD v79 (Int.toNat v81) (ByteArray.mk #[]))) != 64 then X1 (false, ()) else NX (v79, v80, IntKind.wrap IntKind.i64 (v81 + 1), ())
      else none
    else none
  else X4 PUnit.unit
noncomputable def lo_impl_ValidWorld_13 : Nat → (List ByteArray) → (Int) → (Int) →  Option ((Unit) ⊕ ((Bool) × Unit))
  | 0, _, _, _ => none
  | m + 1, v79, v80, v81 => tr_impl_ValidWorld_13  (fun d => lo_impl_ValidWorld_13 m d.1 d.2.1 d.2.2.1) (fun d => some (.inl (d))) (fun d => some (.inr (d))) v79 v80 v81
theorem na_impl_ValidWorld_13 {R S : Type}  (NX : ((List ByteArray) × (Int) × (Int) × Unit) → Option R) (X4 : (Unit) → Option R) (X1 : ((Bool) × Unit) → Option R) (v79 : List ByteArray) (v80 : Int) (v81 : Int) (f : R → Option S) : tr_impl_ValidWorld_13  (fun d => (NX d).bind f) (fun d => (X4 d).bind f) (fun d => (X1 d).bind f) v79 v80 v81 = (tr_impl_ValidWorld_13  NX X4 X1 v79 v80 v81).bind f := by
  unfold tr_impl_ValidWorld_13
  simp only [cond_bind, ite_bind, onSum_bind, Option.bind_assoc, Option.bind_none, Option.bind_some]
def fu_impl_ValidWorld_7 (v68 : List ((List (ByteArray × ByteArray × Unit)) × Unit)) (v69 : Int) (v70 : Int) (b0_0 : Int) (b0_1 : List ByteArray) (b0_2 : List (Int × ByteArray × Unit)) (b0_3 : Bool) (b0_4 : Int) (b0_5 : Int) (b0_6 : Int) (b0_7 : Int) (b0_8 : Int) (b0_9 : Int) (b0_10 : Int) (b0_11 : Int) (b0_12 : Int) (b0_13 : List (ByteArray × ByteArray × Unit)) (b0_14 : List ((List (ByteArray × ByteArray × Unit)) × Unit)) (b0_15 : List ByteArray) : Nat := (v69 - v70).toNat + 1
noncomputable def tr_impl_ValidWorld_7 {R : Type}  (NX : ((List ((List (ByteArray × ByteArray × Unit)) × Unit)) × (Int) × (Int) × (Int) × (List ByteArray) × (List (Int × ByteArray × Unit)) × (Bool) × (Int) × (Int) × (Int) × (Int) × (Int) × (Int) × (Int) × (Int) × (Int) × (List (ByteArray × ByteArray × Unit)) × (List ((List (ByteArray × ByteArray × Unit)) × Unit)) × (List ByteArray) × Unit) → Option R) (X2 : ((Int) × (List ByteArray) × (List (Int × ByteArray × Unit)) × (Bool) × (Int) × (Int) × (Int) × (Int) × (Int) × (Int) × (Int) × (Int) × (Int) × (List (ByteArray × ByteArray × Unit)) × (List ((List (ByteArray × ByteArray × Unit)) × Unit)) × (List ByteArray) × Unit) → Option R) (X1 : ((Bool) × Unit) → Option R) (v68 : List ((List (ByteArray × ByteArray × Unit)) × Unit)) (v69 : Int) (v70 : Int) (b0_0 : Int) (b0_1 : List ByteArray) (b0_2 : List (Int × ByteArray × Unit)) (b0_3 : Bool) (b0_4 : Int) (b0_5 : Int) (b0_6 : Int) (b0_7 : Int) (b0_8 : Int) (b0_9 : Int) (b0_10 : Int) (b0_11 : Int) (b0_12 : Int) (b0_13 : List (ByteArray × ByteArray × Unit)) (b0_14 : List ((List (ByteArray × ByteArray × Unit)) × Unit)) (b0_15 : List ByteArray) : Option R :=
  bif decide (v70 < v69) then
    bif decide (0 ≤ v70) then
      bif decide (v70 < nI (List.length v68)) then
        bif !m_impl_ValidState ((List.getD v68 (Int.toNat v70) ([], ())).fst, ()) then X1 (false, ())
        else NX (v68, v69, IntKind.wrap IntKind.i64 (v70 + 1), b0_0, b0_1, b0_2, b0_3, b0_4, b0_5, b0_6, b0_7, b0_8, b0_9, b0_10, b0_11, b0_12, b0_13, b0_14, b0_15, ())
      else none
    else none
  else X2 (b0_0, b0_1, b0_2, b0_3, b0_4, b0_5, b0_6, b0_7, b0_8, b0_9, b0_10, b0_11, b0_12, b0_13, b0_14, b0_15, ())
noncomputable def lo_impl_ValidWorld_7 : Nat → (List ((List (ByteArray × ByteArray × Unit)) × Unit)) → (Int) → (Int) → (Int) → (List ByteArray) → (List (Int × ByteArray × Unit)) → (Bool) → (Int) → (Int) → (Int) → (Int) → (Int) → (Int) → (Int) → (Int) → (Int) → (List (ByteArray × ByteArray × Unit)) → (List ((List (ByteArray × ByteArray × Unit)) × Unit)) → (List ByteArray) →  Option (((Int) × (List ByteArray) × (List (Int × ByteArray × Unit)) × (Bool) × (Int) × (Int) × (Int) × (Int) × (Int) × (Int) × (Int) × (Int) × (Int) × (List (ByteArray × ByteArray × Unit)) × (List ((List (ByteArray × ByteArray × Unit)) × Unit)) × (List ByteArray) × Unit) ⊕ ((Bool) × Unit))
  | 0, _, _, _, _, _, _, _, _, _, _, _, _, _, _, _, _, _, _, _ => none
  | m + 1, v68, v69, v70, b0_0, b0_1, b0_2, b0_3, b0_4, b0_5, b0_6, b0_7, b0_8, b0_9, b0_10, b0_11, b0_12, b0_13, b0_14, b0_15 => tr_impl_ValidWorld_7  (fun d => lo_impl_ValidWorld_7 m d.1 d.2.1 d.2.2.1 d.2.2.2.1 d.2.2.2.2.1 d.2.2.2.2.2.1 d.2.2.2.2.2.2.1 d.2.2.2.2.2.2.2.1 d.2.2.2.2.2.2.2.2.1 d.2.2.2.2.2.2.2.2.2.1 d.2.2.2.2.2.2.2.2.2.2.1 d.2.2.2.2.2.2.2.2.2.2.2.1 d.2.2.2.2.2.2.2.2.2.2.2.2.1 d.2.2.2.2.2.2.2.2.2.2.2.2.2.1 d.2.2.2.2.2.2.2.2.2.2.2.2.2.2.1 d.2.2.2.2.2.2.2.2.2.2.2.2.2.2.2.1 d.2.2.2.2.2.2.2.2.2.2.2.2.2.2.2.2.1 d.2.2.2.2.2.2.2.2.2.2.2.2.2.2.2.2.2.1 d.2.2.2.2.2.2.2.2.2.2.2.2.2.2.2.2.2.2.1) (fun d => some (.inl (d))) (fun d => some (.inr (d))) v68 v69 v70 b0_0 b0_1 b0_2 b0_3 b0_4 b0_5 b0_6 b0_7 b0_8 b0_9 b0_10 b0_11 b0_12 b0_13 b0_14 b0_15
theorem na_impl_ValidWorld_7 {R S : Type}  (NX : ((List ((List (ByteArray × ByteArray × Unit)) × Unit)) × (Int) × (Int) × (Int) × (List ByteArray) × (List (Int × ByteArray × Unit)) × (Bool) × (Int) × (Int) × (Int) × (Int) × (Int) × (Int) × (Int) × (Int) × (Int) × (List (ByteArray × ByteArray × Unit)) × (List ((List (ByteArray × ByteArray × Unit)) × Unit)) × (List ByteArray) × Unit) → Option R) (X2 : ((Int) × (List ByteArray) × (List (Int × ByteArray × Unit)) × (Bool) × (Int) × (Int) × (Int) × (Int) × (Int) × (Int) × (Int) × (Int) × (Int) × (List (ByteArray × ByteArray × Unit)) × (List ((List (ByteArray × ByteArray × Unit)) × Unit)) × (List ByteArray) × Unit) → Option R) (X1 : ((Bool) × Unit) → Option R) (v68 : List ((List (ByteArray × ByteArray × Unit)) × Unit)) (v69 : Int) (v70 : Int) (b0_0 : Int) (b0_1 : List ByteArray) (b0_2 : List (Int × ByteArray × Unit)) (b0_3 : Bool) (b0_4 : Int) (b0_5 : Int) (b0_6 : Int) (b0_7 : Int) (b0_8 : Int) (b0_9 : Int) (b0_10 : Int) (b0_11 : Int) (b0_12 : Int) (b0_13 : List (ByteArray × ByteArray × Unit)) (b0_14 : List ((List (ByteArray × ByteArray × Unit)) × Unit)) (b0_15 : List ByteArray) (f : R → Option S) : tr_impl_ValidWorld_7  (fun d => (NX d).bind f) (fun d => (X2 d).bind f) (fun d => (X1 d).bind f) v68 v69 v70 b0_0 b0_1 b0_2 b0_3 b0_4 b0_5 b0_6 b0_7 b0_8 b0_9 b0_10 b0_11 b0_12 b0_13 b0_14 b0_15 = (tr_impl_ValidWorld_7  NX X2 X1 v68 v69 v70 b0_0 b0_1 b0_2 b0_3 b0_4 b0_5 b0_6 b0_7 b0_8 b0_9 b0_10 b0_11 b0_12 b0_13 b0_14 b0_15).bind f := by
  unfold tr_impl_ValidWorld_7
  simp only [cond_bind, ite_bind, onSum_bind, Option.bind_assoc, Option.bind_none, Option.bind_some]
noncomputable def de_impl_ValidWorld (a0 : Int × ((List ByteArray) × (List (Int × ByteArray × Unit)) × Unit) × Bool × (Int × Int × Int × (Int × Int × Int × Int × Unit) × Int × Int × ((List (ByteArray × ByteArray × Unit)) × Unit) × Unit) × (List ((List (ByteArray × ByteArray × Unit)) × Unit)) × (List ByteArray) × Unit) : Option ((((Bool) × Unit) × (Unit))) :=
  bif !m_impl_in a0.fst 1 8 then some ((false, ()), ())
  else
    bif !m_impl_ValidDisk (a0.snd.fst.fst, a0.snd.fst.snd.fst, ()) then some ((false, ()), ())
    else
      bif !m_impl_in (nI (List.length a0.snd.snd.snd.snd.fst)) 1 200 then some ((false, ()), ())
      else
        bif decide (nI (List.length a0.snd.snd.snd.snd.snd.fst) > 2000) then some ((false, ()), ())
        else
          bif a0.snd.snd.fst then
            bif
                !m_impl_ValidStore
                    (a0.snd.snd.snd.fst.fst, a0.snd.snd.snd.fst.snd.fst, a0.snd.snd.snd.fst.snd.snd.fst,
                      (a0.snd.snd.snd.fst.snd.snd.snd.fst.fst, a0.snd.snd.snd.fst.snd.snd.snd.fst.snd.fst, a0.snd.snd.snd.fst.snd.snd.snd.fst.snd.snd.fst,
                        a0.snd.snd.snd.fst.snd.snd.snd.fst.snd.snd.snd.fst, ()),
                      a0.snd.snd.snd.fst.snd.snd.snd.snd.fst, a0.snd.snd.snd.fst.snd.snd.snd.snd.snd.fst, (a0.snd.snd.snd.fst.snd.snd.snd.snd.snd.snd.fst.fst, ()), ()) then
              some ((false, ()), ())
            else
              bif a0.snd.snd.snd.fst.fst != a0.fst then some ((false, ()), ())
              else
                bif a0.snd.snd.snd.fst.snd.fst != nI (List.length a0.snd.fst.fst) then some ((false, ()), ())
                else
                  bif !a0.snd.snd.fst then
                    bif
                        !m_impl_noStore
                            (a0.snd.snd.snd.fst.fst, a0.snd.snd.snd.fst.snd.fst, a0.snd.snd.snd.fst.snd.snd.fst,
                              (a0.snd.snd.snd.fst.snd.snd.snd.fst.fst, a0.snd.snd.snd.fst.snd.snd.snd.fst.snd.fst, a0.snd.snd.snd.fst.snd.snd.snd.fst.snd.snd.fst,
                                a0.snd.snd.snd.fst.snd.snd.snd.fst.snd.snd.snd.fst, ()),
                              a0.snd.snd.snd.fst.snd.snd.snd.snd.fst, a0.snd.snd.snd.fst.snd.snd.snd.snd.snd.fst, (a0.snd.snd.snd.fst.snd.snd.snd.snd.snd.snd.fst.fst, ()), ()) then
                      some ((false, ()), ())
                    else
                      Option.bind
                        ((fun d => lo_impl_ValidWorld_7 (fu_impl_ValidWorld_7 d.1 d.2.1 d.2.2.1 d.2.2.2.1 d.2.2.2.2.1 d.2.2.2.2.2.1 d.2.2.2.2.2.2.1 d.2.2.2.2.2.2.2.1 d.2.2.2.2.2.2.2.2.1 d.2.2.2.2.2.2.2.2.2.1 d.2.2.2.2.2.2.2.2.2.2.1 d.2.2.2.2.2.2.2.2.2.2.2.1 d.2.2.2.2.2.2.2.2.2.2.2.2.1 d.2.2.2.2.2.2.2.2.2.2.2.2.2.1 d.2.2.2.2.2.2.2.2.2.2.2.2.2.2.1 d.2.2.2.2.2.2.2.2.2.2.2.2.2.2.2.1 d.2.2.2.2.2.2.2.2.2.2.2.2.2.2.2.2.1 d.2.2.2.2.2.2.2.2.2.2.2.2.2.2.2.2.2.1 d.2.2.2.2.2.2.2.2.2.2.2.2.2.2.2.2.2.2.1) d.1 d.2.1 d.2.2.1 d.2.2.2.1 d.2.2.2.2.1 d.2.2.2.2.2.1 d.2.2.2.2.2.2.1 d.2.2.2.2.2.2.2.1 d.2.2.2.2.2.2.2.2.1 d.2.2.2.2.2.2.2.2.2.1 d.2.2.2.2.2.2.2.2.2.2.1 d.2.2.2.2.2.2.2.2.2.2.2.1 d.2.2.2.2.2.2.2.2.2.2.2.2.1 d.2.2.2.2.2.2.2.2.2.2.2.2.2.1 d.2.2.2.2.2.2.2.2.2.2.2.2.2.2.1 d.2.2.2.2.2.2.2.2.2.2.2.2.2.2.2.1 d.2.2.2.2.2.2.2.2.2.2.2.2.2.2.2.2.1 d.2.2.2.2.2.2.2.2.2.2.2.2.2.2.2.2.2.1 d.2.2.2.2.2.2.2.2.2.2.2.2.2.2.2.2.2.2.1)
                          (a0.snd.snd.snd.snd.fst, nI (List.length a0.snd.snd.snd.snd.fst), 0, a0.fst, a0.snd.fst.fst, a0.snd.fst.snd.fst, a0.snd.snd.fst, a0.snd.snd.snd.fst.fst,
                            a0.snd.snd.snd.fst.snd.fst, a0.snd.snd.snd.fst.snd.snd.fst, a0.snd.snd.snd.fst.snd.snd.snd.fst.fst, a0.snd.snd.snd.fst.snd.snd.snd.fst.snd.fst,
                            a0.snd.snd.snd.fst.snd.snd.snd.fst.snd.snd.fst, a0.snd.snd.snd.fst.snd.snd.snd.fst.snd.snd.snd.fst, a0.snd.snd.snd.fst.snd.snd.snd.snd.fst,
                            a0.snd.snd.snd.fst.snd.snd.snd.snd.snd.fst, a0.snd.snd.snd.fst.snd.snd.snd.snd.snd.snd.fst.fst, a0.snd.snd.snd.snd.fst, a0.snd.snd.snd.snd.snd.fst, ()))
                        fun val =>
                        onSum
                          (fun val =>
                            Option.bind
                              ((fun d => lo_impl_ValidWorld_13 (fu_impl_ValidWorld_13 d.1 d.2.1 d.2.2.1) d.1 d.2.1 d.2.2.1) (val.snd.snd.snd.snd.snd.snd.snd.snd.snd.snd.snd.snd.snd.snd.snd.fst, nI (List.length val.snd.snd.snd.snd.snd.snd.snd.snd.snd.snd.snd.snd.snd.snd.snd.fst), 0, ()))
                              fun val => onSum (fun val => some ((true, ()), ())) (fun val => some ((val.fst, ()), ())) val)
                          (fun val => some ((val.fst, ()), ())) val
                  else
                    Option.bind
                      ((fun d => lo_impl_ValidWorld_7 (fu_impl_ValidWorld_7 d.1 d.2.1 d.2.2.1 d.2.2.2.1 d.2.2.2.2.1 d.2.2.2.2.2.1 d.2.2.2.2.2.2.1 d.2.2.2.2.2.2.2.1 d.2.2.2.2.2.2.2.2.1 d.2.2.2.2.2.2.2.2.2.1 d.2.2.2.2.2.2.2.2.2.2.1 d.2.2.2.2.2.2.2.2.2.2.2.1 d.2.2.2.2.2.2.2.2.2.2.2.2.1 d.2.2.2.2.2.2.2.2.2.2.2.2.2.1 d.2.2.2.2.2.2.2.2.2.2.2.2.2.2.1 d.2.2.2.2.2.2.2.2.2.2.2.2.2.2.2.1 d.2.2.2.2.2.2.2.2.2.2.2.2.2.2.2.2.1 d.2.2.2.2.2.2.2.2.2.2.2.2.2.2.2.2.2.1 d.2.2.2.2.2.2.2.2.2.2.2.2.2.2.2.2.2.2.1) d.1 d.2.1 d.2.2.1 d.2.2.2.1 d.2.2.2.2.1 d.2.2.2.2.2.1 d.2.2.2.2.2.2.1 d.2.2.2.2.2.2.2.1 d.2.2.2.2.2.2.2.2.1 d.2.2.2.2.2.2.2.2.2.1 d.2.2.2.2.2.2.2.2.2.2.1 d.2.2.2.2.2.2.2.2.2.2.2.1 d.2.2.2.2.2.2.2.2.2.2.2.2.1 d.2.2.2.2.2.2.2.2.2.2.2.2.2.1 d.2.2.2.2.2.2.2.2.2.2.2.2.2.2.1 d.2.2.2.2.2.2.2.2.2.2.2.2.2.2.2.1 d.2.2.2.2.2.2.2.2.2.2.2.2.2.2.2.2.1 d.2.2.2.2.2.2.2.2.2.2.2.2.2.2.2.2.2.1 d.2.2.2.2.2.2.2.2.2.2.2.2.2.2.2.2.2.2.1)
                        (a0.snd.snd.snd.snd.fst, nI (List.length a0.snd.snd.snd.snd.fst), 0, a0.fst, a0.snd.fst.fst, a0.snd.fst.snd.fst, a0.snd.snd.fst, a0.snd.snd.snd.fst.fst,
                          a0.snd.snd.snd.fst.snd.fst, a0.snd.snd.snd.fst.snd.snd.fst, a0.snd.snd.snd.fst.snd.snd.snd.fst.fst, a0.snd.snd.snd.fst.snd.snd.snd.fst.snd.fst,
                          a0.snd.snd.snd.fst.snd.snd.snd.fst.snd.snd.fst, a0.snd.snd.snd.fst.snd.snd.snd.fst.snd.snd.snd.fst, a0.snd.snd.snd.fst.snd.snd.snd.snd.fst,
                          a0.snd.snd.snd.fst.snd.snd.snd.snd.snd.fst, a0.snd.snd.snd.fst.snd.snd.snd.snd.snd.snd.fst.fst, a0.snd.snd.snd.snd.fst, a0.snd.snd.snd.snd.snd.fst, ()))
                      fun val =>
                      onSum
                        (fun val =>
                          Option.bind
                            ((fun d => lo_impl_ValidWorld_13 (fu_impl_ValidWorld_13 d.1 d.2.1 d.2.2.1) d.1 d.2.1 d.2.2.1) (val.snd.snd.snd.snd.snd.snd.snd.snd.snd.snd.snd.snd.snd.snd.snd.fst, nI (List.length val.snd.snd.snd.snd.snd.snd.snd.snd.snd.snd.snd.snd.snd.snd.snd.fst), 0, ()))
                            fun val => onSum (fun val => some ((true, ()), ())) (fun val => some ((val.fst, ()), ())) val)
                        (fun val => some ((val.fst, ()), ())) val
          else
            bif !a0.snd.snd.fst then
              bif
                  !m_impl_noStore
                      (a0.snd.snd.snd.fst.fst, a0.snd.snd.snd.fst.snd.fst, a0.snd.snd.snd.fst.snd.snd.fst,
                        (a0.snd.snd.snd.fst.snd.snd.snd.fst.fst, a0.snd.snd.snd.fst.snd.snd.snd.fst.snd.fst, a0.snd.snd.snd.fst.snd.snd.snd.fst.snd.snd.fst,
                          a0.snd.snd.snd.fst.snd.snd.snd.fst.snd.snd.snd.fst, ()),
                        a0.snd.snd.snd.fst.snd.snd.snd.snd.fst, a0.snd.snd.snd.fst.snd.snd.snd.snd.snd.fst, (a0.snd.snd.snd.fst.snd.snd.snd.snd.snd.snd.fst.fst, ()), ()) then
                some ((false, ()), ())
              else
                Option.bind
                  ((fun d => lo_impl_ValidWorld_7 (fu_impl_ValidWorld_7 d.1 d.2.1 d.2.2.1 d.2.2.2.1 d.2.2.2.2.1 d.2.2.2.2.2.1 d.2.2.2.2.2.2.1 d.2.2.2.2.2.2.2.1 d.2.2.2.2.2.2.2.2.1 d.2.2.2.2.2.2.2.2.2.1 d.2.2.2.2.2.2.2.2.2.2.1 d.2.2.2.2.2.2.2.2.2.2.2.1 d.2.2.2.2.2.2.2.2.2.2.2.2.1 d.2.2.2.2.2.2.2.2.2.2.2.2.2.1 d.2.2.2.2.2.2.2.2.2.2.2.2.2.2.1 d.2.2.2.2.2.2.2.2.2.2.2.2.2.2.2.1 d.2.2.2.2.2.2.2.2.2.2.2.2.2.2.2.2.1 d.2.2.2.2.2.2.2.2.2.2.2.2.2.2.2.2.2.1 d.2.2.2.2.2.2.2.2.2.2.2.2.2.2.2.2.2.2.1) d.1 d.2.1 d.2.2.1 d.2.2.2.1 d.2.2.2.2.1 d.2.2.2.2.2.1 d.2.2.2.2.2.2.1 d.2.2.2.2.2.2.2.1 d.2.2.2.2.2.2.2.2.1 d.2.2.2.2.2.2.2.2.2.1 d.2.2.2.2.2.2.2.2.2.2.1 d.2.2.2.2.2.2.2.2.2.2.2.1 d.2.2.2.2.2.2.2.2.2.2.2.2.1 d.2.2.2.2.2.2.2.2.2.2.2.2.2.1 d.2.2.2.2.2.2.2.2.2.2.2.2.2.2.1 d.2.2.2.2.2.2.2.2.2.2.2.2.2.2.2.1 d.2.2.2.2.2.2.2.2.2.2.2.2.2.2.2.2.1 d.2.2.2.2.2.2.2.2.2.2.2.2.2.2.2.2.2.1 d.2.2.2.2.2.2.2.2.2.2.2.2.2.2.2.2.2.2.1)
                    (a0.snd.snd.snd.snd.fst, nI (List.length a0.snd.snd.snd.snd.fst), 0, a0.fst, a0.snd.fst.fst, a0.snd.fst.snd.fst, a0.snd.snd.fst, a0.snd.snd.snd.fst.fst, a0.snd.snd.snd.fst.snd.fst,
                      a0.snd.snd.snd.fst.snd.snd.fst, a0.snd.snd.snd.fst.snd.snd.snd.fst.fst, a0.snd.snd.snd.fst.snd.snd.snd.fst.snd.fst, a0.snd.snd.snd.fst.snd.snd.snd.fst.snd.snd.fst,
                      a0.snd.snd.snd.fst.snd.snd.snd.fst.snd.snd.snd.fst, a0.snd.snd.snd.fst.snd.snd.snd.snd.fst, a0.snd.snd.snd.fst.snd.snd.snd.snd.snd.fst,
                      a0.snd.snd.snd.fst.snd.snd.snd.snd.snd.snd.fst.fst, a0.snd.snd.snd.snd.fst, a0.snd.snd.snd.snd.snd.fst, ()))
                  fun val =>
                  onSum
                    (fun val =>
                      Option.bind
                        ((fun d => lo_impl_ValidWorld_13 (fu_impl_ValidWorld_13 d.1 d.2.1 d.2.2.1) d.1 d.2.1 d.2.2.1) (val.snd.snd.snd.snd.snd.snd.snd.snd.snd.snd.snd.snd.snd.snd.snd.fst, nI (List.length val.snd.snd.snd.snd.snd.snd.snd.snd.snd.snd.snd.snd.snd.snd.snd.fst), 0, ()))
                        fun val => onSum (fun val => some ((true, ()), ())) (fun val => some ((val.fst, ()), ())) val)
                    (fun val => some ((val.fst, ()), ())) val
            else
              Option.bind
                ((fun d => lo_impl_ValidWorld_7 (fu_impl_ValidWorld_7 d.1 d.2.1 d.2.2.1 d.2.2.2.1 d.2.2.2.2.1 d.2.2.2.2.2.1 d.2.2.2.2.2.2.1 d.2.2.2.2.2.2.2.1 d.2.2.2.2.2.2.2.2.1 d.2.2.2.2.2.2.2.2.2.1 d.2.2.2.2.2.2.2.2.2.2.1 d.2.2.2.2.2.2.2.2.2.2.2.1 d.2.2.2.2.2.2.2.2.2.2.2.2.1 d.2.2.2.2.2.2.2.2.2.2.2.2.2.1 d.2.2.2.2.2.2.2.2.2.2.2.2.2.2.1 d.2.2.2.2.2.2.2.2.2.2.2.2.2.2.2.1 d.2.2.2.2.2.2.2.2.2.2.2.2.2.2.2.2.1 d.2.2.2.2.2.2.2.2.2.2.2.2.2.2.2.2.2.1 d.2.2.2.2.2.2.2.2.2.2.2.2.2.2.2.2.2.2.1) d.1 d.2.1 d.2.2.1 d.2.2.2.1 d.2.2.2.2.1 d.2.2.2.2.2.1 d.2.2.2.2.2.2.1 d.2.2.2.2.2.2.2.1 d.2.2.2.2.2.2.2.2.1 d.2.2.2.2.2.2.2.2.2.1 d.2.2.2.2.2.2.2.2.2.2.1 d.2.2.2.2.2.2.2.2.2.2.2.1 d.2.2.2.2.2.2.2.2.2.2.2.2.1 d.2.2.2.2.2.2.2.2.2.2.2.2.2.1 d.2.2.2.2.2.2.2.2.2.2.2.2.2.2.1 d.2.2.2.2.2.2.2.2.2.2.2.2.2.2.2.1 d.2.2.2.2.2.2.2.2.2.2.2.2.2.2.2.2.1 d.2.2.2.2.2.2.2.2.2.2.2.2.2.2.2.2.2.1 d.2.2.2.2.2.2.2.2.2.2.2.2.2.2.2.2.2.2.1)
                  (a0.snd.snd.snd.snd.fst, nI (List.length a0.snd.snd.snd.snd.fst), 0, a0.fst, a0.snd.fst.fst, a0.snd.fst.snd.fst, a0.snd.snd.fst, a0.snd.snd.snd.fst.fst, a0.snd.snd.snd.fst.snd.fst,
                    a0.snd.snd.snd.fst.snd.snd.fst, a0.snd.snd.snd.fst.snd.snd.snd.fst.fst, a0.snd.snd.snd.fst.snd.snd.snd.fst.snd.fst, a0.snd.snd.snd.fst.snd.snd.snd.fst.snd.snd.fst,
                    a0.snd.snd.snd.fst.snd.snd.snd.fst.snd.snd.snd.fst, a0.snd.snd.snd.fst.snd.snd.snd.snd.fst, a0.snd.snd.snd.fst.snd.snd.snd.snd.snd.fst,
                    a0.snd.snd.snd.fst.snd.snd.snd.snd.snd.snd.fst.fst, a0.snd.snd.snd.snd.fst, a0.snd.snd.snd.snd.snd.fst, ()))
                fun val =>
                onSum
                  (fun val =>
                    Option.bind ((fun d => lo_impl_ValidWorld_13 (fu_impl_ValidWorld_13 d.1 d.2.1 d.2.2.1) d.1 d.2.1 d.2.2.1) (val.snd.snd.snd.snd.snd.snd.snd.snd.snd.snd.snd.snd.snd.snd.snd.fst, nI (List.length val.snd.snd.snd.snd.snd.snd.snd.snd.snd.snd.snd.snd.snd.snd.snd.fst), 0, ()))
                      fun val => onSum (fun val => some ((true, ()), ())) (fun val => some ((val.fst, ()), ())) val)
                  (fun val => some ((val.fst, ()), ())) val
theorem pastW_loop (xs : List Stt) (h : xs.length ≤ 200) (b0 : Int) (b1 : List ByteArray) (b2 : List Wr) (b3 : Bool) (b4 b5 b6 b7 b8 b9 b10 b11 b12 : Int) (b13 : List Pr2) (b14 : List Stt) (b15 : List ByteArray) :
    lo_impl_ValidWorld_7 (fu_impl_ValidWorld_7 xs (nI xs.length) 0 b0 b1 b2 b3 b4 b5 b6 b7 b8 b9 b10 b11 b12 b13 b14 b15) xs (nI xs.length) 0 b0 b1 b2 b3 b4 b5 b6 b7 b8 b9 b10 b11 b12 b13 b14 b15 =
    some (bif (List.range' 0 xs.length).all (fun i => validState (xs.getD i zSs)) then .inl (b0, b1, b2, b3, b4, b5, b6, b7, b8, b9, b10, b11, b12, b13, b14, b15, ()) else .inr (false, ())) := by
  have hL := all_loop (n := xs.length) (fun i => validState (xs.getD i zSs)) (g := fun m i => lo_impl_ValidWorld_7 m xs (nI xs.length) i b0 b1 b2 b3 b4 b5 b6 b7 b8 b9 b10 b11 b12 b13 b14 b15) (ok := .inl (b0, b1, b2, b3, b4, b5, b6, b7, b8, b9, b10, b11, b12, b13, b14, b15, ())) (bad := .inr (false, ())) (fun m i hi => by
    show lo_impl_ValidWorld_7 (m + 1) xs (nI xs.length) i b0 b1 b2 b3 b4 b5 b6 b7 b8 b9 b10 b11 b12 b13 b14 b15 = _
    simp only [lo_impl_ValidWorld_7, tr_impl_ValidWorld_7]
    rw [cLt hi, cLe0, wI (show i < 4611686018427387904 by omega), Int.toNat_natCast]
    show (bif !validState (xs.getD i zSs) then _ else _) = _
    cases validState (xs.getD i zSs) <;> rfl) (fun m => by
    show lo_impl_ValidWorld_7 (m + 1) xs (nI xs.length) (xs.length : Int) b0 b1 b2 b3 b4 b5 b6 b7 b8 b9 b10 b11 b12 b13 b14 b15 = _
    simp only [lo_impl_ValidWorld_7, tr_impl_ValidWorld_7]
    rw [cLtF]
    rfl) (fu_impl_ValidWorld_7 xs (nI xs.length) 0 b0 b1 b2 b3 b4 b5 b6 b7 b8 b9 b10 b11 b12 b13 b14 b15) 0 (by omega) (by simp [fu_impl_ValidWorld_7, nI])
  exact hL
theorem writW_loop (xs : List ByteArray) (h : xs.length ≤ 2000) : lo_impl_ValidWorld_13 (fu_impl_ValidWorld_13 xs (nI xs.length) 0) xs (nI xs.length) 0 =
    some (bif (List.range' 0 xs.length).all (fun i => decide ((xs.getD i z0).size = 64)) then .inl () else .inr (false, ())) := by
  have hL := all_loop (n := xs.length) (fun i => decide ((xs.getD i z0).size = 64)) (g := fun m i => lo_impl_ValidWorld_13 m xs (nI xs.length) i) (ok := .inl ()) (bad := .inr (false, ())) (fun m i hi => by
    show lo_impl_ValidWorld_13 (m + 1) xs (nI xs.length) i = _
    simp only [lo_impl_ValidWorld_13, tr_impl_ValidWorld_13]
    have e : (nI (ByteArray.size (List.getD xs i (ByteArray.mk #[]))) != 64) = !decide ((xs.getD i z0).size = 64) := ne64 (xs.getD i z0).size 64
    rw [cLt hi, cLe0, wI (show i < 4611686018427387904 by omega), Int.toNat_natCast, e]
    cases decide ((xs.getD i z0).size = 64) <;> rfl) (fun m => by
    show lo_impl_ValidWorld_13 (m + 1) xs (nI xs.length) (xs.length : Int) = _
    simp only [lo_impl_ValidWorld_13, tr_impl_ValidWorld_13]
    rw [cLtF]
    rfl) (fu_impl_ValidWorld_13 xs (nI xs.length) 0) 0 (by omega) (by simp [fu_impl_ValidWorld_13, nI])
  exact hL
theorem eq_impl_ValidWorld (a0 : Int × ((List ByteArray) × (List (Int × ByteArray × Unit)) × Unit) × Bool × (Int × Int × Int × (Int × Int × Int × Int × Unit) × Int × Int × ((List (ByteArray × ByteArray × Unit)) × Unit) × Unit) × (List ((List (ByteArray × ByteArray × Unit)) × Unit)) × (List ByteArray) × Unit) : de_impl_ValidWorld a0 = some (((m_impl_ValidWorld a0), ()), (())) := by
  unfold de_impl_ValidWorld m_impl_ValidWorld validWorld
  show (bif !inB a0.1 1 8 then _ else bif !validDisk a0.2.1 then _ else bif !inB (nI a0.2.2.2.2.1.length) 1 200 then _ else _) = _
  cases inB a0.1 1 8 with
  | false => rfl
  | true =>
    cases validDisk a0.2.1 with
    | false => rfl
    | true =>
      cases hp : inB (nI a0.2.2.2.2.1.length) 1 200 with
      | false => rfl
      | true =>
        have hpl : a0.2.2.2.2.1.length ≤ 200 := by have := (inB_r hp).2; simp only [nI] at this; omega
        have e1 : decide (nI a0.2.2.2.2.2.1.length > 2000) = !decide (a0.2.2.2.2.2.1.length ≤ 2000) := gt100 _ 2000
        rw [e1]
        cases hw : decide (a0.2.2.2.2.2.1.length ≤ 2000) with
        | false => rfl
        | true =>
          have hwl := of_decide_eq_true hw
          simp only [Bool.not_true, Bool.true_and, cond_false]
          have key : ∀ b : Bool, (bif b then (bif pastOk a0 then (bif writtenOk a0 then some ((true, ()), ()) else some ((false, ()), ())) else some ((false, ()), ())) else some ((false, ()), ())) = (some ((b && (pastOk a0 && writtenOk a0), ()), ()) : Option ((Bool × Unit) × Unit)) := fun b => by
            cases b <;> cases pastOk a0 <;> cases writtenOk a0 <;> rfl
          rw [← key]
          simp only [pastW_loop _ hpl, Option.bind_some]
          show _ = (bif storeFits a0 then (bif pastOk a0 then (bif writtenOk a0 then _ else _) else _) else _)
          unfold storeFits
          have hP : pastOk a0 = (List.range' 0 a0.2.2.2.2.1.length).all (fun i => validState (a0.2.2.2.2.1.getD i zSs)) := rfl
          have hW : writtenOk a0 = (List.range' 0 a0.2.2.2.2.2.1.length).all (fun i => decide ((a0.2.2.2.2.2.1.getD i z0).size = 64)) := rfl
          rw [hP, hW]
          cases hu : a0.2.2.1 with
          | true =>
            simp only [cond_true, Bool.not_true, cond_false]
            show (bif !validStore a0.2.2.2.1 then _ else _) = _
            have w1 : (a0.2.2.2.1.1 != a0.1) = !(a0.2.2.2.1.1 == a0.1) := rfl
            have w2 : (a0.2.2.2.1.2.1 != nI a0.2.1.1.length) = !(a0.2.2.2.1.2.1 == nI a0.2.1.1.length) := rfl
            rw [w1, w2]
            cases validStore a0.2.2.2.1 with
            | false => rfl
            | true =>
              cases (a0.2.2.2.1.1 == a0.1) with
              | false => rfl
              | true =>
                cases (a0.2.2.2.1.2.1 == nI a0.2.1.1.length) with
                | false => rfl
                | true =>
                  cases (List.range' 0 a0.2.2.2.2.1.length).all (fun i => validState (a0.2.2.2.2.1.getD i zSs)) with
                  | false => rfl
                  | true =>
                    show (lo_impl_ValidWorld_13 (fu_impl_ValidWorld_13 a0.2.2.2.2.2.1 (nI a0.2.2.2.2.2.1.length) 0) a0.2.2.2.2.2.1 (nI a0.2.2.2.2.2.1.length) 0).bind _ = _
                    rw [writW_loop _ hwl]
                    cases (List.range' 0 a0.2.2.2.2.2.1.length).all (fun i => decide ((a0.2.2.2.2.2.1.getD i z0).size = 64)) <;> rfl
          | false =>
            simp only [cond_true, Bool.not_false, cond_false]
            show (bif !noStore a0.2.2.2.1 then _ else _) = _
            cases noStore a0.2.2.2.1 with
            | false => rfl
            | true =>
              cases (List.range' 0 a0.2.2.2.2.1.length).all (fun i => validState (a0.2.2.2.2.1.getD i zSs)) with
              | false => rfl
              | true =>
                show (lo_impl_ValidWorld_13 (fu_impl_ValidWorld_13 a0.2.2.2.2.2.1 (nI a0.2.2.2.2.2.1.length) 0) a0.2.2.2.2.2.1 (nI a0.2.2.2.2.2.1.length) 0).bind _ = _
                rw [writW_loop _ hwl]
                cases (List.range' 0 a0.2.2.2.2.2.1.length).all (fun i => decide ((a0.2.2.2.2.2.1.getD i z0).size = 64)) <;> rfl
noncomputable def ou_impl_ValidWorld_7 {R : Type} (k : Kt R) : (((Int) × (List ByteArray) × (List (Int × ByteArray × Unit)) × (Bool) × (Int) × (Int) × (Int) × (Int) × (Int) × (Int) × (Int) × (Int) × (Int) × (List (ByteArray × ByteArray × Unit)) × (List ((List (ByteArray × ByteArray × Unit)) × Unit)) × (List ByteArray) × Unit) ⊕ ((Bool) × Unit)) → Option R := (onSum (fun d => k (.exit 0) (((pa_impl_ValidWorld 7).2 2).st d) (((pa_impl_ValidWorld 7).2 2).nid)) (fun d => k .ret (((pa_impl_ValidWorld 7).2 1).st d) (((pa_impl_ValidWorld 7).2 1).nid)))
noncomputable def ou_impl_ValidWorld_13 {R : Type} (k : Kt R) : ((Unit) ⊕ ((Bool) × Unit)) → Option R := (onSum (fun d => k (.exit 2) (((pa_impl_ValidWorld 13).2 4).st d) (((pa_impl_ValidWorld 13).2 4).nid)) (fun d => k .ret (((pa_impl_ValidWorld 13).2 1).st d) (((pa_impl_ValidWorld 13).2 1).nid)))
noncomputable def L_impl_ValidWorld {R : Type} : Lt R pa_impl_ValidWorld := (addL (pat := pa_impl_ValidWorld) 7 (fun d k => (lo_impl_ValidWorld_7 (fu_impl_ValidWorld_7 d.1 d.2.1 d.2.2.1 d.2.2.2.1 d.2.2.2.2.1 d.2.2.2.2.2.1 d.2.2.2.2.2.2.1 d.2.2.2.2.2.2.2.1 d.2.2.2.2.2.2.2.2.1 d.2.2.2.2.2.2.2.2.2.1 d.2.2.2.2.2.2.2.2.2.2.1 d.2.2.2.2.2.2.2.2.2.2.2.1 d.2.2.2.2.2.2.2.2.2.2.2.2.1 d.2.2.2.2.2.2.2.2.2.2.2.2.2.1 d.2.2.2.2.2.2.2.2.2.2.2.2.2.2.1 d.2.2.2.2.2.2.2.2.2.2.2.2.2.2.2.1 d.2.2.2.2.2.2.2.2.2.2.2.2.2.2.2.2.1 d.2.2.2.2.2.2.2.2.2.2.2.2.2.2.2.2.2.1 d.2.2.2.2.2.2.2.2.2.2.2.2.2.2.2.2.2.2.1) d.1 d.2.1 d.2.2.1 d.2.2.2.1 d.2.2.2.2.1 d.2.2.2.2.2.1 d.2.2.2.2.2.2.1 d.2.2.2.2.2.2.2.1 d.2.2.2.2.2.2.2.2.1 d.2.2.2.2.2.2.2.2.2.1 d.2.2.2.2.2.2.2.2.2.2.1 d.2.2.2.2.2.2.2.2.2.2.2.1 d.2.2.2.2.2.2.2.2.2.2.2.2.1 d.2.2.2.2.2.2.2.2.2.2.2.2.2.1 d.2.2.2.2.2.2.2.2.2.2.2.2.2.2.1 d.2.2.2.2.2.2.2.2.2.2.2.2.2.2.2.1 d.2.2.2.2.2.2.2.2.2.2.2.2.2.2.2.2.1 d.2.2.2.2.2.2.2.2.2.2.2.2.2.2.2.2.2.1 d.2.2.2.2.2.2.2.2.2.2.2.2.2.2.2.2.2.2.1).bind (ou_impl_ValidWorld_7 k)) (addL (pat := pa_impl_ValidWorld) 13 (fun d k => (lo_impl_ValidWorld_13 (fu_impl_ValidWorld_13 d.1 d.2.1 d.2.2.1) d.1 d.2.1 d.2.2.1).bind (ou_impl_ValidWorld_13 k)) noL))
theorem rd_impl_ValidWorld_13 {R : Type} (nx : (pa_impl_ValidWorld 13).1.D → Kt R → Option R) (k : Kt R) (v79 : List ByteArray) (v80 : Int) (v81 : Int) : ev Try.prog ⟨ta_impl_ValidWorld, 0, 89, pa_impl_ValidWorld⟩ L_impl_ValidWorld co_impl_ValidWorld_13 ((pa_impl_ValidWorld 13).1.st (v79, v80, v81, ())) (pa_impl_ValidWorld 13).1.nid (roundK 0 (pa_impl_ValidWorld 13) nx k) = tr_impl_ValidWorld_13  (fun d => nx d k) (fun d => k (.exit 2) (((pa_impl_ValidWorld 13).2 4).st d) (((pa_impl_ValidWorld 13).2 4).nid)) (fun d => k .ret (((pa_impl_ValidWorld 13).2 1).st d) (((pa_impl_ValidWorld 13).2 1).nid)) v79 v80 v81 := by kernel_rfl
theorem lp_impl_ValidWorld_13 {R : Type} : ∀ (m : Nat) (d : (pa_impl_ValidWorld 13).1.D) (k : Kt R), loopN 0 (pa_impl_ValidWorld 13) (fun s nid k => ev Try.prog ⟨ta_impl_ValidWorld, 0, 89, pa_impl_ValidWorld⟩ L_impl_ValidWorld co_impl_ValidWorld_13 s nid k) m d k = (lo_impl_ValidWorld_13 m d.1 d.2.1 d.2.2.1).bind (ou_impl_ValidWorld_13 k)
  | 0, _, _ => rfl
  | m + 1, ⟨v79, v80, v81, ⟨⟩⟩, k => (rd_impl_ValidWorld_13 _ k v79 v80 v81).trans ((congrArg (fun F => tr_impl_ValidWorld_13  F (fun d => k (.exit 2) (((pa_impl_ValidWorld 13).2 4).st d) (((pa_impl_ValidWorld 13).2 4).nid)) (fun d => k .ret (((pa_impl_ValidWorld 13).2 1).st d) (((pa_impl_ValidWorld 13).2 1).nid)) v79 v80 v81) (funext fun d => lp_impl_ValidWorld_13 m d k)).trans (na_impl_ValidWorld_13 (f := ou_impl_ValidWorld_13 k)  (fun d => lo_impl_ValidWorld_13 m d.1 d.2.1 d.2.2.1) (fun d => some (.inl (d))) (fun d => some (.inr (d))) v79 v80 v81))
theorem rd_impl_ValidWorld_7 {R : Type} (nx : (pa_impl_ValidWorld 7).1.D → Kt R → Option R) (k : Kt R) (v68 : List ((List (ByteArray × ByteArray × Unit)) × Unit)) (v69 : Int) (v70 : Int) (b0_0 : Int) (b0_1 : List ByteArray) (b0_2 : List (Int × ByteArray × Unit)) (b0_3 : Bool) (b0_4 : Int) (b0_5 : Int) (b0_6 : Int) (b0_7 : Int) (b0_8 : Int) (b0_9 : Int) (b0_10 : Int) (b0_11 : Int) (b0_12 : Int) (b0_13 : List (ByteArray × ByteArray × Unit)) (b0_14 : List ((List (ByteArray × ByteArray × Unit)) × Unit)) (b0_15 : List ByteArray) : ev Try.prog ⟨ta_impl_ValidWorld, 0, 89, pa_impl_ValidWorld⟩ L_impl_ValidWorld co_impl_ValidWorld_7 ((pa_impl_ValidWorld 7).1.st (v68, v69, v70, b0_0, b0_1, b0_2, b0_3, b0_4, b0_5, b0_6, b0_7, b0_8, b0_9, b0_10, b0_11, b0_12, b0_13, b0_14, b0_15, ())) (pa_impl_ValidWorld 7).1.nid (roundK 0 (pa_impl_ValidWorld 7) nx k) = tr_impl_ValidWorld_7  (fun d => nx d k) (fun d => k (.exit 0) (((pa_impl_ValidWorld 7).2 2).st d) (((pa_impl_ValidWorld 7).2 2).nid)) (fun d => k .ret (((pa_impl_ValidWorld 7).2 1).st d) (((pa_impl_ValidWorld 7).2 1).nid)) v68 v69 v70 b0_0 b0_1 b0_2 b0_3 b0_4 b0_5 b0_6 b0_7 b0_8 b0_9 b0_10 b0_11 b0_12 b0_13 b0_14 b0_15 := by kernel_rfl
theorem lp_impl_ValidWorld_7 {R : Type} : ∀ (m : Nat) (d : (pa_impl_ValidWorld 7).1.D) (k : Kt R), loopN 0 (pa_impl_ValidWorld 7) (fun s nid k => ev Try.prog ⟨ta_impl_ValidWorld, 0, 89, pa_impl_ValidWorld⟩ L_impl_ValidWorld co_impl_ValidWorld_7 s nid k) m d k = (lo_impl_ValidWorld_7 m d.1 d.2.1 d.2.2.1 d.2.2.2.1 d.2.2.2.2.1 d.2.2.2.2.2.1 d.2.2.2.2.2.2.1 d.2.2.2.2.2.2.2.1 d.2.2.2.2.2.2.2.2.1 d.2.2.2.2.2.2.2.2.2.1 d.2.2.2.2.2.2.2.2.2.2.1 d.2.2.2.2.2.2.2.2.2.2.2.1 d.2.2.2.2.2.2.2.2.2.2.2.2.1 d.2.2.2.2.2.2.2.2.2.2.2.2.2.1 d.2.2.2.2.2.2.2.2.2.2.2.2.2.2.1 d.2.2.2.2.2.2.2.2.2.2.2.2.2.2.2.1 d.2.2.2.2.2.2.2.2.2.2.2.2.2.2.2.2.1 d.2.2.2.2.2.2.2.2.2.2.2.2.2.2.2.2.2.1 d.2.2.2.2.2.2.2.2.2.2.2.2.2.2.2.2.2.2.1).bind (ou_impl_ValidWorld_7 k)
  | 0, _, _ => rfl
  | m + 1, ⟨v68, v69, v70, b0_0, b0_1, b0_2, b0_3, b0_4, b0_5, b0_6, b0_7, b0_8, b0_9, b0_10, b0_11, b0_12, b0_13, b0_14, b0_15, ⟨⟩⟩, k => (rd_impl_ValidWorld_7 _ k v68 v69 v70 b0_0 b0_1 b0_2 b0_3 b0_4 b0_5 b0_6 b0_7 b0_8 b0_9 b0_10 b0_11 b0_12 b0_13 b0_14 b0_15).trans ((congrArg (fun F => tr_impl_ValidWorld_7  F (fun d => k (.exit 0) (((pa_impl_ValidWorld 7).2 2).st d) (((pa_impl_ValidWorld 7).2 2).nid)) (fun d => k .ret (((pa_impl_ValidWorld 7).2 1).st d) (((pa_impl_ValidWorld 7).2 1).nid)) v68 v69 v70 b0_0 b0_1 b0_2 b0_3 b0_4 b0_5 b0_6 b0_7 b0_8 b0_9 b0_10 b0_11 b0_12 b0_13 b0_14 b0_15) (funext fun d => lp_impl_ValidWorld_7 m d k)).trans (na_impl_ValidWorld_7 (f := ou_impl_ValidWorld_7 k)  (fun d => lo_impl_ValidWorld_7 m d.1 d.2.1 d.2.2.1 d.2.2.2.1 d.2.2.2.2.1 d.2.2.2.2.2.1 d.2.2.2.2.2.2.1 d.2.2.2.2.2.2.2.1 d.2.2.2.2.2.2.2.2.1 d.2.2.2.2.2.2.2.2.2.1 d.2.2.2.2.2.2.2.2.2.2.1 d.2.2.2.2.2.2.2.2.2.2.2.1 d.2.2.2.2.2.2.2.2.2.2.2.2.1 d.2.2.2.2.2.2.2.2.2.2.2.2.2.1 d.2.2.2.2.2.2.2.2.2.2.2.2.2.2.1 d.2.2.2.2.2.2.2.2.2.2.2.2.2.2.2.1 d.2.2.2.2.2.2.2.2.2.2.2.2.2.2.2.2.1 d.2.2.2.2.2.2.2.2.2.2.2.2.2.2.2.2.2.1 d.2.2.2.2.2.2.2.2.2.2.2.2.2.2.2.2.2.2.1) (fun d => some (.inl (d))) (fun d => some (.inr (d))) v68 v69 v70 b0_0 b0_1 b0_2 b0_3 b0_4 b0_5 b0_6 b0_7 b0_8 b0_9 b0_10 b0_11 b0_12 b0_13 b0_14 b0_15))
theorem en_impl_ValidWorld (a0 : Int × ((List ByteArray) × (List (Int × ByteArray × Unit)) × Unit) × Bool × (Int × Int × Int × (Int × Int × Int × Int × Unit) × Int × Int × ((List (ByteArray × ByteArray × Unit)) × Unit) × Unit) × (List ((List (ByteArray × ByteArray × Unit)) × Unit)) × (List ByteArray) × Unit) : evalF Try.prog ta_impl_ValidWorld pa_impl_ValidWorld sg_impl_ValidWorld Try.f81 L_impl_ValidWorld (a0, ()) = de_impl_ValidWorld a0 := by kernel_rfl
theorem si_impl_ValidWorld : SigsOk Try.prog ta_impl_ValidWorld := SigsOk.of fun f sd h => by
  try dsimp only [Tb.of, ta_impl_ValidWorld] at h
  split at h
  · rename_i e; subst e; cases h; exact sn_impl_ValidDisk
  split at h
  · rename_i e; subst e; cases h; exact sn_impl_ValidState
  split at h
  · rename_i e; subst e; cases h; exact sn_impl_ValidStore
  split at h
  · rename_i e; subst e; cases h; exact sn_impl_in
  split at h
  · rename_i e; subst e; cases h; exact sn_impl_noStore
  cases h
theorem lk_impl_ValidWorld_13 {R : Type} : LoopOk Try.prog R 89 0 pa_impl_ValidWorld L_impl_ValidWorld co_impl_ValidWorld_13 :=
  loop_key (cfg := ⟨ta_impl_ValidWorld, 0, 89, pa_impl_ValidWorld⟩) (key := 13) (by kernel_rfl) (by kernel_rfl) si_impl_ValidWorld rfl rfl (fun d k r h => ⟨fu_impl_ValidWorld_13 d.1 d.2.1 d.2.2.1, (lp_impl_ValidWorld_13 _ d k).trans h⟩) (fun c hc => by rw [show loopsIn co_impl_ValidWorld_13 = [] from by kernel_rfl] at hc; cases hc)
theorem lk_impl_ValidWorld_7 {R : Type} : LoopOk Try.prog R 89 0 pa_impl_ValidWorld L_impl_ValidWorld co_impl_ValidWorld_7 :=
  loop_key (cfg := ⟨ta_impl_ValidWorld, 0, 89, pa_impl_ValidWorld⟩) (key := 7) (by kernel_rfl) (by kernel_rfl) si_impl_ValidWorld rfl rfl (fun d k r h => ⟨fu_impl_ValidWorld_7 d.1 d.2.1 d.2.2.1 d.2.2.2.1 d.2.2.2.2.1 d.2.2.2.2.2.1 d.2.2.2.2.2.2.1 d.2.2.2.2.2.2.2.1 d.2.2.2.2.2.2.2.2.1 d.2.2.2.2.2.2.2.2.2.1 d.2.2.2.2.2.2.2.2.2.2.1 d.2.2.2.2.2.2.2.2.2.2.2.1 d.2.2.2.2.2.2.2.2.2.2.2.2.1 d.2.2.2.2.2.2.2.2.2.2.2.2.2.1 d.2.2.2.2.2.2.2.2.2.2.2.2.2.2.1 d.2.2.2.2.2.2.2.2.2.2.2.2.2.2.2.1 d.2.2.2.2.2.2.2.2.2.2.2.2.2.2.2.2.1 d.2.2.2.2.2.2.2.2.2.2.2.2.2.2.2.2.2.1 d.2.2.2.2.2.2.2.2.2.2.2.2.2.2.2.2.2.2.1, (lp_impl_ValidWorld_7 _ d k).trans h⟩) (fun c hc => by rw [show loopsIn co_impl_ValidWorld_7 = [] from by kernel_rfl] at hc; cases hc)
theorem sn_impl_ValidWorld : Callable Try.prog 81 ∧ Sound Try.prog 81 sd_impl_ValidWorld.sg sd_impl_ValidWorld.den :=
  fn_loops (pat := pa_impl_ValidWorld) L_impl_ValidWorld (by kernel_rfl) si_impl_ValidWorld Try.func81 (by kernel_rfl) (by kernel_rfl) (fun c hc => by rw [show loopsIn (bodyOf Try.f81) = [co_impl_ValidWorld_7, co_impl_ValidWorld_13] from by kernel_rfl] at hc; simp only [List.mem_cons, List.not_mem_nil, or_false] at hc; rcases hc with rfl | rfl <;> first | exact lk_impl_ValidWorld_7 | exact lk_impl_ValidWorld_13) fun x r h => by
    obtain ⟨a0, ⟨⟩⟩ := x; rw [← h]; exact (en_impl_ValidWorld a0).trans (eq_impl_ValidWorld a0)
def sg_strings_Repeat : Sig := ⟨[.rd .str, .rd (.int .i64)], [none, none], [.rd .str], [none]⟩
noncomputable def sd_strings_Repeat : SD := ⟨sg_strings_Repeat, fun x => (repStr x.1 x.2.1).bind fun r => some ((r, ()), ())⟩
theorem sn_strings_Repeat : Callable Try.prog 98 ∧ Sound Try.prog 98 sd_strings_Repeat.sg sd_strings_Repeat.den := ⟨⟨_, Try.func98, by kernel_rfl, by kernel_rfl⟩, rep_seat⟩
def m_impl_validPage (p : Pg) (w : Int) : Bool := pageOk p w
def sg_impl_validPage : Sig := ⟨[.rd (.pair (.int .i64) (.pair (.int .i64) (.pair (.int .i64) (.pair .str .unit)))), .rd (.int .i64)], [some 4, none], [.rd .bool], [none]⟩
noncomputable def sd_impl_validPage : SD := ⟨sg_impl_validPage, fun x => some (((m_impl_validPage x.1 x.2.1), ()), (()))⟩
noncomputable def ta_impl_validPage : Tb := Tb.of fun f => if f = 67 then some sd_impl_in else if f = 109 then some sd_impl_room else none
def pa_impl_validPage : Nat → Pat × (Nat → Pat) := fun k => (⟨[], [], []⟩, fun _ => ⟨[], [], []⟩)
noncomputable def de_impl_validPage (a0 : Int × Int × Int × ByteArray × Unit) (a1 : Int) : Option ((((Bool) × Unit) × (Unit))) :=
  bif m_impl_in a1 1 8 then
    bif m_impl_in a0.fst 1 4 then
      bif m_impl_in a0.snd.fst 1 60000 then
        bif m_impl_in a0.snd.snd.fst 1 1000000000 then
          bif decide (nI (ByteArray.size a0.snd.snd.snd.fst) ≤ IntKind.wrap IntKind.i64 (IntKind.wrap IntKind.i64 (64 - a1) - 8)) then
            bif a0.fst != 3 then some ((true, ()), ()) else some ((ByteArray.toList a0.snd.snd.snd.fst == ByteArray.toList (ByteArray.mk #[]), ()), ())
          else some ((false, ()), ())
        else some ((false, ()), ())
      else some ((false, ()), ())
    else some ((false, ()), ())
  else some ((false, ()), ())
theorem eq_impl_validPage (a0 : Int × Int × Int × ByteArray × Unit) (a1 : Int) : de_impl_validPage a0 a1 = some (((m_impl_validPage a0 a1), ()), (())) := by
  unfold de_impl_validPage m_impl_validPage pageOk
  have tl : ByteArray.toList (ByteArray.mk #[]) = [] := by decide +kernel
  rw [tl]
  show (bif inB a1 1 8 then (bif inB a0.1 1 4 then (bif inB a0.2.1 1 60000 then (bif inB a0.2.2.1 1 1000000000 then _ else _) else _) else _) else _) = _
  cases hw : inB a1 1 8 with
  | false => rfl
  | true =>
    have k1 := of_decide_eq_true (and2 hw).1
    have k2 := of_decide_eq_true (and2 hw).2
    rw [wrap_ok (n := 64 - a1) (by omega) (by omega), wrap_ok (by omega) (by omega), show 64 - a1 - 8 = 56 - a1 by omega]
    cases inB a0.1 1 4 <;> cases inB a0.2.1 1 60000 <;> cases inB a0.2.2.1 1 1000000000 <;> try rfl
    show (bif decide ((ByteArray.size a0.2.2.2.1 : Int) ≤ 56 - a1) then _ else _) = _
    cases decide ((ByteArray.size a0.2.2.2.1 : Int) ≤ 56 - a1) <;> cases (a0.1 != 3) <;> rfl
theorem en_impl_validPage (a0 : Int × Int × Int × ByteArray × Unit) (a1 : Int) : evalF Try.prog ta_impl_validPage pa_impl_validPage sg_impl_validPage Try.f141 noL (a0, a1, ()) = de_impl_validPage a0 a1 := by kernel_rfl
theorem si_impl_validPage : SigsOk Try.prog ta_impl_validPage := SigsOk.of fun f sd h => by
  try dsimp only [Tb.of, ta_impl_validPage] at h
  split at h
  · rename_i e; subst e; cases h; exact sn_impl_in
  split at h
  · rename_i e; subst e; cases h; exact sn_impl_room
  cases h
theorem sn_impl_validPage : Callable Try.prog 141 ∧ Sound Try.prog 141 sd_impl_validPage.sg sd_impl_validPage.den :=
  fn_plain (pat := pa_impl_validPage) (by kernel_rfl) si_impl_validPage Try.func141 (by kernel_rfl) (by kernel_rfl) (by kernel_rfl) fun x r h => by
    obtain ⟨a0, a1, ⟨⟩⟩ := x; rw [← h]; exact (en_impl_validPage a0 a1).trans (eq_impl_validPage a0 a1)
def m_impl_Sum (s : ByteArray) (w : Int) : Option ByteArray := if s.size < 4611686018427387904 then some (sumS s w) else none
def fu_impl_Sum_6 (v0 : ByteArray) (v1 v5 v6 : Int) : Nat := (nI v0.size - v6).toNat + 1
def sg_impl_Sum : Sig := ⟨[.rd .str, .rd (.int .i64)], [none, none], [.rd .str], [none]⟩
noncomputable def sd_impl_Sum : SD := ⟨sg_impl_Sum, fun x => (m_impl_Sum x.1 x.2.1).bind fun r => some ((r, ()), (()))⟩
noncomputable def ta_impl_Sum : Tb := Tb.of fun f => if f = 67 then some sd_impl_in else if f = 90 then some sd_impl_be else none
def pa_impl_Sum : Nat → Pat × (Nat → Pat) := fun k => if k = 6 then (⟨[], [(0, .lf (.d .str)), (1, .lf (.d (.int .i64))), (5, .lf (.d (.int .u64))), (6, .lf (.d (.int .i64)))], []⟩, fun e => if e = 2 then ⟨[], [(1, .lf (.d (.int .i64))), (5, .lf (.d (.int .u64)))], []⟩ else ⟨[], [], []⟩) else (⟨[], [], []⟩, fun _ => ⟨[], [], []⟩)
noncomputable def co_impl_Sum_6 : Code := (loopsIn (bodyOf Try.f142)).getD 0 .skip
noncomputable def tr_impl_Sum_6 {R : Type}  (NX : ((ByteArray) × (Int) × (Int) × (Int) × Unit) → Option R) (X2 : ((Int) × (Int) × Unit) → Option R) (v0 : ByteArray) (v1 : Int) (v5 : Int) (v6 : Int) : Option R :=
  bif decide (v6 < nI (ByteArray.size v0)) then
    bif decide (0 ≤ v6) then
      bif decide (v6 < nI (ByteArray.size v0)) then
        NX
          (v0, v1, IntKind.wrap IntKind.u64 (IntKind.wrap IntKind.u64 (nI (BitVec.toNat (BitVec.ofInt 64 v5 ^^^ BitVec.ofInt 64 (IntKind.wrap IntKind.u64 (byteAt v0 v6))))) * 1099511628211),
            IntKind.wrap IntKind.i64 (v6 + 1), ())
      else none
    else none
  else X2 (v1, v5, ())
noncomputable def lo_impl_Sum_6 : Nat → (ByteArray) → (Int) → (Int) → (Int) →  Option ((Int) × (Int) × Unit)
  | 0, _, _, _, _ => none
  | m + 1, v0, v1, v5, v6 => tr_impl_Sum_6  (fun d => lo_impl_Sum_6 m d.1 d.2.1 d.2.2.1 d.2.2.2.1) (fun d => some (d)) v0 v1 v5 v6
theorem na_impl_Sum_6 {R S : Type}  (NX : ((ByteArray) × (Int) × (Int) × (Int) × Unit) → Option R) (X2 : ((Int) × (Int) × Unit) → Option R) (v0 : ByteArray) (v1 : Int) (v5 : Int) (v6 : Int) (f : R → Option S) : tr_impl_Sum_6  (fun d => (NX d).bind f) (fun d => (X2 d).bind f) v0 v1 v5 v6 = (tr_impl_Sum_6  NX X2 v0 v1 v5 v6).bind f := by
  unfold tr_impl_Sum_6
  simp only [cond_bind, ite_bind, onSum_bind, Option.bind_assoc, Option.bind_none, Option.bind_some]
noncomputable def de_impl_Sum (a0 : ByteArray) (a1 : Int) : Option ((((ByteArray) × Unit) × (Unit))) :=
  bif !m_impl_in a1 1 8 then some ((ByteArray.mk #[], ()), ())
  else
    Option.bind ((fun d => lo_impl_Sum_6 (fu_impl_Sum_6 d.1 d.2.1 d.2.2.1 d.2.2.2.1) d.1 d.2.1 d.2.2.1 d.2.2.2.1) (a0, a1, 14695981039346656037, 0, ())) fun val =>
      bif decide (0 ≤ IntKind.wrap IntKind.i64 (8 - val.fst)) then
        bif decide (IntKind.wrap IntKind.i64 (8 - val.fst) ≤ nI (ByteArray.size (beS (IntKind.wrap IntKind.i64 val.snd.fst) (Int.toNat 8)))) then
          some
            ((cutOf (beS (IntKind.wrap IntKind.i64 val.snd.fst) (Int.toNat 8)) (IntKind.wrap IntKind.i64 (8 - val.fst)) (nI (ByteArray.size (beS (IntKind.wrap IntKind.i64 val.snd.fst) (Int.toNat 8)))),
                ()),
              ())
        else none
      else none
theorem eq_impl_Sum (a0 : ByteArray) (a1 : Int) r (h : m_impl_Sum a0 a1 = some r) : de_impl_Sum a0 a1 = some ((r, ()), (())) := by
  unfold m_impl_Sum at h
  split at h
  rotate_left
  · cases h
  rename_i hsz
  cases h
  unfold de_impl_Sum sumS
  generalize hC : (14695981039346656037 : Int) = C
  have h0 : U64 C := by rw [← hC]; exact ⟨by decide, by decide⟩
  show (bif !inB a1 1 8 then _ else _) = _
  cases hw : inB a1 1 8 with
  | false => rfl
  | true =>
    have k1 := of_decide_eq_true (and2 hw).1
    have k2 := of_decide_eq_true (and2 hw).2
    · simp only [Bool.not_true, cond_false, cond_true]
      have hL := up_loop a0.size (fun _ _ => True) (fun i h => hashStep h (byteAt a0 i)) (g := fun m i h => lo_impl_Sum_6 m a0 a1 h i) (ok := fun h => (a1, h, ())) (fun m i h hi _ => by
        show lo_impl_Sum_6 (m + 1) a0 a1 h i = _
        simp only [lo_impl_Sum_6, tr_impl_Sum_6]
        have c1 : (i : Int) < nI a0.size := by simp only [nI]; omega
        rw [decide_eq_true c1, cLe0, wI (show i < 4611686018427387904 by omega)]
        rfl) (fun m h _ => by
        show lo_impl_Sum_6 (m + 1) a0 a1 h a0.size = _
        simp only [lo_impl_Sum_6, tr_impl_Sum_6]
        rw [decide_eq_false (show ¬ ((a0.size : Int) < nI a0.size) by simp only [nI]; omega)]
        rfl) (fun _ _ _ _ => trivial) a0.size (fu_impl_Sum_6 a0 a1 C 0) 0 C (by omega) (by simp only [fu_impl_Sum_6, nI]; omega) trivial
      rw [show ((0 : Nat) : Int) = 0 from rfl] at hL
      refine bi_ hL ?_
      have e1 : IntKind.wrap IntKind.i64 (8 - a1) = 8 - a1 := wrap_ok (by omega) (by omega)
      have hh := hash_in a0 a0.size 0 h0
      have eH : iter (fun i h => hashStep h (byteAt a0 i)) a0.size 0 C = hashGo a0 a0.size 0 C := rfl
      rw [eH]
      generalize hashGo a0 a0.size 0 C = H at hh ⊢
      show (bif decide (0 ≤ IntKind.wrap IntKind.i64 (8 - a1)) then (bif decide (IntKind.wrap IntKind.i64 (8 - a1) ≤ nI (ByteArray.size (beS (IntKind.wrap IntKind.i64 H) (Int.toNat 8)))) then some ((cutOf (beS (IntKind.wrap IntKind.i64 H) (Int.toNat 8)) (IntKind.wrap IntKind.i64 (8 - a1)) (nI (ByteArray.size (beS (IntKind.wrap IntKind.i64 H) (Int.toNat 8)))), ()), ()) else none) else none) = some ((beS H a1.toNat, ()), ())
      rw [e1, sum_cut hh k1 k2, decide_eq_true (show 0 ≤ 8 - a1 by omega), decide_eq_true (show 8 - a1 ≤ nI (ByteArray.size (beS (IntKind.wrap IntKind.i64 H) (Int.toNat 8))) by rw [beS_size]; simp [nI]; omega)]
      rfl
noncomputable def ou_impl_Sum_6 {R : Type} (k : Kt R) : ((Int) × (Int) × Unit) → Option R := (fun d => k (.exit 0) (((pa_impl_Sum 6).2 2).st d) (((pa_impl_Sum 6).2 2).nid))
noncomputable def L_impl_Sum {R : Type} : Lt R pa_impl_Sum := (addL (pat := pa_impl_Sum) 6 (fun d k => (lo_impl_Sum_6 (fu_impl_Sum_6 d.1 d.2.1 d.2.2.1 d.2.2.2.1) d.1 d.2.1 d.2.2.1 d.2.2.2.1).bind (ou_impl_Sum_6 k)) noL)
theorem rd_impl_Sum_6 {R : Type} (nx : (pa_impl_Sum 6).1.D → Kt R → Option R) (k : Kt R) (v0 : ByteArray) (v1 : Int) (v5 : Int) (v6 : Int) : ev Try.prog ⟨ta_impl_Sum, 0, 29, pa_impl_Sum⟩ L_impl_Sum co_impl_Sum_6 ((pa_impl_Sum 6).1.st (v0, v1, v5, v6, ())) (pa_impl_Sum 6).1.nid (roundK 0 (pa_impl_Sum 6) nx k) = tr_impl_Sum_6  (fun d => nx d k) (fun d => k (.exit 0) (((pa_impl_Sum 6).2 2).st d) (((pa_impl_Sum 6).2 2).nid)) v0 v1 v5 v6 := by kernel_rfl
theorem lp_impl_Sum_6 {R : Type} : ∀ (m : Nat) (d : (pa_impl_Sum 6).1.D) (k : Kt R), loopN 0 (pa_impl_Sum 6) (fun s nid k => ev Try.prog ⟨ta_impl_Sum, 0, 29, pa_impl_Sum⟩ L_impl_Sum co_impl_Sum_6 s nid k) m d k = (lo_impl_Sum_6 m d.1 d.2.1 d.2.2.1 d.2.2.2.1).bind (ou_impl_Sum_6 k)
  | 0, _, _ => rfl
  | m + 1, ⟨v0, v1, v5, v6, ⟨⟩⟩, k => (rd_impl_Sum_6 _ k v0 v1 v5 v6).trans ((congrArg (fun F => tr_impl_Sum_6  F (fun d => k (.exit 0) (((pa_impl_Sum 6).2 2).st d) (((pa_impl_Sum 6).2 2).nid)) v0 v1 v5 v6) (funext fun d => lp_impl_Sum_6 m d k)).trans (na_impl_Sum_6 (f := ou_impl_Sum_6 k)  (fun d => lo_impl_Sum_6 m d.1 d.2.1 d.2.2.1 d.2.2.2.1) (fun d => some (d)) v0 v1 v5 v6))
theorem en_impl_Sum (a0 : ByteArray) (a1 : Int) : evalF Try.prog ta_impl_Sum pa_impl_Sum sg_impl_Sum Try.f142 L_impl_Sum (a0, a1, ()) = de_impl_Sum a0 a1 := by kernel_rfl
theorem si_impl_Sum : SigsOk Try.prog ta_impl_Sum := SigsOk.of fun f sd h => by
  try dsimp only [Tb.of, ta_impl_Sum] at h
  split at h
  · rename_i e; subst e; cases h; exact sn_impl_in
  split at h
  · rename_i e; subst e; cases h; exact sn_impl_be
  cases h
theorem lk_impl_Sum_6 {R : Type} : LoopOk Try.prog R 29 0 pa_impl_Sum L_impl_Sum co_impl_Sum_6 :=
  loop_key (cfg := ⟨ta_impl_Sum, 0, 29, pa_impl_Sum⟩) (key := 6) (by kernel_rfl) (by kernel_rfl) si_impl_Sum rfl rfl (fun d k r h => ⟨fu_impl_Sum_6 d.1 d.2.1 d.2.2.1 d.2.2.2.1, (lp_impl_Sum_6 _ d k).trans h⟩) (fun c hc => by rw [show loopsIn co_impl_Sum_6 = [] from by kernel_rfl] at hc; cases hc)
theorem sn_impl_Sum : Callable Try.prog 142 ∧ Sound Try.prog 142 sd_impl_Sum.sg sd_impl_Sum.den :=
  fn_loops (pat := pa_impl_Sum) L_impl_Sum (by kernel_rfl) si_impl_Sum Try.func142 (by kernel_rfl) (by kernel_rfl) (fun c hc => by rw [show loopsIn (bodyOf Try.f142) = [co_impl_Sum_6] from by kernel_rfl] at hc; simp only [List.mem_cons, List.not_mem_nil, or_false] at hc; rcases hc with rfl <;> first | exact lk_impl_Sum_6) fun x r h => by
    obtain ⟨a0, a1, ⟨⟩⟩ := x; obtain ⟨y, h1, h2⟩ := Option.bind_eq_some_iff.1 (show (m_impl_Sum a0 a1).bind (fun r => some ((r, ()), (()))) = some r from h); cases h2; exact (en_impl_Sum a0 a1).trans (eq_impl_Sum a0 a1 _ h1)
end Go.Proofs.Yteaoabdlcefkhaa.V
