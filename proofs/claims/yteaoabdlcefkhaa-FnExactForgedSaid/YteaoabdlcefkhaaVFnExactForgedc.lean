/- What the functions that FnExactForged reaches come to: part 3. No condition. -/
import Derived.Test.YteaoabdlcefkhaaVFnExactForgedb
import Derived.KernelRfl
namespace Go.Proofs.Yteaoabdlcefkhaa.V
open Go Go.Proofs.Yteaoabdlcefkhaa.R Go.Proofs
set_option maxRecDepth 100000
set_option linter.unusedVariables false
set_option linter.unusedSimpArgs false
def m_impl_FormPage (p : Pg) (w : Int) : ByteArray := pageS p w
def sg_impl_FormPage : Sig := ⟨[.rd (.pair (.int .i64) (.pair (.int .i64) (.pair (.int .i64) (.pair .str .unit)))), .rd (.int .i64)], [some 4, none], [.rd .str], [none]⟩
noncomputable def sd_impl_FormPage : SD := ⟨sg_impl_FormPage, fun x => some (((m_impl_FormPage x.1 x.2.1), ()), (()))⟩
noncomputable def ta_impl_FormPage : Tb := Tb.of fun f => if f = 90 then some sd_impl_be else if f = 98 then some sd_strings_Repeat else if f = 141 then some sd_impl_validPage else if f = 142 then some sd_impl_Sum else none
def pa_impl_FormPage : Nat → Pat × (Nat → Pat) := fun k => (⟨[], [], []⟩, fun _ => ⟨[], [], []⟩)
noncomputable def de_impl_FormPage (a0 : Int × Int × Int × ByteArray × Unit) (a1 : Int) : Option ((((ByteArray) × Unit) × (Unit))) :=
  bif !m_impl_validPage (a0.fst, a0.snd.fst, a0.snd.snd.fst, a0.snd.snd.snd.fst, ()) a1 then some ((ByteArray.mk #[], ()), ())
  else
    bif
        decide
          (ByteArray.size (beS a0.fst (Int.toNat 1) ++ beS a0.snd.fst (Int.toNat 2) ++ beS a0.snd.snd.fst (Int.toNat 4) ++ beS (nI (ByteArray.size a0.snd.snd.snd.fst)) (Int.toNat 1)) +
              ByteArray.size a0.snd.snd.snd.fst ≤
            9223372036854775807) then
      Option.bind
        (Option.bind
          (repStr (ByteArray.mk #[0])
            (IntKind.wrap IntKind.i64
              (IntKind.wrap IntKind.i64 (64 - a1) -
                nI
                  (ByteArray.size
                    (beS a0.fst (Int.toNat 1) ++ beS a0.snd.fst (Int.toNat 2) ++ beS a0.snd.snd.fst (Int.toNat 4) ++ beS (nI (ByteArray.size a0.snd.snd.snd.fst)) (Int.toNat 1) ++ a0.snd.snd.snd.fst)))))
          fun val => some ((val, ()), ()))
        fun val =>
        bif
            decide
              (ByteArray.size
                    (beS a0.fst (Int.toNat 1) ++ beS a0.snd.fst (Int.toNat 2) ++ beS a0.snd.snd.fst (Int.toNat 4) ++ beS (nI (ByteArray.size a0.snd.snd.snd.fst)) (Int.toNat 1) ++ a0.snd.snd.snd.fst) +
                  ByteArray.size val.fst.fst ≤
                9223372036854775807) then
          Option.bind
            (Option.bind
              (m_impl_Sum
                (beS a0.fst (Int.toNat 1) ++ beS a0.snd.fst (Int.toNat 2) ++ beS a0.snd.snd.fst (Int.toNat 4) ++ beS (nI (ByteArray.size a0.snd.snd.snd.fst)) (Int.toNat 1) ++ a0.snd.snd.snd.fst ++
                  val.fst.fst)
                a1)
              fun val => some ((val, ()), ()))
            fun val_1 =>
            bif
                decide
                  (ByteArray.size val_1.fst.fst +
                      ByteArray.size
                        (beS a0.fst (Int.toNat 1) ++ beS a0.snd.fst (Int.toNat 2) ++ beS a0.snd.snd.fst (Int.toNat 4) ++ beS (nI (ByteArray.size a0.snd.snd.snd.fst)) (Int.toNat 1) ++
                            a0.snd.snd.snd.fst ++
                          val.fst.fst) ≤
                    9223372036854775807) then
              some
                ((val_1.fst.fst ++
                      (beS a0.fst (Int.toNat 1) ++ beS a0.snd.fst (Int.toNat 2) ++ beS a0.snd.snd.fst (Int.toNat 4) ++ beS (nI (ByteArray.size a0.snd.snd.snd.fst)) (Int.toNat 1) ++ a0.snd.snd.snd.fst ++
                        val.fst.fst),
                    ()),
                  ())
            else none
        else none
    else none
theorem eq_impl_FormPage (a0 : Int × Int × Int × ByteArray × Unit) (a1 : Int) : de_impl_FormPage a0 a1 = some (((m_impl_FormPage a0 a1), ()), (())) := by
  unfold de_impl_FormPage m_impl_FormPage pageS
  show (bif !pageOk a0 a1 then _ else _) = _
  cases hp : pageOk a0 a1 with
  | false => rfl
  | true =>
    obtain ⟨hw, k1, k2, kp⟩ := pageOk_w hp
    simp only [Bool.not_true, cond_false, cond_true]
    have hb : bodyS a0 a1 = beS a0.1 1 ++ beS a0.2.1 2 ++ beS a0.2.2.1 4 ++ beS (nI a0.2.2.2.1.size) 1 ++ a0.2.2.2.1 ++ strOfNums (List.replicate (56 - a1 - a0.2.2.2.1.size).toNat 0) := rfl
    have hs4 : (beS a0.1 1 ++ beS a0.2.1 2 ++ beS a0.2.2.1 4 ++ beS (nI a0.2.2.2.1.size) 1).size = 8 := by simp only [ByteArray.size_append, beS_size]
    have hs5 : (beS a0.1 1 ++ beS a0.2.1 2 ++ beS a0.2.2.1 4 ++ beS (nI a0.2.2.2.1.size) 1 ++ a0.2.2.2.1).size = 8 + a0.2.2.2.1.size := by rw [ByteArray.size_append, hs4]
    show (bif decide ((beS a0.1 1 ++ beS a0.2.1 2 ++ beS a0.2.2.1 4 ++ beS (nI a0.2.2.2.1.size) 1).size + a0.2.2.2.1.size ≤ 9223372036854775807) then Option.bind (Option.bind (repStr (ByteArray.mk #[0]) (IntKind.wrap IntKind.i64 (IntKind.wrap IntKind.i64 (64 - a1) - nI (beS a0.1 1 ++ beS a0.2.1 2 ++ beS a0.2.2.1 4 ++ beS (nI a0.2.2.2.1.size) 1 ++ a0.2.2.2.1).size))) _) _ else none) = _
    generalize hB : beS a0.1 1 ++ beS a0.2.1 2 ++ beS a0.2.2.1 4 ++ beS (nI a0.2.2.2.1.size) 1 ++ a0.2.2.2.1 = B at *
    rw [hs4, decide_eq_true (by omega), wrap_ok (n := 64 - a1) (by omega) (by omega), hs5, wrap_ok (by simp only [nI]; omega) (by simp only [nI]; omega)]
    have hr : repStr (ByteArray.mk #[0]) (64 - a1 - nI (8 + a0.2.2.2.1.size)) = some (strOfNums (List.replicate (56 - a1 - a0.2.2.2.1.size).toNat 0)) := by
      have := rep0 (56 - a1 - a0.2.2.2.1.size).toNat (by omega)
      rw [show ((56 - a1 - a0.2.2.2.1.size).toNat : Int) = 64 - a1 - nI (8 + a0.2.2.2.1.size) by simp only [nI]; omega] at this
      exact this
    have hz : (strOfNums (List.replicate (56 - a1 - a0.2.2.2.1.size).toNat 0)).size = (56 - a1 - a0.2.2.2.1.size).toNat := by rw [size_strOfNums, List.length_replicate]
    generalize strOfNums (List.replicate (56 - a1 - a0.2.2.2.1.size).toNat 0) = Z at *
    refine bi_ (bi_ hr rfl) ?_
    have hbs : (bodyS a0 a1).size ≤ 64 := by rw [hb, ByteArray.size_append, hs5, hz]; omega
    dsimp only
    have hB' : beS a0.1 (Int.toNat 1) ++ beS a0.2.1 (Int.toNat 2) ++ beS a0.2.2.1 (Int.toNat 4) ++ beS (nI a0.2.2.2.1.size) (Int.toNat 1) ++ a0.2.2.2.1 = B := hB
    rw [hB']
    show (bif decide (ByteArray.size B + ByteArray.size Z ≤ 9223372036854775807) then Option.bind (Option.bind (m_impl_Sum (B ++ Z) a1) _) _ else none) = _
    have hm : m_impl_Sum (B ++ Z) a1 = some (sumS (bodyS a0 a1) a1) := by
      rw [← hb]
      exact if_pos (by omega)
    rw [hs5, hz, decide_eq_true (by omega)]
    refine bi_ (bi_ hm rfl) ?_
    show (bif decide (ByteArray.size (sumS (bodyS a0 a1) a1) + ByteArray.size (B ++ Z) ≤ 9223372036854775807) then some ((sumS (bodyS a0 a1) a1 ++ (B ++ Z), ()), ()) else none) = _
    rw [← hb, sumS_size hw, decide_eq_true (by omega)]
    rfl
theorem en_impl_FormPage (a0 : Int × Int × Int × ByteArray × Unit) (a1 : Int) : evalF Try.prog ta_impl_FormPage pa_impl_FormPage sg_impl_FormPage Try.f89 noL (a0, a1, ()) = de_impl_FormPage a0 a1 := by kernel_rfl
theorem si_impl_FormPage : SigsOk Try.prog ta_impl_FormPage := SigsOk.of fun f sd h => by
  try dsimp only [Tb.of, ta_impl_FormPage] at h
  split at h
  · rename_i e; subst e; cases h; exact sn_impl_be
  split at h
  · rename_i e; subst e; cases h; exact sn_strings_Repeat
  split at h
  · rename_i e; subst e; cases h; exact sn_impl_validPage
  split at h
  · rename_i e; subst e; cases h; exact sn_impl_Sum
  cases h
theorem sn_impl_FormPage : Callable Try.prog 89 ∧ Sound Try.prog 89 sd_impl_FormPage.sg sd_impl_FormPage.den :=
  fn_plain (pat := pa_impl_FormPage) (by kernel_rfl) si_impl_FormPage Try.func89 (by kernel_rfl) (by kernel_rfl) (by kernel_rfl) fun x r h => by
    obtain ⟨a0, a1, ⟨⟩⟩ := x; rw [← h]; exact (en_impl_FormPage a0 a1).trans (eq_impl_FormPage a0 a1)
def m_impl_num (s : ByteArray) : Option Int := if s.size ≤ 7 then some (numS s) else none
def fu_impl_num_4 (v0 : ByteArray) (v3 v4 : Int) : Nat := (nI v0.size - v4).toNat + 1
def sg_impl_num : Sig := ⟨[.rd .str], [none], [.rd (.int .i64)], [none]⟩
noncomputable def sd_impl_num : SD := ⟨sg_impl_num, fun x => (m_impl_num x.1).bind fun r => some ((r, ()), (()))⟩
noncomputable def ta_impl_num : Tb := Tb.of fun f => none
def pa_impl_num : Nat → Pat × (Nat → Pat) := fun k => if k = 4 then (⟨[], [(0, .lf (.d .str)), (3, .lf (.d (.int .i64))), (4, .lf (.d (.int .i64)))], []⟩, fun e => if e = 2 then ⟨[], [(3, .lf (.d (.int .i64)))], []⟩ else ⟨[], [], []⟩) else (⟨[], [], []⟩, fun _ => ⟨[], [], []⟩)
noncomputable def co_impl_num_4 : Code := (loopsIn (bodyOf Try.f95)).getD 0 .skip
noncomputable def tr_impl_num_4 {R : Type}  (NX : ((ByteArray) × (Int) × (Int) × Unit) → Option R) (X2 : ((Int) × Unit) → Option R) (v0 : ByteArray) (v3 : Int) (v4 : Int) : Option R :=
  bif decide (v4 < nI (ByteArray.size v0)) then
    bif decide (0 ≤ v4) then
      bif decide (v4 < nI (ByteArray.size v0)) then
        NX
          (v0, IntKind.wrap IntKind.i64 (nI (BitVec.toNat (BitVec.ofInt 64 (IntKind.wrap IntKind.i64 (v3 * 2 ^ min (Int.toNat 8) 64)) ||| BitVec.ofInt 64 (IntKind.wrap IntKind.i64 (byteAt v0 v4))))),
            IntKind.wrap IntKind.i64 (v4 + 1), ())
      else none
    else none
  else X2 (v3, ())
noncomputable def lo_impl_num_4 : Nat → (ByteArray) → (Int) → (Int) →  Option ((Int) × Unit)
  | 0, _, _, _ => none
  | m + 1, v0, v3, v4 => tr_impl_num_4  (fun d => lo_impl_num_4 m d.1 d.2.1 d.2.2.1) (fun d => some (d)) v0 v3 v4
theorem na_impl_num_4 {R S : Type}  (NX : ((ByteArray) × (Int) × (Int) × Unit) → Option R) (X2 : ((Int) × Unit) → Option R) (v0 : ByteArray) (v3 : Int) (v4 : Int) (f : R → Option S) : tr_impl_num_4  (fun d => (NX d).bind f) (fun d => (X2 d).bind f) v0 v3 v4 = (tr_impl_num_4  NX X2 v0 v3 v4).bind f := by
  unfold tr_impl_num_4
  simp only [cond_bind, ite_bind, onSum_bind, Option.bind_assoc, Option.bind_none, Option.bind_some]
noncomputable def de_impl_num (a0 : ByteArray) : Option ((((Int) × Unit) × (Unit))) :=
  Option.bind ((fun d => lo_impl_num_4 (fu_impl_num_4 d.1 d.2.1 d.2.2.1) d.1 d.2.1 d.2.2.1) (a0, 0, 0, ())) fun val => some ((val.fst, ()), ())
theorem num_loop (s : ByteArray) (hs : s.size ≤ 7) : ∀ (k m i : Nat) (v : Int), i + k = s.size → k < m → 0 ≤ v → v < 256 ^ i → lo_impl_num_4 m s v i = some (numGo s k i v, ())
  | 0, m + 1, i, v, hi, hm, h0, h1 => by
    simp only [lo_impl_num_4, tr_impl_num_4]
    rw [decide_eq_false (show ¬ ((i : Int) < nI s.size) by simp only [nI]; omega)]
    rfl
  | k + 1, m + 1, i, v, hi, hm, h0, h1 => by
    obtain ⟨hb, hs', e⟩ := or_step s i hi (by omega) h0 h1
    simp only [lo_impl_num_4, tr_impl_num_4]
    have c1 : (i : Int) < nI s.size := by simp only [nI]; omega
    rw [decide_eq_true c1, decide_eq_true (show (0 : Int) ≤ (i : Int) by omega), wI (show i < 4611686018427387904 by omega), e]
    exact num_loop s hs k m (i + 1) _ (by omega) (by omega) hb hs'
theorem eq_impl_num (a0 : ByteArray) r (h : m_impl_num a0 = some r) : de_impl_num a0 = some ((r, ()), (())) := by
  unfold m_impl_num at h
  split at h
  · rename_i hc
    cases h
    unfold de_impl_num
    have hL := num_loop a0 hc a0.size (fu_impl_num_4 a0 0 0) 0 0 (by omega) (by simp only [fu_impl_num_4, nI]; omega) (by omega) (by decide)
    exact bi_ hL rfl
  · cases h
noncomputable def ou_impl_num_4 {R : Type} (k : Kt R) : ((Int) × Unit) → Option R := (fun d => k (.exit 0) (((pa_impl_num 4).2 2).st d) (((pa_impl_num 4).2 2).nid))
noncomputable def L_impl_num {R : Type} : Lt R pa_impl_num := (addL (pat := pa_impl_num) 4 (fun d k => (lo_impl_num_4 (fu_impl_num_4 d.1 d.2.1 d.2.2.1) d.1 d.2.1 d.2.2.1).bind (ou_impl_num_4 k)) noL)
theorem rd_impl_num_4 {R : Type} (nx : (pa_impl_num 4).1.D → Kt R → Option R) (k : Kt R) (v0 : ByteArray) (v3 : Int) (v4 : Int) : ev Try.prog ⟨ta_impl_num, 0, 19, pa_impl_num⟩ L_impl_num co_impl_num_4 ((pa_impl_num 4).1.st (v0, v3, v4, ())) (pa_impl_num 4).1.nid (roundK 0 (pa_impl_num 4) nx k) = tr_impl_num_4  (fun d => nx d k) (fun d => k (.exit 0) (((pa_impl_num 4).2 2).st d) (((pa_impl_num 4).2 2).nid)) v0 v3 v4 := by kernel_rfl
theorem lp_impl_num_4 {R : Type} : ∀ (m : Nat) (d : (pa_impl_num 4).1.D) (k : Kt R), loopN 0 (pa_impl_num 4) (fun s nid k => ev Try.prog ⟨ta_impl_num, 0, 19, pa_impl_num⟩ L_impl_num co_impl_num_4 s nid k) m d k = (lo_impl_num_4 m d.1 d.2.1 d.2.2.1).bind (ou_impl_num_4 k)
  | 0, _, _ => rfl
  | m + 1, ⟨v0, v3, v4, ⟨⟩⟩, k => (rd_impl_num_4 _ k v0 v3 v4).trans ((congrArg (fun F => tr_impl_num_4  F (fun d => k (.exit 0) (((pa_impl_num 4).2 2).st d) (((pa_impl_num 4).2 2).nid)) v0 v3 v4) (funext fun d => lp_impl_num_4 m d k)).trans (na_impl_num_4 (f := ou_impl_num_4 k)  (fun d => lo_impl_num_4 m d.1 d.2.1 d.2.2.1) (fun d => some (d)) v0 v3 v4))
theorem en_impl_num (a0 : ByteArray) : evalF Try.prog ta_impl_num pa_impl_num sg_impl_num Try.f95 L_impl_num (a0, ()) = de_impl_num a0 := by kernel_rfl
theorem si_impl_num : SigsOk Try.prog ta_impl_num := SigsOk.of fun f sd h => by
  try dsimp only [Tb.of, ta_impl_num] at h
  cases h
theorem lk_impl_num_4 {R : Type} : LoopOk Try.prog R 19 0 pa_impl_num L_impl_num co_impl_num_4 :=
  loop_key (cfg := ⟨ta_impl_num, 0, 19, pa_impl_num⟩) (key := 4) (by kernel_rfl) (by kernel_rfl) si_impl_num rfl rfl (fun d k r h => ⟨fu_impl_num_4 d.1 d.2.1 d.2.2.1, (lp_impl_num_4 _ d k).trans h⟩) (fun c hc => by rw [show loopsIn co_impl_num_4 = [] from by kernel_rfl] at hc; cases hc)
theorem sn_impl_num : Callable Try.prog 95 ∧ Sound Try.prog 95 sd_impl_num.sg sd_impl_num.den :=
  fn_loops (pat := pa_impl_num) L_impl_num (by kernel_rfl) si_impl_num Try.func95 (by kernel_rfl) (by kernel_rfl) (fun c hc => by rw [show loopsIn (bodyOf Try.f95) = [co_impl_num_4] from by kernel_rfl] at hc; simp only [List.mem_cons, List.not_mem_nil, or_false] at hc; rcases hc with rfl <;> first | exact lk_impl_num_4) fun x r h => by
    obtain ⟨a0, ⟨⟩⟩ := x; obtain ⟨y, h1, h2⟩ := Option.bind_eq_some_iff.1 (show (m_impl_num a0).bind (fun r => some ((r, ()), (()))) = some r from h); cases h2; exact (en_impl_num a0).trans (eq_impl_num a0 _ h1)
def m_impl_ReadPage (s : ByteArray) (w : Int) : Pg × Bool := readP s w
def sg_impl_ReadPage : Sig := ⟨[.rd .str, .rd (.int .i64)], [none, none], [.rd (.pair (.int .i64) (.pair (.int .i64) (.pair (.int .i64) (.pair .str .unit)))), .rd .bool], [some 4, none]⟩
noncomputable def sd_impl_ReadPage : SD := ⟨sg_impl_ReadPage, fun x => some (((m_impl_ReadPage x.1 x.2.1).1, (m_impl_ReadPage x.1 x.2.1).2, ()), (()))⟩
noncomputable def ta_impl_ReadPage : Tb := Tb.of fun f => if f = 67 then some sd_impl_in else if f = 89 then some sd_impl_FormPage else if f = 95 then some sd_impl_num else if f = 109 then some sd_impl_room else none
def pa_impl_ReadPage : Nat → Pat × (Nat → Pat) := fun k => (⟨[], [], []⟩, fun _ => ⟨[], [], []⟩)
noncomputable def de_impl_ReadPage (a0 : ByteArray) (a1 : Int) : Option ((((Int × Int × Int × ByteArray × Unit) × (Bool) × Unit) × (Unit))) :=
  bif nI (ByteArray.size a0) != 64 then some (((0, 0, 0, ByteArray.mk #[], ()), false, ()), ())
  else
    bif !m_impl_in a1 1 8 then some (((0, 0, 0, ByteArray.mk #[], ()), false, ()), ())
    else
      bif decide (0 ≤ a1) then
        bif decide (a1 ≤ nI (ByteArray.size a0)) then
          bif decide (7 < nI (ByteArray.size (cutOf a0 a1 (nI (ByteArray.size a0))))) then
            bif decide (IntKind.wrap IntKind.i64 (byteAt (cutOf a0 a1 (nI (ByteArray.size a0))) 7) > IntKind.wrap IntKind.i64 (IntKind.wrap IntKind.i64 (64 - a1) - 8)) then
              some (((0, 0, 0, ByteArray.mk #[], ()), false, ()), ())
            else
              bif decide (0 < nI (ByteArray.size (cutOf a0 a1 (nI (ByteArray.size a0))))) then
                bif decide (3 ≤ nI (ByteArray.size (cutOf a0 a1 (nI (ByteArray.size a0))))) then
                  Option.bind (Option.bind (m_impl_num (cutOf (cutOf a0 a1 (nI (ByteArray.size a0))) 1 3)) fun val => some ((val, ()), ())) fun val =>
                    bif decide (7 ≤ nI (ByteArray.size (cutOf a0 a1 (nI (ByteArray.size a0))))) then
                      Option.bind (Option.bind (m_impl_num (cutOf (cutOf a0 a1 (nI (ByteArray.size a0))) 3 7)) fun val => some ((val, ()), ())) fun val_1 =>
                        bif decide (8 ≤ IntKind.wrap IntKind.i64 (8 + IntKind.wrap IntKind.i64 (byteAt (cutOf a0 a1 (nI (ByteArray.size a0))) 7))) then
                          bif
                              decide
                                (IntKind.wrap IntKind.i64 (8 + IntKind.wrap IntKind.i64 (byteAt (cutOf a0 a1 (nI (ByteArray.size a0))) 7)) ≤
                                  nI (ByteArray.size (cutOf a0 a1 (nI (ByteArray.size a0))))) then
                            bif
                                !ByteArray.toList
                                      (m_impl_FormPage
                                        (IntKind.wrap IntKind.i64 (byteAt (cutOf a0 a1 (nI (ByteArray.size a0))) 0), val.fst.fst, val_1.fst.fst,
                                          cutOf (cutOf a0 a1 (nI (ByteArray.size a0))) 8 (IntKind.wrap IntKind.i64 (8 + IntKind.wrap IntKind.i64 (byteAt (cutOf a0 a1 (nI (ByteArray.size a0))) 7))), ())
                                        a1) ==
                                    ByteArray.toList a0 then
                              some (((0, 0, 0, ByteArray.mk #[], ()), false, ()), ())
                            else
                              some
                                (((IntKind.wrap IntKind.i64 (byteAt (cutOf a0 a1 (nI (ByteArray.size a0))) 0), val.fst.fst, val_1.fst.fst,
                                      cutOf (cutOf a0 a1 (nI (ByteArray.size a0))) 8 (IntKind.wrap IntKind.i64 (8 + IntKind.wrap IntKind.i64 (byteAt (cutOf a0 a1 (nI (ByteArray.size a0))) 7))), ()),
                                    true, ()),
                                  ())
                          else none
                        else none
                    else none
                else none
              else none
          else none
        else none
      else none
theorem eq_impl_ReadPage (a0 : ByteArray) (a1 : Int) : de_impl_ReadPage a0 a1 = some (((m_impl_ReadPage a0 a1).1, (m_impl_ReadPage a0 a1).2, ()), (())) := by
  unfold de_impl_ReadPage m_impl_ReadPage readP
  show (bif nI a0.size != 64 then _ else (bif !inB a1 1 8 then _ else _)) = _
  cases hz : nI a0.size != 64 with
  | true => rfl
  | false =>
      cases hw : inB a1 1 8 with
      | false => rfl
      | true =>
        have k1 := (inB_r hw).1
        have k2 := (inB_r hw).2
        have hs : a0.size = 64 := by
          by_cases q : nI a0.size = 64
          · simp only [nI] at q; omega
          · rw [(bne_iff_ne).2 q] at hz; cases hz
        have hb : (cutOf a0 a1 (nI a0.size)).size = (64 - a1).toNat := by rw [cutOf_size (by omega) (by simp only [nI]; omega) (by simp [nI])]; simp only [nI, hs]; omega
        simp only [Bool.not_true, cond_false, cond_true]
        rw [decide_eq_true (show (0 : Int) ≤ a1 by omega), decide_eq_true (show a1 ≤ nI a0.size by simp only [nI]; omega)]
        unfold rawP
        generalize cutOf a0 a1 (nI a0.size) = b at *
        obtain ⟨b0, b1⟩ := byteAt_in b 7
        obtain ⟨c0, c1⟩ := byteAt_in b 0
        have hB : nI b.size = 64 - a1 := by simp only [nI]; omega
        rw [hB, decide_eq_true (show (7 : Int) < 64 - a1 by omega), decide_eq_true (show (0 : Int) < 64 - a1 by omega), decide_eq_true (show (3 : Int) ≤ 64 - a1 by omega), decide_eq_true (show (7 : Int) ≤ 64 - a1 by omega), wrap_ok (n := byteAt b 7) (by omega) (by omega), wrap_ok (n := byteAt b 0) (by omega) (by omega), wrap_ok (n := 64 - a1) (by omega) (by omega), wrap_ok (n := 64 - a1 - 8) (by omega) (by omega), wrap_ok (n := 8 + byteAt b 7) (by omega) (by omega), show 64 - a1 - 8 = 56 - a1 by omega]
        by_cases q : byteAt b 7 > 56 - a1
        · rw [decide_eq_true q]; rfl
        · rw [decide_eq_false q]
          have n1 : m_impl_num (cutOf b 1 3) = some (numS (cutOf b 1 3)) := if_pos (by rw [cutOf_size (by omega) (by omega) (by omega)]; decide)
          have n2 : m_impl_num (cutOf b 3 7) = some (numS (cutOf b 3 7)) := if_pos (by rw [cutOf_size (by omega) (by omega) (by omega)]; decide)
          simp only [n1, n2, Option.bind_some, cond_true, cond_false]
          rw [decide_eq_true (show 8 ≤ 8 + byteAt b 7 by omega), decide_eq_true (show 8 + byteAt b 7 ≤ 64 - a1 by omega)]
          show (bif !(ByteArray.toList (pageS (rawB b) a1) == ByteArray.toList a0) then _ else _) = _
          cases (ByteArray.toList (pageS (rawB b) a1) == ByteArray.toList a0) <;> rfl
theorem en_impl_ReadPage (a0 : ByteArray) (a1 : Int) : evalF Try.prog ta_impl_ReadPage pa_impl_ReadPage sg_impl_ReadPage Try.f82 noL (a0, a1, ()) = de_impl_ReadPage a0 a1 := by kernel_rfl
theorem si_impl_ReadPage : SigsOk Try.prog ta_impl_ReadPage := SigsOk.of fun f sd h => by
  try dsimp only [Tb.of, ta_impl_ReadPage] at h
  split at h
  · rename_i e; subst e; cases h; exact sn_impl_in
  split at h
  · rename_i e; subst e; cases h; exact sn_impl_FormPage
  split at h
  · rename_i e; subst e; cases h; exact sn_impl_num
  split at h
  · rename_i e; subst e; cases h; exact sn_impl_room
  cases h
theorem sn_impl_ReadPage : Callable Try.prog 82 ∧ Sound Try.prog 82 sd_impl_ReadPage.sg sd_impl_ReadPage.den :=
  fn_plain (pat := pa_impl_ReadPage) (by kernel_rfl) si_impl_ReadPage Try.func82 (by kernel_rfl) (by kernel_rfl) (by kernel_rfl) fun x r h => by
    obtain ⟨a0, a1, ⟨⟩⟩ := x; rw [← h]; exact (en_impl_ReadPage a0 a1).trans (eq_impl_ReadPage a0 a1)
def m_impl_Forged (w : Wld) : ByteArray := forgedS w
def sg_impl_Forged : Sig := ⟨[.rd (.pair (.int .i64) (.pair (.pair (.sl .str) (.pair (.sl (.pair (.int .i64) (.pair .str .unit))) .unit)) (.pair .bool (.pair (.pair (.int .i64) (.pair (.int .i64) (.pair (.int .i64) (.pair (.pair (.int .i64) (.pair (.int .i64) (.pair (.int .i64) (.pair (.int .i64) .unit)))) (.pair (.int .i64) (.pair (.int .i64) (.pair (.pair (.sl (.pair .str (.pair .str .unit))) .unit) .unit))))))) (.pair (.sl (.pair (.sl (.pair .str (.pair .str .unit))) .unit)) (.pair (.sl .str) .unit))))))], [some 16], [.rd .str], [none]⟩
noncomputable def sd_impl_Forged : SD := ⟨sg_impl_Forged, fun x => some (((m_impl_Forged x.1), ()), (()))⟩
noncomputable def ta_impl_Forged : Tb := Tb.of fun f => if f = 81 then some sd_impl_ValidWorld else if f = 82 then some sd_impl_ReadPage else none
def pa_impl_Forged : Nat → Pat × (Nat → Pat) := fun k => if k = 6 then (⟨[.sl 15 0 .str, .boxSl 1 1 .str, .boxSl 1 2 (.pair (.int .i64) (.pair .str .unit)), .boxSl 1 13 (.pair .str (.pair .str .unit)), .boxSl 1 14 (.pair (.sl (.pair .str (.pair .str .unit))) .unit), .boxSl 1 15 .str], [(1, .lf (.ptr 0 0)), (3, .lf (.row 1)), (15, .lf (.d (.sl .str))), (16, .lf (.d (.int .i64))), (17, .lf (.d (.int .i64)))], [.box 72 [.d (.int .i64), .d (.sl .str), .d (.sl (.pair (.int .i64) (.pair .str .unit))), .d .bool, .d (.int .i64), .d (.int .i64), .d (.int .i64), .d (.int .i64), .d (.int .i64), .d (.int .i64), .d (.int .i64), .d (.int .i64), .d (.int .i64), .d (.sl (.pair .str (.pair .str .unit))), .d (.sl (.pair (.sl (.pair .str (.pair .str .unit))) .unit)), .d (.sl .str)], .map .bool]⟩, fun e => if e = 2 then ⟨[.boxSl 1 1 .str, .boxSl 1 2 (.pair (.int .i64) (.pair .str .unit)), .boxSl 1 13 (.pair .str (.pair .str .unit)), .boxSl 1 14 (.pair (.sl (.pair .str (.pair .str .unit))) .unit), .boxSl 1 15 .str], [(1, .lf (.ptr 0 0)), (3, .lf (.row 1))], [.box 72 [.d (.int .i64), .d (.sl .str), .d (.sl (.pair (.int .i64) (.pair .str .unit))), .d .bool, .d (.int .i64), .d (.int .i64), .d (.int .i64), .d (.int .i64), .d (.int .i64), .d (.int .i64), .d (.int .i64), .d (.int .i64), .d (.int .i64), .d (.sl (.pair .str (.pair .str .unit))), .d (.sl (.pair (.sl (.pair .str (.pair .str .unit))) .unit)), .d (.sl .str)], .map .bool]⟩ else ⟨[], [], []⟩) else if k = 11 then (⟨[.sl 26 0 .str, .boxSl 1 1 .str, .boxSl 1 2 (.pair (.int .i64) (.pair .str .unit)), .boxSl 1 13 (.pair .str (.pair .str .unit)), .boxSl 1 14 (.pair (.sl (.pair .str (.pair .str .unit))) .unit), .boxSl 1 15 .str], [(1, .lf (.ptr 0 0)), (3, .lf (.row 1)), (26, .lf (.d (.sl .str))), (27, .lf (.d (.int .i64))), (28, .lf (.d (.int .i64)))], [.box 72 [.d (.int .i64), .d (.sl .str), .d (.sl (.pair (.int .i64) (.pair .str .unit))), .d .bool, .d (.int .i64), .d (.int .i64), .d (.int .i64), .d (.int .i64), .d (.int .i64), .d (.int .i64), .d (.int .i64), .d (.int .i64), .d (.int .i64), .d (.sl (.pair .str (.pair .str .unit))), .d (.sl (.pair (.sl (.pair .str (.pair .str .unit))) .unit)), .d (.sl .str)], .map .bool]⟩, fun e => if e = 1 then ⟨[], [(2, .lf (.d .str))], []⟩ else if e = 4 then ⟨[], [], []⟩ else ⟨[], [], []⟩) else (⟨[], [], []⟩, fun _ => ⟨[], [], []⟩)
noncomputable def co_impl_Forged_6 : Code := (loopsIn (bodyOf Try.f28)).getD 0 .skip
noncomputable def co_impl_Forged_11 : Code := (loopsIn (bodyOf Try.f28)).getD 1 .skip
def fu_impl_Forged_11 (v26 : List ByteArray) (v27 : Int) (v28 : Int) (b0_0 : Int) (b0_1 : List ByteArray) (b0_2 : List (Int × ByteArray × Unit)) (b0_3 : Bool) (b0_4 : Int) (b0_5 : Int) (b0_6 : Int) (b0_7 : Int) (b0_8 : Int) (b0_9 : Int) (b0_10 : Int) (b0_11 : Int) (b0_12 : Int) (b0_13 : List (ByteArray × ByteArray × Unit)) (b0_14 : List ((List (ByteArray × ByteArray × Unit)) × Unit)) (b0_15 : List ByteArray) (m1 : List (ByteArray × Bool)) : Nat := (v27 - v28).toNat + 1
noncomputable def tr_impl_Forged_11 {R : Type}  (NX : ((List ByteArray) × (Int) × (Int) × (Int) × (List ByteArray) × (List (Int × ByteArray × Unit)) × (Bool) × (Int) × (Int) × (Int) × (Int) × (Int) × (Int) × (Int) × (Int) × (Int) × (List (ByteArray × ByteArray × Unit)) × (List ((List (ByteArray × ByteArray × Unit)) × Unit)) × (List ByteArray) × (List (ByteArray × Bool)) × Unit) → Option R) (X4 : (Unit) → Option R) (X1 : ((ByteArray) × Unit) → Option R) (v26 : List ByteArray) (v27 : Int) (v28 : Int) (b0_0 : Int) (b0_1 : List ByteArray) (b0_2 : List (Int × ByteArray × Unit)) (b0_3 : Bool) (b0_4 : Int) (b0_5 : Int) (b0_6 : Int) (b0_7 : Int) (b0_8 : Int) (b0_9 : Int) (b0_10 : Int) (b0_11 : Int) (b0_12 : Int) (b0_13 : List (ByteArray × ByteArray × Unit)) (b0_14 : List ((List (ByteArray × ByteArray × Unit)) × Unit)) (b0_15 : List ByteArray) (m1 : List (ByteArray × Bool)) : Option R :=
  bif decide (v28 < v27) then
    bif decide (0 ≤ v28) then
      bif decide (v28 < nI (List.length v26)) then
        bif (m_impl_ReadPage (List.getD v26 (Int.toNat v28) (ByteArray.mk #[])) b0_0).snd then
          bif !lookB (List.getD v26 (Int.toNat v28) (ByteArray.mk #[])) m1 then X1 (List.getD v26 (Int.toNat v28) (ByteArray.mk #[]), ())
          else NX (v26, v27, IntKind.wrap IntKind.i64 (v28 + 1), b0_0, b0_1, b0_2, b0_3, b0_4, b0_5, b0_6, b0_7, b0_8, b0_9, b0_10, b0_11, b0_12, b0_13, b0_14, b0_15, m1, ())
        else NX (v26, v27, IntKind.wrap IntKind.i64 (v28 + 1), b0_0, b0_1, b0_2, b0_3, b0_4, b0_5, b0_6, b0_7, b0_8, b0_9, b0_10, b0_11, b0_12, b0_13, b0_14, b0_15, m1, ())
      else none
    else none
  else X4 PUnit.unit
noncomputable def lo_impl_Forged_11 : Nat → (List ByteArray) → (Int) → (Int) → (Int) → (List ByteArray) → (List (Int × ByteArray × Unit)) → (Bool) → (Int) → (Int) → (Int) → (Int) → (Int) → (Int) → (Int) → (Int) → (Int) → (List (ByteArray × ByteArray × Unit)) → (List ((List (ByteArray × ByteArray × Unit)) × Unit)) → (List ByteArray) → (List (ByteArray × Bool)) →  Option ((Unit) ⊕ ((ByteArray) × Unit))
  | 0, _, _, _, _, _, _, _, _, _, _, _, _, _, _, _, _, _, _, _, _ => none
  | m + 1, v26, v27, v28, b0_0, b0_1, b0_2, b0_3, b0_4, b0_5, b0_6, b0_7, b0_8, b0_9, b0_10, b0_11, b0_12, b0_13, b0_14, b0_15, m1 => tr_impl_Forged_11  (fun d => lo_impl_Forged_11 m d.1 d.2.1 d.2.2.1 d.2.2.2.1 d.2.2.2.2.1 d.2.2.2.2.2.1 d.2.2.2.2.2.2.1 d.2.2.2.2.2.2.2.1 d.2.2.2.2.2.2.2.2.1 d.2.2.2.2.2.2.2.2.2.1 d.2.2.2.2.2.2.2.2.2.2.1 d.2.2.2.2.2.2.2.2.2.2.2.1 d.2.2.2.2.2.2.2.2.2.2.2.2.1 d.2.2.2.2.2.2.2.2.2.2.2.2.2.1 d.2.2.2.2.2.2.2.2.2.2.2.2.2.2.1 d.2.2.2.2.2.2.2.2.2.2.2.2.2.2.2.1 d.2.2.2.2.2.2.2.2.2.2.2.2.2.2.2.2.1 d.2.2.2.2.2.2.2.2.2.2.2.2.2.2.2.2.2.1 d.2.2.2.2.2.2.2.2.2.2.2.2.2.2.2.2.2.2.1 d.2.2.2.2.2.2.2.2.2.2.2.2.2.2.2.2.2.2.2.1) (fun d => some (.inl (d))) (fun d => some (.inr (d))) v26 v27 v28 b0_0 b0_1 b0_2 b0_3 b0_4 b0_5 b0_6 b0_7 b0_8 b0_9 b0_10 b0_11 b0_12 b0_13 b0_14 b0_15 m1
theorem na_impl_Forged_11 {R S : Type}  (NX : ((List ByteArray) × (Int) × (Int) × (Int) × (List ByteArray) × (List (Int × ByteArray × Unit)) × (Bool) × (Int) × (Int) × (Int) × (Int) × (Int) × (Int) × (Int) × (Int) × (Int) × (List (ByteArray × ByteArray × Unit)) × (List ((List (ByteArray × ByteArray × Unit)) × Unit)) × (List ByteArray) × (List (ByteArray × Bool)) × Unit) → Option R) (X4 : (Unit) → Option R) (X1 : ((ByteArray) × Unit) → Option R) (v26 : List ByteArray) (v27 : Int) (v28 : Int) (b0_0 : Int) (b0_1 : List ByteArray) (b0_2 : List (Int × ByteArray × Unit)) (b0_3 : Bool) (b0_4 : Int) (b0_5 : Int) (b0_6 : Int) (b0_7 : Int) (b0_8 : Int) (b0_9 : Int) (b0_10 : Int) (b0_11 : Int) (b0_12 : Int) (b0_13 : List (ByteArray × ByteArray × Unit)) (b0_14 : List ((List (ByteArray × ByteArray × Unit)) × Unit)) (b0_15 : List ByteArray) (m1 : List (ByteArray × Bool)) (f : R → Option S) : tr_impl_Forged_11  (fun d => (NX d).bind f) (fun d => (X4 d).bind f) (fun d => (X1 d).bind f) v26 v27 v28 b0_0 b0_1 b0_2 b0_3 b0_4 b0_5 b0_6 b0_7 b0_8 b0_9 b0_10 b0_11 b0_12 b0_13 b0_14 b0_15 m1 = (tr_impl_Forged_11  NX X4 X1 v26 v27 v28 b0_0 b0_1 b0_2 b0_3 b0_4 b0_5 b0_6 b0_7 b0_8 b0_9 b0_10 b0_11 b0_12 b0_13 b0_14 b0_15 m1).bind f := by
  unfold tr_impl_Forged_11
  simp only [cond_bind, ite_bind, onSum_bind, Option.bind_assoc, Option.bind_none, Option.bind_some]
def fu_impl_Forged_6 (v15 : List ByteArray) (v16 : Int) (v17 : Int) (b0_0 : Int) (b0_1 : List ByteArray) (b0_2 : List (Int × ByteArray × Unit)) (b0_3 : Bool) (b0_4 : Int) (b0_5 : Int) (b0_6 : Int) (b0_7 : Int) (b0_8 : Int) (b0_9 : Int) (b0_10 : Int) (b0_11 : Int) (b0_12 : Int) (b0_13 : List (ByteArray × ByteArray × Unit)) (b0_14 : List ((List (ByteArray × ByteArray × Unit)) × Unit)) (b0_15 : List ByteArray) (m1 : List (ByteArray × Bool)) : Nat := (v16 - v17).toNat + 1
noncomputable def tr_impl_Forged_6 {R : Type}  (NX : ((List ByteArray) × (Int) × (Int) × (Int) × (List ByteArray) × (List (Int × ByteArray × Unit)) × (Bool) × (Int) × (Int) × (Int) × (Int) × (Int) × (Int) × (Int) × (Int) × (Int) × (List (ByteArray × ByteArray × Unit)) × (List ((List (ByteArray × ByteArray × Unit)) × Unit)) × (List ByteArray) × (List (ByteArray × Bool)) × Unit) → Option R) (X2 : ((Int) × (List ByteArray) × (List (Int × ByteArray × Unit)) × (Bool) × (Int) × (Int) × (Int) × (Int) × (Int) × (Int) × (Int) × (Int) × (Int) × (List (ByteArray × ByteArray × Unit)) × (List ((List (ByteArray × ByteArray × Unit)) × Unit)) × (List ByteArray) × (List (ByteArray × Bool)) × Unit) → Option R) (v15 : List ByteArray) (v16 : Int) (v17 : Int) (b0_0 : Int) (b0_1 : List ByteArray) (b0_2 : List (Int × ByteArray × Unit)) (b0_3 : Bool) (b0_4 : Int) (b0_5 : Int) (b0_6 : Int) (b0_7 : Int) (b0_8 : Int) (b0_9 : Int) (b0_10 : Int) (b0_11 : Int) (b0_12 : Int) (b0_13 : List (ByteArray × ByteArray × Unit)) (b0_14 : List ((List (ByteArray × ByteArray × Unit)) × Unit)) (b0_15 : List ByteArray) (m1 : List (ByteArray × Bool)) : Option R :=
  bif decide (v17 < v16) then
    bif decide (0 ≤ v17) then
      bif decide (v17 < nI (List.length v15)) then
        NX
          (v15, v16, IntKind.wrap IntKind.i64 (v17 + 1), b0_0, b0_1, b0_2, b0_3, b0_4, b0_5, b0_6, b0_7, b0_8, b0_9, b0_10, b0_11, b0_12, b0_13, b0_14, b0_15,
            updL (List.getD v15 (Int.toNat v17) (ByteArray.mk #[])) true m1, ())
      else none
    else none
  else X2 (b0_0, b0_1, b0_2, b0_3, b0_4, b0_5, b0_6, b0_7, b0_8, b0_9, b0_10, b0_11, b0_12, b0_13, b0_14, b0_15, m1, ())
noncomputable def lo_impl_Forged_6 : Nat → (List ByteArray) → (Int) → (Int) → (Int) → (List ByteArray) → (List (Int × ByteArray × Unit)) → (Bool) → (Int) → (Int) → (Int) → (Int) → (Int) → (Int) → (Int) → (Int) → (Int) → (List (ByteArray × ByteArray × Unit)) → (List ((List (ByteArray × ByteArray × Unit)) × Unit)) → (List ByteArray) → (List (ByteArray × Bool)) →  Option ((Int) × (List ByteArray) × (List (Int × ByteArray × Unit)) × (Bool) × (Int) × (Int) × (Int) × (Int) × (Int) × (Int) × (Int) × (Int) × (Int) × (List (ByteArray × ByteArray × Unit)) × (List ((List (ByteArray × ByteArray × Unit)) × Unit)) × (List ByteArray) × (List (ByteArray × Bool)) × Unit)
  | 0, _, _, _, _, _, _, _, _, _, _, _, _, _, _, _, _, _, _, _, _ => none
  | m + 1, v15, v16, v17, b0_0, b0_1, b0_2, b0_3, b0_4, b0_5, b0_6, b0_7, b0_8, b0_9, b0_10, b0_11, b0_12, b0_13, b0_14, b0_15, m1 => tr_impl_Forged_6  (fun d => lo_impl_Forged_6 m d.1 d.2.1 d.2.2.1 d.2.2.2.1 d.2.2.2.2.1 d.2.2.2.2.2.1 d.2.2.2.2.2.2.1 d.2.2.2.2.2.2.2.1 d.2.2.2.2.2.2.2.2.1 d.2.2.2.2.2.2.2.2.2.1 d.2.2.2.2.2.2.2.2.2.2.1 d.2.2.2.2.2.2.2.2.2.2.2.1 d.2.2.2.2.2.2.2.2.2.2.2.2.1 d.2.2.2.2.2.2.2.2.2.2.2.2.2.1 d.2.2.2.2.2.2.2.2.2.2.2.2.2.2.1 d.2.2.2.2.2.2.2.2.2.2.2.2.2.2.2.1 d.2.2.2.2.2.2.2.2.2.2.2.2.2.2.2.2.1 d.2.2.2.2.2.2.2.2.2.2.2.2.2.2.2.2.2.1 d.2.2.2.2.2.2.2.2.2.2.2.2.2.2.2.2.2.2.1 d.2.2.2.2.2.2.2.2.2.2.2.2.2.2.2.2.2.2.2.1) (fun d => some (d)) v15 v16 v17 b0_0 b0_1 b0_2 b0_3 b0_4 b0_5 b0_6 b0_7 b0_8 b0_9 b0_10 b0_11 b0_12 b0_13 b0_14 b0_15 m1
theorem na_impl_Forged_6 {R S : Type}  (NX : ((List ByteArray) × (Int) × (Int) × (Int) × (List ByteArray) × (List (Int × ByteArray × Unit)) × (Bool) × (Int) × (Int) × (Int) × (Int) × (Int) × (Int) × (Int) × (Int) × (Int) × (List (ByteArray × ByteArray × Unit)) × (List ((List (ByteArray × ByteArray × Unit)) × Unit)) × (List ByteArray) × (List (ByteArray × Bool)) × Unit) → Option R) (X2 : ((Int) × (List ByteArray) × (List (Int × ByteArray × Unit)) × (Bool) × (Int) × (Int) × (Int) × (Int) × (Int) × (Int) × (Int) × (Int) × (Int) × (List (ByteArray × ByteArray × Unit)) × (List ((List (ByteArray × ByteArray × Unit)) × Unit)) × (List ByteArray) × (List (ByteArray × Bool)) × Unit) → Option R) (v15 : List ByteArray) (v16 : Int) (v17 : Int) (b0_0 : Int) (b0_1 : List ByteArray) (b0_2 : List (Int × ByteArray × Unit)) (b0_3 : Bool) (b0_4 : Int) (b0_5 : Int) (b0_6 : Int) (b0_7 : Int) (b0_8 : Int) (b0_9 : Int) (b0_10 : Int) (b0_11 : Int) (b0_12 : Int) (b0_13 : List (ByteArray × ByteArray × Unit)) (b0_14 : List ((List (ByteArray × ByteArray × Unit)) × Unit)) (b0_15 : List ByteArray) (m1 : List (ByteArray × Bool)) (f : R → Option S) : tr_impl_Forged_6  (fun d => (NX d).bind f) (fun d => (X2 d).bind f) v15 v16 v17 b0_0 b0_1 b0_2 b0_3 b0_4 b0_5 b0_6 b0_7 b0_8 b0_9 b0_10 b0_11 b0_12 b0_13 b0_14 b0_15 m1 = (tr_impl_Forged_6  NX X2 v15 v16 v17 b0_0 b0_1 b0_2 b0_3 b0_4 b0_5 b0_6 b0_7 b0_8 b0_9 b0_10 b0_11 b0_12 b0_13 b0_14 b0_15 m1).bind f := by
  unfold tr_impl_Forged_6
  simp only [cond_bind, ite_bind, onSum_bind, Option.bind_assoc, Option.bind_none, Option.bind_some]
noncomputable def de_impl_Forged (a0 : Int × ((List ByteArray) × (List (Int × ByteArray × Unit)) × Unit) × Bool × (Int × Int × Int × (Int × Int × Int × Int × Unit) × Int × Int × ((List (ByteArray × ByteArray × Unit)) × Unit) × Unit) × (List ((List (ByteArray × ByteArray × Unit)) × Unit)) × (List ByteArray) × Unit) : Option ((((ByteArray) × Unit) × (Unit))) :=
  bif
      !m_impl_ValidWorld
          (a0.fst, (a0.snd.fst.fst, a0.snd.fst.snd.fst, ()), a0.snd.snd.fst,
            (a0.snd.snd.snd.fst.fst, a0.snd.snd.snd.fst.snd.fst, a0.snd.snd.snd.fst.snd.snd.fst,
              (a0.snd.snd.snd.fst.snd.snd.snd.fst.fst, a0.snd.snd.snd.fst.snd.snd.snd.fst.snd.fst, a0.snd.snd.snd.fst.snd.snd.snd.fst.snd.snd.fst, a0.snd.snd.snd.fst.snd.snd.snd.fst.snd.snd.snd.fst,
                ()),
              a0.snd.snd.snd.fst.snd.snd.snd.snd.fst, a0.snd.snd.snd.fst.snd.snd.snd.snd.snd.fst, (a0.snd.snd.snd.fst.snd.snd.snd.snd.snd.snd.fst.fst, ()), ()),
            a0.snd.snd.snd.snd.fst, a0.snd.snd.snd.snd.snd.fst, ()) then
    some ((ByteArray.mk #[], ()), ())
  else
    Option.bind
      ((fun d => lo_impl_Forged_6 (fu_impl_Forged_6 d.1 d.2.1 d.2.2.1 d.2.2.2.1 d.2.2.2.2.1 d.2.2.2.2.2.1 d.2.2.2.2.2.2.1 d.2.2.2.2.2.2.2.1 d.2.2.2.2.2.2.2.2.1 d.2.2.2.2.2.2.2.2.2.1 d.2.2.2.2.2.2.2.2.2.2.1 d.2.2.2.2.2.2.2.2.2.2.2.1 d.2.2.2.2.2.2.2.2.2.2.2.2.1 d.2.2.2.2.2.2.2.2.2.2.2.2.2.1 d.2.2.2.2.2.2.2.2.2.2.2.2.2.2.1 d.2.2.2.2.2.2.2.2.2.2.2.2.2.2.2.1 d.2.2.2.2.2.2.2.2.2.2.2.2.2.2.2.2.1 d.2.2.2.2.2.2.2.2.2.2.2.2.2.2.2.2.2.1 d.2.2.2.2.2.2.2.2.2.2.2.2.2.2.2.2.2.2.1 d.2.2.2.2.2.2.2.2.2.2.2.2.2.2.2.2.2.2.2.1) d.1 d.2.1 d.2.2.1 d.2.2.2.1 d.2.2.2.2.1 d.2.2.2.2.2.1 d.2.2.2.2.2.2.1 d.2.2.2.2.2.2.2.1 d.2.2.2.2.2.2.2.2.1 d.2.2.2.2.2.2.2.2.2.1 d.2.2.2.2.2.2.2.2.2.2.1 d.2.2.2.2.2.2.2.2.2.2.2.1 d.2.2.2.2.2.2.2.2.2.2.2.2.1 d.2.2.2.2.2.2.2.2.2.2.2.2.2.1 d.2.2.2.2.2.2.2.2.2.2.2.2.2.2.1 d.2.2.2.2.2.2.2.2.2.2.2.2.2.2.2.1 d.2.2.2.2.2.2.2.2.2.2.2.2.2.2.2.2.1 d.2.2.2.2.2.2.2.2.2.2.2.2.2.2.2.2.2.1 d.2.2.2.2.2.2.2.2.2.2.2.2.2.2.2.2.2.2.1 d.2.2.2.2.2.2.2.2.2.2.2.2.2.2.2.2.2.2.2.1)
        (a0.snd.snd.snd.snd.snd.fst, nI (List.length a0.snd.snd.snd.snd.snd.fst), 0, a0.fst, a0.snd.fst.fst, a0.snd.fst.snd.fst, a0.snd.snd.fst, a0.snd.snd.snd.fst.fst, a0.snd.snd.snd.fst.snd.fst,
          a0.snd.snd.snd.fst.snd.snd.fst, a0.snd.snd.snd.fst.snd.snd.snd.fst.fst, a0.snd.snd.snd.fst.snd.snd.snd.fst.snd.fst, a0.snd.snd.snd.fst.snd.snd.snd.fst.snd.snd.fst,
          a0.snd.snd.snd.fst.snd.snd.snd.fst.snd.snd.snd.fst, a0.snd.snd.snd.fst.snd.snd.snd.snd.fst, a0.snd.snd.snd.fst.snd.snd.snd.snd.snd.fst, a0.snd.snd.snd.fst.snd.snd.snd.snd.snd.snd.fst.fst,
          a0.snd.snd.snd.snd.fst, a0.snd.snd.snd.snd.snd.fst, [], ()))
      fun val =>
      Option.bind
        ((fun d => lo_impl_Forged_11 (fu_impl_Forged_11 d.1 d.2.1 d.2.2.1 d.2.2.2.1 d.2.2.2.2.1 d.2.2.2.2.2.1 d.2.2.2.2.2.2.1 d.2.2.2.2.2.2.2.1 d.2.2.2.2.2.2.2.2.1 d.2.2.2.2.2.2.2.2.2.1 d.2.2.2.2.2.2.2.2.2.2.1 d.2.2.2.2.2.2.2.2.2.2.2.1 d.2.2.2.2.2.2.2.2.2.2.2.2.1 d.2.2.2.2.2.2.2.2.2.2.2.2.2.1 d.2.2.2.2.2.2.2.2.2.2.2.2.2.2.1 d.2.2.2.2.2.2.2.2.2.2.2.2.2.2.2.1 d.2.2.2.2.2.2.2.2.2.2.2.2.2.2.2.2.1 d.2.2.2.2.2.2.2.2.2.2.2.2.2.2.2.2.2.1 d.2.2.2.2.2.2.2.2.2.2.2.2.2.2.2.2.2.2.1 d.2.2.2.2.2.2.2.2.2.2.2.2.2.2.2.2.2.2.2.1) d.1 d.2.1 d.2.2.1 d.2.2.2.1 d.2.2.2.2.1 d.2.2.2.2.2.1 d.2.2.2.2.2.2.1 d.2.2.2.2.2.2.2.1 d.2.2.2.2.2.2.2.2.1 d.2.2.2.2.2.2.2.2.2.1 d.2.2.2.2.2.2.2.2.2.2.1 d.2.2.2.2.2.2.2.2.2.2.2.1 d.2.2.2.2.2.2.2.2.2.2.2.2.1 d.2.2.2.2.2.2.2.2.2.2.2.2.2.1 d.2.2.2.2.2.2.2.2.2.2.2.2.2.2.1 d.2.2.2.2.2.2.2.2.2.2.2.2.2.2.2.1 d.2.2.2.2.2.2.2.2.2.2.2.2.2.2.2.2.1 d.2.2.2.2.2.2.2.2.2.2.2.2.2.2.2.2.2.1 d.2.2.2.2.2.2.2.2.2.2.2.2.2.2.2.2.2.2.1 d.2.2.2.2.2.2.2.2.2.2.2.2.2.2.2.2.2.2.2.1)
          (val.snd.fst, nI (List.length val.snd.fst), 0, val.fst, val.snd.fst, val.snd.snd.fst, val.snd.snd.snd.fst, val.snd.snd.snd.snd.fst, val.snd.snd.snd.snd.snd.fst,
            val.snd.snd.snd.snd.snd.snd.fst, val.snd.snd.snd.snd.snd.snd.snd.fst, val.snd.snd.snd.snd.snd.snd.snd.snd.fst, val.snd.snd.snd.snd.snd.snd.snd.snd.snd.fst,
            val.snd.snd.snd.snd.snd.snd.snd.snd.snd.snd.fst, val.snd.snd.snd.snd.snd.snd.snd.snd.snd.snd.snd.fst, val.snd.snd.snd.snd.snd.snd.snd.snd.snd.snd.snd.snd.fst,
            val.snd.snd.snd.snd.snd.snd.snd.snd.snd.snd.snd.snd.snd.fst, val.snd.snd.snd.snd.snd.snd.snd.snd.snd.snd.snd.snd.snd.snd.fst,
            val.snd.snd.snd.snd.snd.snd.snd.snd.snd.snd.snd.snd.snd.snd.snd.fst, val.snd.snd.snd.snd.snd.snd.snd.snd.snd.snd.snd.snd.snd.snd.snd.snd.fst, ()))
        fun val => onSum (fun val => some ((ByteArray.mk #[], ()), ())) (fun val => some ((val.fst, ()), ())) val
theorem forged_loop6 (b0 b4 b5 b6 b7 b8 b9 b10 b11 b12 : Int) (b1 : List ByteArray) (b2 : List Wr) (b3 : Bool) (b13 : List Pr2) (b14 : List Stt) (W : List ByteArray) (hW : W.length ≤ 2000) :
    lo_impl_Forged_6 (fu_impl_Forged_6 W (nI W.length) 0 b0 b1 b2 b3 b4 b5 b6 b7 b8 b9 b10 b11 b12 b13 b14 W []) W (nI W.length) 0 b0 b1 b2 b3 b4 b5 b6 b7 b8 b9 b10 b11 b12 b13 b14 W [] = some (b0, b1, b2, b3, b4, b5, b6, b7, b8, b9, b10, b11, b12, b13, b14, W, foldI (fun _ y m => updL y true m) 0 W [], ()) := by
  have hL := foldi_loop (xs := W) z0 (fun _ _ => True) (fun _ y m => updL y true m) (g := fun m i M => lo_impl_Forged_6 m W (nI W.length) i b0 b1 b2 b3 b4 b5 b6 b7 b8 b9 b10 b11 b12 b13 b14 W M) (ok := fun M => (b0, b1, b2, b3, b4, b5, b6, b7, b8, b9, b10, b11, b12, b13, b14, W, M, ())) (fun m i M hi _ => by
      show lo_impl_Forged_6 (m + 1) W (nI W.length) i b0 b1 b2 b3 b4 b5 b6 b7 b8 b9 b10 b11 b12 b13 b14 W M = _
      simp only [lo_impl_Forged_6, tr_impl_Forged_6]
      rw [cLt hi, cLe0, wI (show i < 4611686018427387904 by omega), Int.toNat_natCast]
      rfl) (fun _ _ _ _ => trivial) (fun m M _ => by
      show lo_impl_Forged_6 (m + 1) W (nI W.length) (W.length : Int) b0 b1 b2 b3 b4 b5 b6 b7 b8 b9 b10 b11 b12 b13 b14 W M = _
      simp only [lo_impl_Forged_6, tr_impl_Forged_6]
      rw [cLtF]
      rfl) (fu_impl_Forged_6 W (nI W.length) 0 b0 b1 b2 b3 b4 b5 b6 b7 b8 b9 b10 b11 b12 b13 b14 W []) 0 [] (by omega) (by simp [fu_impl_Forged_6, nI]) trivial
  rw [List.drop_zero] at hL
  exact hL
theorem forged_loop11 (b0 b4 b5 b6 b7 b8 b9 b10 b11 b12 : Int) (b1 : List ByteArray) (b2 : List Wr) (b3 : Bool) (b13 : List Pr2) (b14 : List Stt) (W : List ByteArray) (M : List (ByteArray × Bool)) (hb : b1.length ≤ 200) :
    lo_impl_Forged_11 (fu_impl_Forged_11 b1 (nI b1.length) 0 b0 b1 b2 b3 b4 b5 b6 b7 b8 b9 b10 b11 b12 b13 b14 W M) b1 (nI b1.length) 0 b0 b1 b2 b3 b4 b5 b6 b7 b8 b9 b10 b11 b12 b13 b14 W M = some (findGo (fun x => (readP x b0).2 && !lookB x M) (fun x => .inr (x, ())) (.inl ()) b1) := by
  have hL := find_loop (xs := b1) z0 (fun x => (readP x b0).2 && !lookB x M) (fun x => .inr (x, ())) (g := fun m i => lo_impl_Forged_11 m b1 (nI b1.length) i b0 b1 b2 b3 b4 b5 b6 b7 b8 b9 b10 b11 b12 b13 b14 W M) (ok := .inl ()) (fun m i hi => by
      show lo_impl_Forged_11 (m + 1) b1 (nI b1.length) i b0 b1 b2 b3 b4 b5 b6 b7 b8 b9 b10 b11 b12 b13 b14 W M = _
      simp only [lo_impl_Forged_11, tr_impl_Forged_11]
      rw [cLt hi, cLe0, wI (show i < 4611686018427387904 by omega), Int.toNat_natCast]
      show (bif (readP (List.getD b1 i z0) b0).2 then (bif !lookB (List.getD b1 i z0) M then _ else _) else _) = _
      cases (readP (List.getD b1 i z0) b0).2 <;> cases lookB (List.getD b1 i z0) M <;> rfl) (fun m => by
      show lo_impl_Forged_11 (m + 1) b1 (nI b1.length) (b1.length : Int) b0 b1 b2 b3 b4 b5 b6 b7 b8 b9 b10 b11 b12 b13 b14 W M = _
      simp only [lo_impl_Forged_11, tr_impl_Forged_11]
      rw [cLtF]
      rfl) (fu_impl_Forged_11 b1 (nI b1.length) 0 b0 b1 b2 b3 b4 b5 b6 b7 b8 b9 b10 b11 b12 b13 b14 W M) 0 (by omega) (by simp [fu_impl_Forged_11, nI])
  rw [List.drop_zero] at hL
  exact hL
theorem eq_impl_Forged (a0 : Int × ((List ByteArray) × (List (Int × ByteArray × Unit)) × Unit) × Bool × (Int × Int × Int × (Int × Int × Int × Int × Unit) × Int × Int × ((List (ByteArray × ByteArray × Unit)) × Unit) × Unit) × (List ((List (ByteArray × ByteArray × Unit)) × Unit)) × (List ByteArray) × Unit) : de_impl_Forged a0 = some (((m_impl_Forged a0), ()), (())) := by
  unfold de_impl_Forged m_impl_Forged forgedS
  show (bif !validWorld a0 then _ else _) = _
  cases hv : validWorld a0 with
  | false => rfl
  | true =>
    obtain ⟨h1, h2, _⟩ := worldOk hv
    simp only [Bool.not_true, cond_false, cond_true]
    refine bindOf (forged_loop6 a0.1 a0.2.2.2.1.1 a0.2.2.2.1.2.1 a0.2.2.2.1.2.2.1 a0.2.2.2.1.2.2.2.1.1 a0.2.2.2.1.2.2.2.1.2.1 a0.2.2.2.1.2.2.2.1.2.2.1 a0.2.2.2.1.2.2.2.1.2.2.2.1 a0.2.2.2.1.2.2.2.2.1 a0.2.2.2.1.2.2.2.2.2.1 a0.2.1.1 a0.2.1.2.1 a0.2.2.1 a0.2.2.2.1.2.2.2.2.2.2.1.1 a0.2.2.2.2.1 a0.2.2.2.2.2.1 h2) ?_
    dsimp only
    refine bindOf (forged_loop11 a0.1 a0.2.2.2.1.1 a0.2.2.2.1.2.1 a0.2.2.2.1.2.2.1 a0.2.2.2.1.2.2.2.1.1 a0.2.2.2.1.2.2.2.1.2.1 a0.2.2.2.1.2.2.2.1.2.2.1 a0.2.2.2.1.2.2.2.1.2.2.2.1 a0.2.2.2.1.2.2.2.2.1 a0.2.2.2.1.2.2.2.2.2.1 a0.2.1.1 a0.2.1.2.1 a0.2.2.1 a0.2.2.2.1.2.2.2.2.2.2.1.1 a0.2.2.2.2.1 a0.2.2.2.2.2.1 _ (disk_ok h1).n200) ?_
    rw [findGo_map (onSum _ _), findGo_map (fun r : ByteArray => some ((r, ()), ()))]
    have : (fun x => (readP x a0.1).2 && !lookB x (foldI (fun _ y m => updL y true m) 0 a0.2.2.2.2.2.1 [])) = fun x => (readP x a0.1).2 && !inL a0.2.2.2.2.2.1 x := funext fun x => by
      rw [lookB_all]
      show ((readP x a0.1).2 && !(inL a0.2.2.2.2.2.1 x || false)) = _
      rw [Bool.or_false]
    rw [this]
    rfl
noncomputable def ou_impl_Forged_6 {R : Type} (k : Kt R) : ((Int) × (List ByteArray) × (List (Int × ByteArray × Unit)) × (Bool) × (Int) × (Int) × (Int) × (Int) × (Int) × (Int) × (Int) × (Int) × (Int) × (List (ByteArray × ByteArray × Unit)) × (List ((List (ByteArray × ByteArray × Unit)) × Unit)) × (List ByteArray) × (List (ByteArray × Bool)) × Unit) → Option R := (fun d => k (.exit 0) (((pa_impl_Forged 6).2 2).st d) (((pa_impl_Forged 6).2 2).nid))
noncomputable def ou_impl_Forged_11 {R : Type} (k : Kt R) : ((Unit) ⊕ ((ByteArray) × Unit)) → Option R := (onSum (fun d => k (.exit 2) (((pa_impl_Forged 11).2 4).st d) (((pa_impl_Forged 11).2 4).nid)) (fun d => k .ret (((pa_impl_Forged 11).2 1).st d) (((pa_impl_Forged 11).2 1).nid)))
noncomputable def L_impl_Forged {R : Type} : Lt R pa_impl_Forged := (addL (pat := pa_impl_Forged) 6 (fun d k => (lo_impl_Forged_6 (fu_impl_Forged_6 d.1 d.2.1 d.2.2.1 d.2.2.2.1 d.2.2.2.2.1 d.2.2.2.2.2.1 d.2.2.2.2.2.2.1 d.2.2.2.2.2.2.2.1 d.2.2.2.2.2.2.2.2.1 d.2.2.2.2.2.2.2.2.2.1 d.2.2.2.2.2.2.2.2.2.2.1 d.2.2.2.2.2.2.2.2.2.2.2.1 d.2.2.2.2.2.2.2.2.2.2.2.2.1 d.2.2.2.2.2.2.2.2.2.2.2.2.2.1 d.2.2.2.2.2.2.2.2.2.2.2.2.2.2.1 d.2.2.2.2.2.2.2.2.2.2.2.2.2.2.2.1 d.2.2.2.2.2.2.2.2.2.2.2.2.2.2.2.2.1 d.2.2.2.2.2.2.2.2.2.2.2.2.2.2.2.2.2.1 d.2.2.2.2.2.2.2.2.2.2.2.2.2.2.2.2.2.2.1 d.2.2.2.2.2.2.2.2.2.2.2.2.2.2.2.2.2.2.2.1) d.1 d.2.1 d.2.2.1 d.2.2.2.1 d.2.2.2.2.1 d.2.2.2.2.2.1 d.2.2.2.2.2.2.1 d.2.2.2.2.2.2.2.1 d.2.2.2.2.2.2.2.2.1 d.2.2.2.2.2.2.2.2.2.1 d.2.2.2.2.2.2.2.2.2.2.1 d.2.2.2.2.2.2.2.2.2.2.2.1 d.2.2.2.2.2.2.2.2.2.2.2.2.1 d.2.2.2.2.2.2.2.2.2.2.2.2.2.1 d.2.2.2.2.2.2.2.2.2.2.2.2.2.2.1 d.2.2.2.2.2.2.2.2.2.2.2.2.2.2.2.1 d.2.2.2.2.2.2.2.2.2.2.2.2.2.2.2.2.1 d.2.2.2.2.2.2.2.2.2.2.2.2.2.2.2.2.2.1 d.2.2.2.2.2.2.2.2.2.2.2.2.2.2.2.2.2.2.1 d.2.2.2.2.2.2.2.2.2.2.2.2.2.2.2.2.2.2.2.1).bind (ou_impl_Forged_6 k)) (addL (pat := pa_impl_Forged) 11 (fun d k => (lo_impl_Forged_11 (fu_impl_Forged_11 d.1 d.2.1 d.2.2.1 d.2.2.2.1 d.2.2.2.2.1 d.2.2.2.2.2.1 d.2.2.2.2.2.2.1 d.2.2.2.2.2.2.2.1 d.2.2.2.2.2.2.2.2.1 d.2.2.2.2.2.2.2.2.2.1 d.2.2.2.2.2.2.2.2.2.2.1 d.2.2.2.2.2.2.2.2.2.2.2.1 d.2.2.2.2.2.2.2.2.2.2.2.2.1 d.2.2.2.2.2.2.2.2.2.2.2.2.2.1 d.2.2.2.2.2.2.2.2.2.2.2.2.2.2.1 d.2.2.2.2.2.2.2.2.2.2.2.2.2.2.2.1 d.2.2.2.2.2.2.2.2.2.2.2.2.2.2.2.2.1 d.2.2.2.2.2.2.2.2.2.2.2.2.2.2.2.2.2.1 d.2.2.2.2.2.2.2.2.2.2.2.2.2.2.2.2.2.2.1 d.2.2.2.2.2.2.2.2.2.2.2.2.2.2.2.2.2.2.2.1) d.1 d.2.1 d.2.2.1 d.2.2.2.1 d.2.2.2.2.1 d.2.2.2.2.2.1 d.2.2.2.2.2.2.1 d.2.2.2.2.2.2.2.1 d.2.2.2.2.2.2.2.2.1 d.2.2.2.2.2.2.2.2.2.1 d.2.2.2.2.2.2.2.2.2.2.1 d.2.2.2.2.2.2.2.2.2.2.2.1 d.2.2.2.2.2.2.2.2.2.2.2.2.1 d.2.2.2.2.2.2.2.2.2.2.2.2.2.1 d.2.2.2.2.2.2.2.2.2.2.2.2.2.2.1 d.2.2.2.2.2.2.2.2.2.2.2.2.2.2.2.1 d.2.2.2.2.2.2.2.2.2.2.2.2.2.2.2.2.1 d.2.2.2.2.2.2.2.2.2.2.2.2.2.2.2.2.2.1 d.2.2.2.2.2.2.2.2.2.2.2.2.2.2.2.2.2.2.1 d.2.2.2.2.2.2.2.2.2.2.2.2.2.2.2.2.2.2.2.1).bind (ou_impl_Forged_11 k)) noL))
theorem rd_impl_Forged_11 {R : Type} (nx : (pa_impl_Forged 11).1.D → Kt R → Option R) (k : Kt R) (v26 : List ByteArray) (v27 : Int) (v28 : Int) (b0_0 : Int) (b0_1 : List ByteArray) (b0_2 : List (Int × ByteArray × Unit)) (b0_3 : Bool) (b0_4 : Int) (b0_5 : Int) (b0_6 : Int) (b0_7 : Int) (b0_8 : Int) (b0_9 : Int) (b0_10 : Int) (b0_11 : Int) (b0_12 : Int) (b0_13 : List (ByteArray × ByteArray × Unit)) (b0_14 : List ((List (ByteArray × ByteArray × Unit)) × Unit)) (b0_15 : List ByteArray) (m1 : List (ByteArray × Bool)) : ev Try.prog ⟨ta_impl_Forged, 0, 48, pa_impl_Forged⟩ L_impl_Forged co_impl_Forged_11 ((pa_impl_Forged 11).1.st (v26, v27, v28, b0_0, b0_1, b0_2, b0_3, b0_4, b0_5, b0_6, b0_7, b0_8, b0_9, b0_10, b0_11, b0_12, b0_13, b0_14, b0_15, m1, ())) (pa_impl_Forged 11).1.nid (roundK 0 (pa_impl_Forged 11) nx k) = tr_impl_Forged_11  (fun d => nx d k) (fun d => k (.exit 2) (((pa_impl_Forged 11).2 4).st d) (((pa_impl_Forged 11).2 4).nid)) (fun d => k .ret (((pa_impl_Forged 11).2 1).st d) (((pa_impl_Forged 11).2 1).nid)) v26 v27 v28 b0_0 b0_1 b0_2 b0_3 b0_4 b0_5 b0_6 b0_7 b0_8 b0_9 b0_10 b0_11 b0_12 b0_13 b0_14 b0_15 m1 := by kernel_rfl
theorem lp_impl_Forged_11 {R : Type} : ∀ (m : Nat) (d : (pa_impl_Forged 11).1.D) (k : Kt R), loopN 0 (pa_impl_Forged 11) (fun s nid k => ev Try.prog ⟨ta_impl_Forged, 0, 48, pa_impl_Forged⟩ L_impl_Forged co_impl_Forged_11 s nid k) m d k = (lo_impl_Forged_11 m d.1 d.2.1 d.2.2.1 d.2.2.2.1 d.2.2.2.2.1 d.2.2.2.2.2.1 d.2.2.2.2.2.2.1 d.2.2.2.2.2.2.2.1 d.2.2.2.2.2.2.2.2.1 d.2.2.2.2.2.2.2.2.2.1 d.2.2.2.2.2.2.2.2.2.2.1 d.2.2.2.2.2.2.2.2.2.2.2.1 d.2.2.2.2.2.2.2.2.2.2.2.2.1 d.2.2.2.2.2.2.2.2.2.2.2.2.2.1 d.2.2.2.2.2.2.2.2.2.2.2.2.2.2.1 d.2.2.2.2.2.2.2.2.2.2.2.2.2.2.2.1 d.2.2.2.2.2.2.2.2.2.2.2.2.2.2.2.2.1 d.2.2.2.2.2.2.2.2.2.2.2.2.2.2.2.2.2.1 d.2.2.2.2.2.2.2.2.2.2.2.2.2.2.2.2.2.2.1 d.2.2.2.2.2.2.2.2.2.2.2.2.2.2.2.2.2.2.2.1).bind (ou_impl_Forged_11 k)
  | 0, _, _ => rfl
  | m + 1, ⟨v26, v27, v28, b0_0, b0_1, b0_2, b0_3, b0_4, b0_5, b0_6, b0_7, b0_8, b0_9, b0_10, b0_11, b0_12, b0_13, b0_14, b0_15, m1, ⟨⟩⟩, k => (rd_impl_Forged_11 _ k v26 v27 v28 b0_0 b0_1 b0_2 b0_3 b0_4 b0_5 b0_6 b0_7 b0_8 b0_9 b0_10 b0_11 b0_12 b0_13 b0_14 b0_15 m1).trans ((congrArg (fun F => tr_impl_Forged_11  F (fun d => k (.exit 2) (((pa_impl_Forged 11).2 4).st d) (((pa_impl_Forged 11).2 4).nid)) (fun d => k .ret (((pa_impl_Forged 11).2 1).st d) (((pa_impl_Forged 11).2 1).nid)) v26 v27 v28 b0_0 b0_1 b0_2 b0_3 b0_4 b0_5 b0_6 b0_7 b0_8 b0_9 b0_10 b0_11 b0_12 b0_13 b0_14 b0_15 m1) (funext fun d => lp_impl_Forged_11 m d k)).trans (na_impl_Forged_11 (f := ou_impl_Forged_11 k)  (fun d => lo_impl_Forged_11 m d.1 d.2.1 d.2.2.1 d.2.2.2.1 d.2.2.2.2.1 d.2.2.2.2.2.1 d.2.2.2.2.2.2.1 d.2.2.2.2.2.2.2.1 d.2.2.2.2.2.2.2.2.1 d.2.2.2.2.2.2.2.2.2.1 d.2.2.2.2.2.2.2.2.2.2.1 d.2.2.2.2.2.2.2.2.2.2.2.1 d.2.2.2.2.2.2.2.2.2.2.2.2.1 d.2.2.2.2.2.2.2.2.2.2.2.2.2.1 d.2.2.2.2.2.2.2.2.2.2.2.2.2.2.1 d.2.2.2.2.2.2.2.2.2.2.2.2.2.2.2.1 d.2.2.2.2.2.2.2.2.2.2.2.2.2.2.2.2.1 d.2.2.2.2.2.2.2.2.2.2.2.2.2.2.2.2.2.1 d.2.2.2.2.2.2.2.2.2.2.2.2.2.2.2.2.2.2.1 d.2.2.2.2.2.2.2.2.2.2.2.2.2.2.2.2.2.2.2.1) (fun d => some (.inl (d))) (fun d => some (.inr (d))) v26 v27 v28 b0_0 b0_1 b0_2 b0_3 b0_4 b0_5 b0_6 b0_7 b0_8 b0_9 b0_10 b0_11 b0_12 b0_13 b0_14 b0_15 m1))
theorem rd_impl_Forged_6 {R : Type} (nx : (pa_impl_Forged 6).1.D → Kt R → Option R) (k : Kt R) (v15 : List ByteArray) (v16 : Int) (v17 : Int) (b0_0 : Int) (b0_1 : List ByteArray) (b0_2 : List (Int × ByteArray × Unit)) (b0_3 : Bool) (b0_4 : Int) (b0_5 : Int) (b0_6 : Int) (b0_7 : Int) (b0_8 : Int) (b0_9 : Int) (b0_10 : Int) (b0_11 : Int) (b0_12 : Int) (b0_13 : List (ByteArray × ByteArray × Unit)) (b0_14 : List ((List (ByteArray × ByteArray × Unit)) × Unit)) (b0_15 : List ByteArray) (m1 : List (ByteArray × Bool)) : ev Try.prog ⟨ta_impl_Forged, 0, 48, pa_impl_Forged⟩ L_impl_Forged co_impl_Forged_6 ((pa_impl_Forged 6).1.st (v15, v16, v17, b0_0, b0_1, b0_2, b0_3, b0_4, b0_5, b0_6, b0_7, b0_8, b0_9, b0_10, b0_11, b0_12, b0_13, b0_14, b0_15, m1, ())) (pa_impl_Forged 6).1.nid (roundK 0 (pa_impl_Forged 6) nx k) = tr_impl_Forged_6  (fun d => nx d k) (fun d => k (.exit 0) (((pa_impl_Forged 6).2 2).st d) (((pa_impl_Forged 6).2 2).nid)) v15 v16 v17 b0_0 b0_1 b0_2 b0_3 b0_4 b0_5 b0_6 b0_7 b0_8 b0_9 b0_10 b0_11 b0_12 b0_13 b0_14 b0_15 m1 := by kernel_rfl
theorem lp_impl_Forged_6 {R : Type} : ∀ (m : Nat) (d : (pa_impl_Forged 6).1.D) (k : Kt R), loopN 0 (pa_impl_Forged 6) (fun s nid k => ev Try.prog ⟨ta_impl_Forged, 0, 48, pa_impl_Forged⟩ L_impl_Forged co_impl_Forged_6 s nid k) m d k = (lo_impl_Forged_6 m d.1 d.2.1 d.2.2.1 d.2.2.2.1 d.2.2.2.2.1 d.2.2.2.2.2.1 d.2.2.2.2.2.2.1 d.2.2.2.2.2.2.2.1 d.2.2.2.2.2.2.2.2.1 d.2.2.2.2.2.2.2.2.2.1 d.2.2.2.2.2.2.2.2.2.2.1 d.2.2.2.2.2.2.2.2.2.2.2.1 d.2.2.2.2.2.2.2.2.2.2.2.2.1 d.2.2.2.2.2.2.2.2.2.2.2.2.2.1 d.2.2.2.2.2.2.2.2.2.2.2.2.2.2.1 d.2.2.2.2.2.2.2.2.2.2.2.2.2.2.2.1 d.2.2.2.2.2.2.2.2.2.2.2.2.2.2.2.2.1 d.2.2.2.2.2.2.2.2.2.2.2.2.2.2.2.2.2.1 d.2.2.2.2.2.2.2.2.2.2.2.2.2.2.2.2.2.2.1 d.2.2.2.2.2.2.2.2.2.2.2.2.2.2.2.2.2.2.2.1).bind (ou_impl_Forged_6 k)
  | 0, _, _ => rfl
  | m + 1, ⟨v15, v16, v17, b0_0, b0_1, b0_2, b0_3, b0_4, b0_5, b0_6, b0_7, b0_8, b0_9, b0_10, b0_11, b0_12, b0_13, b0_14, b0_15, m1, ⟨⟩⟩, k => (rd_impl_Forged_6 _ k v15 v16 v17 b0_0 b0_1 b0_2 b0_3 b0_4 b0_5 b0_6 b0_7 b0_8 b0_9 b0_10 b0_11 b0_12 b0_13 b0_14 b0_15 m1).trans ((congrArg (fun F => tr_impl_Forged_6  F (fun d => k (.exit 0) (((pa_impl_Forged 6).2 2).st d) (((pa_impl_Forged 6).2 2).nid)) v15 v16 v17 b0_0 b0_1 b0_2 b0_3 b0_4 b0_5 b0_6 b0_7 b0_8 b0_9 b0_10 b0_11 b0_12 b0_13 b0_14 b0_15 m1) (funext fun d => lp_impl_Forged_6 m d k)).trans (na_impl_Forged_6 (f := ou_impl_Forged_6 k)  (fun d => lo_impl_Forged_6 m d.1 d.2.1 d.2.2.1 d.2.2.2.1 d.2.2.2.2.1 d.2.2.2.2.2.1 d.2.2.2.2.2.2.1 d.2.2.2.2.2.2.2.1 d.2.2.2.2.2.2.2.2.1 d.2.2.2.2.2.2.2.2.2.1 d.2.2.2.2.2.2.2.2.2.2.1 d.2.2.2.2.2.2.2.2.2.2.2.1 d.2.2.2.2.2.2.2.2.2.2.2.2.1 d.2.2.2.2.2.2.2.2.2.2.2.2.2.1 d.2.2.2.2.2.2.2.2.2.2.2.2.2.2.1 d.2.2.2.2.2.2.2.2.2.2.2.2.2.2.2.1 d.2.2.2.2.2.2.2.2.2.2.2.2.2.2.2.2.1 d.2.2.2.2.2.2.2.2.2.2.2.2.2.2.2.2.2.1 d.2.2.2.2.2.2.2.2.2.2.2.2.2.2.2.2.2.2.1 d.2.2.2.2.2.2.2.2.2.2.2.2.2.2.2.2.2.2.2.1) (fun d => some (d)) v15 v16 v17 b0_0 b0_1 b0_2 b0_3 b0_4 b0_5 b0_6 b0_7 b0_8 b0_9 b0_10 b0_11 b0_12 b0_13 b0_14 b0_15 m1))
theorem en_impl_Forged (a0 : Int × ((List ByteArray) × (List (Int × ByteArray × Unit)) × Unit) × Bool × (Int × Int × Int × (Int × Int × Int × Int × Unit) × Int × Int × ((List (ByteArray × ByteArray × Unit)) × Unit) × Unit) × (List ((List (ByteArray × ByteArray × Unit)) × Unit)) × (List ByteArray) × Unit) : evalF Try.prog ta_impl_Forged pa_impl_Forged sg_impl_Forged Try.f28 L_impl_Forged (a0, ()) = de_impl_Forged a0 := by kernel_rfl
theorem si_impl_Forged : SigsOk Try.prog ta_impl_Forged := SigsOk.of fun f sd h => by
  try dsimp only [Tb.of, ta_impl_Forged] at h
  split at h
  · rename_i e; subst e; cases h; exact sn_impl_ValidWorld
  split at h
  · rename_i e; subst e; cases h; exact sn_impl_ReadPage
  cases h
theorem lk_impl_Forged_11 {R : Type} : LoopOk Try.prog R 48 0 pa_impl_Forged L_impl_Forged co_impl_Forged_11 :=
  loop_key (cfg := ⟨ta_impl_Forged, 0, 48, pa_impl_Forged⟩) (key := 11) (by kernel_rfl) (by kernel_rfl) si_impl_Forged rfl rfl (fun d k r h => ⟨fu_impl_Forged_11 d.1 d.2.1 d.2.2.1 d.2.2.2.1 d.2.2.2.2.1 d.2.2.2.2.2.1 d.2.2.2.2.2.2.1 d.2.2.2.2.2.2.2.1 d.2.2.2.2.2.2.2.2.1 d.2.2.2.2.2.2.2.2.2.1 d.2.2.2.2.2.2.2.2.2.2.1 d.2.2.2.2.2.2.2.2.2.2.2.1 d.2.2.2.2.2.2.2.2.2.2.2.2.1 d.2.2.2.2.2.2.2.2.2.2.2.2.2.1 d.2.2.2.2.2.2.2.2.2.2.2.2.2.2.1 d.2.2.2.2.2.2.2.2.2.2.2.2.2.2.2.1 d.2.2.2.2.2.2.2.2.2.2.2.2.2.2.2.2.1 d.2.2.2.2.2.2.2.2.2.2.2.2.2.2.2.2.2.1 d.2.2.2.2.2.2.2.2.2.2.2.2.2.2.2.2.2.2.1 d.2.2.2.2.2.2.2.2.2.2.2.2.2.2.2.2.2.2.2.1, (lp_impl_Forged_11 _ d k).trans h⟩) (fun c hc => by rw [show loopsIn co_impl_Forged_11 = [] from by kernel_rfl] at hc; cases hc)
theorem lk_impl_Forged_6 {R : Type} : LoopOk Try.prog R 48 0 pa_impl_Forged L_impl_Forged co_impl_Forged_6 :=
  loop_key (cfg := ⟨ta_impl_Forged, 0, 48, pa_impl_Forged⟩) (key := 6) (by kernel_rfl) (by kernel_rfl) si_impl_Forged rfl rfl (fun d k r h => ⟨fu_impl_Forged_6 d.1 d.2.1 d.2.2.1 d.2.2.2.1 d.2.2.2.2.1 d.2.2.2.2.2.1 d.2.2.2.2.2.2.1 d.2.2.2.2.2.2.2.1 d.2.2.2.2.2.2.2.2.1 d.2.2.2.2.2.2.2.2.2.1 d.2.2.2.2.2.2.2.2.2.2.1 d.2.2.2.2.2.2.2.2.2.2.2.1 d.2.2.2.2.2.2.2.2.2.2.2.2.1 d.2.2.2.2.2.2.2.2.2.2.2.2.2.1 d.2.2.2.2.2.2.2.2.2.2.2.2.2.2.1 d.2.2.2.2.2.2.2.2.2.2.2.2.2.2.2.1 d.2.2.2.2.2.2.2.2.2.2.2.2.2.2.2.2.1 d.2.2.2.2.2.2.2.2.2.2.2.2.2.2.2.2.2.1 d.2.2.2.2.2.2.2.2.2.2.2.2.2.2.2.2.2.2.1 d.2.2.2.2.2.2.2.2.2.2.2.2.2.2.2.2.2.2.2.1, (lp_impl_Forged_6 _ d k).trans h⟩) (fun c hc => by rw [show loopsIn co_impl_Forged_6 = [] from by kernel_rfl] at hc; cases hc)
theorem sn_impl_Forged : Callable Try.prog 28 ∧ Sound Try.prog 28 sd_impl_Forged.sg sd_impl_Forged.den :=
  fn_loops (pat := pa_impl_Forged) L_impl_Forged (by kernel_rfl) si_impl_Forged Try.func28 (by kernel_rfl) (by kernel_rfl) (fun c hc => by rw [show loopsIn (bodyOf Try.f28) = [co_impl_Forged_6, co_impl_Forged_11] from by kernel_rfl] at hc; simp only [List.mem_cons, List.not_mem_nil, or_false] at hc; rcases hc with rfl | rfl <;> first | exact lk_impl_Forged_6 | exact lk_impl_Forged_11) fun x r h => by
    obtain ⟨a0, ⟨⟩⟩ := x; rw [← h]; exact (en_impl_Forged a0).trans (eq_impl_Forged a0)
def m_laws_eqRoot (a b : Int × Int × Int × Int × Unit) : Option Bool := eqM (.pair (.int .i64) (.pair (.int .i64) (.pair (.int .i64) (.pair (.int .i64) .unit)))) a b
def sg_laws_eqRoot : Sig := ⟨[.rd (.pair (.int .i64) (.pair (.int .i64) (.pair (.int .i64) (.pair (.int .i64) .unit)))), .rd (.pair (.int .i64) (.pair (.int .i64) (.pair (.int .i64) (.pair (.int .i64) .unit))))], [some 4, some 4], [.rd .bool], [none]⟩
noncomputable def sd_laws_eqRoot : SD := ⟨sg_laws_eqRoot, fun x => (m_laws_eqRoot x.1 x.2.1).bind fun r => some ((r, ()), (()))⟩
noncomputable def ta_laws_eqRoot : Tb := Tb.of fun f => none
def pa_laws_eqRoot : Nat → Pat × (Nat → Pat) := fun k => (⟨[], [], []⟩, fun _ => ⟨[], [], []⟩)
noncomputable def de_laws_eqRoot (a0 : Int × Int × Int × Int × Unit) (a1 : Int × Int × Int × Int × Unit) : Option ((((Bool) × Unit) × (Unit))) :=
  bif a0.fst != a1.fst then some ((false, ()), ())
  else
    bif a0.snd.fst != a1.snd.fst then some ((false, ()), ())
    else bif a0.snd.snd.fst != a1.snd.snd.fst then some ((false, ()), ()) else bif a0.snd.snd.snd.fst != a1.snd.snd.snd.fst then some ((false, ()), ()) else some ((true, ()), ())
theorem eq_laws_eqRoot (a0 : Int × Int × Int × Int × Unit) (a1 : Int × Int × Int × Int × Unit) r (h : m_laws_eqRoot a0 a1 = some r) : de_laws_eqRoot a0 a1 = some ((r, ()), (())) := by
  obtain ⟨hc, hd, rfl⟩ := eqM_some (t := (.pair (.int .i64) (.pair (.int .i64) (.pair (.int .i64) (.pair (.int .i64) .unit))))) h
  obtain ⟨hc0, hc1, hc2, hc3, _⟩ : fineB (.int .i64) a0.1 = true ∧ fineB (.int .i64) a0.2.1 = true ∧ fineB (.int .i64) a0.2.2.1 = true ∧ fineB (.int .i64) a0.2.2.2.1 = true ∧ True := by
    have s := hc
    obtain ⟨h0, s⟩ := fineB_pair s
    obtain ⟨h1, s⟩ := fineB_pair s
    obtain ⟨h2, s⟩ := fineB_pair s
    obtain ⟨h3, s⟩ := fineB_pair s
    exact ⟨h0, h1, h2, h3, trivial⟩
  obtain ⟨hd0, hd1, hd2, hd3, _⟩ : fineB (.int .i64) a1.1 = true ∧ fineB (.int .i64) a1.2.1 = true ∧ fineB (.int .i64) a1.2.2.1 = true ∧ fineB (.int .i64) a1.2.2.2.1 = true ∧ True := by
    have s := hd
    obtain ⟨h0, s⟩ := fineB_pair s
    obtain ⟨h1, s⟩ := fineB_pair s
    obtain ⟨h2, s⟩ := fineB_pair s
    obtain ⟨h3, s⟩ := fineB_pair s
    exact ⟨h0, h1, h2, h3, trivial⟩
  unfold de_laws_eqRoot
  have e0 : (a0.1 != a1.1) = !eqI a0.1 a1.1 := bneI _ _
  have e1 : (a0.2.1 != a1.2.1) = !eqI a0.2.1 a1.2.1 := bneI _ _
  have e2 : (a0.2.2.1 != a1.2.2.1) = !eqI a0.2.2.1 a1.2.2.1 := bneI _ _
  have e3 : (a0.2.2.2.1 != a1.2.2.2.1) = !eqI a0.2.2.2.1 a1.2.2.2.1 := bneI _ _
  simp only [e0, e1, e2, e3, Option.bind_some]
  show _ = some (((eqI a0.1 a1.1 && (eqI a0.2.1 a1.2.1 && (eqI a0.2.2.1 a1.2.2.1 && (eqI a0.2.2.2.1 a1.2.2.2.1 && true)))), ()), ())
  generalize eqI a0.1 a1.1 = p0
  generalize eqI a0.2.1 a1.2.1 = p1
  generalize eqI a0.2.2.1 a1.2.2.1 = p2
  generalize eqI a0.2.2.2.1 a1.2.2.2.1 = p3
  cases p0 <;> cases p1 <;> cases p2 <;> cases p3 <;> rfl
theorem en_laws_eqRoot (a0 : Int × Int × Int × Int × Unit) (a1 : Int × Int × Int × Int × Unit) : evalF Try.prog ta_laws_eqRoot pa_laws_eqRoot sg_laws_eqRoot Try.f55 noL (a0, a1, ()) = de_laws_eqRoot a0 a1 := by kernel_rfl
theorem si_laws_eqRoot : SigsOk Try.prog ta_laws_eqRoot := SigsOk.of fun f sd h => by
  try dsimp only [Tb.of, ta_laws_eqRoot] at h
  cases h
theorem sn_laws_eqRoot : Callable Try.prog 55 ∧ Sound Try.prog 55 sd_laws_eqRoot.sg sd_laws_eqRoot.den :=
  fn_plain (pat := pa_laws_eqRoot) (by kernel_rfl) si_laws_eqRoot Try.func55 (by kernel_rfl) (by kernel_rfl) (by kernel_rfl) fun x r h => by
    obtain ⟨a0, a1, ⟨⟩⟩ := x; obtain ⟨y, h1, h2⟩ := Option.bind_eq_some_iff.1 (show (m_laws_eqRoot a0 a1).bind (fun r => some ((r, ()), (()))) = some r from h); cases h2; exact (en_laws_eqRoot a0 a1).trans (eq_laws_eqRoot a0 a1 _ h1)
def m_laws_eqPair (a b : ByteArray × ByteArray × Unit) : Option Bool := eqM (.pair .str (.pair .str .unit)) a b
def sg_laws_eqPair : Sig := ⟨[.rd (.pair .str (.pair .str .unit)), .rd (.pair .str (.pair .str .unit))], [some 2, some 2], [.rd .bool], [none]⟩
noncomputable def sd_laws_eqPair : SD := ⟨sg_laws_eqPair, fun x => (m_laws_eqPair x.1 x.2.1).bind fun r => some ((r, ()), (()))⟩
noncomputable def ta_laws_eqPair : Tb := Tb.of fun f => none
def pa_laws_eqPair : Nat → Pat × (Nat → Pat) := fun k => (⟨[], [], []⟩, fun _ => ⟨[], [], []⟩)
noncomputable def de_laws_eqPair (a0 : ByteArray × ByteArray × Unit) (a1 : ByteArray × ByteArray × Unit) : Option ((((Bool) × Unit) × (Unit))) :=
  bif !ByteArray.toList a0.fst == ByteArray.toList a1.fst then some ((false, ()), ())
  else bif !ByteArray.toList a0.snd.fst == ByteArray.toList a1.snd.fst then some ((false, ()), ()) else some ((true, ()), ())
theorem eq_laws_eqPair (a0 : ByteArray × ByteArray × Unit) (a1 : ByteArray × ByteArray × Unit) r (h : m_laws_eqPair a0 a1 = some r) : de_laws_eqPair a0 a1 = some ((r, ()), (())) := by
  obtain ⟨hc, hd, rfl⟩ := eqM_some (t := (.pair .str (.pair .str .unit))) h
  obtain ⟨hc0, hc1, _⟩ : fineB .str a0.1 = true ∧ fineB .str a0.2.1 = true ∧ True := by
    have s := hc
    obtain ⟨h0, s⟩ := fineB_pair s
    obtain ⟨h1, s⟩ := fineB_pair s
    exact ⟨h0, h1, trivial⟩
  obtain ⟨hd0, hd1, _⟩ : fineB .str a1.1 = true ∧ fineB .str a1.2.1 = true ∧ True := by
    have s := hd
    obtain ⟨h0, s⟩ := fineB_pair s
    obtain ⟨h1, s⟩ := fineB_pair s
    exact ⟨h0, h1, trivial⟩
  unfold de_laws_eqPair
  have e0 : (!(ByteArray.toList a0.1 == ByteArray.toList a1.1)) = !eqS a0.1 a1.1 := rfl
  have e1 : (!(ByteArray.toList a0.2.1 == ByteArray.toList a1.2.1)) = !eqS a0.2.1 a1.2.1 := rfl
  simp only [e0, e1, Option.bind_some]
  show _ = some (((eqS a0.1 a1.1 && (eqS a0.2.1 a1.2.1 && true)), ()), ())
  generalize eqS a0.1 a1.1 = p0
  generalize eqS a0.2.1 a1.2.1 = p1
  cases p0 <;> cases p1 <;> rfl
theorem en_laws_eqPair (a0 : ByteArray × ByteArray × Unit) (a1 : ByteArray × ByteArray × Unit) : evalF Try.prog ta_laws_eqPair pa_laws_eqPair sg_laws_eqPair Try.f165 noL (a0, a1, ()) = de_laws_eqPair a0 a1 := by kernel_rfl
theorem si_laws_eqPair : SigsOk Try.prog ta_laws_eqPair := SigsOk.of fun f sd h => by
  try dsimp only [Tb.of, ta_laws_eqPair] at h
  cases h
theorem sn_laws_eqPair : Callable Try.prog 165 ∧ Sound Try.prog 165 sd_laws_eqPair.sg sd_laws_eqPair.den :=
  fn_plain (pat := pa_laws_eqPair) (by kernel_rfl) si_laws_eqPair Try.func165 (by kernel_rfl) (by kernel_rfl) (by kernel_rfl) fun x r h => by
    obtain ⟨a0, a1, ⟨⟩⟩ := x; obtain ⟨y, h1, h2⟩ := Option.bind_eq_some_iff.1 (show (m_laws_eqPair a0 a1).bind (fun r => some ((r, ()), (()))) = some r from h); cases h2; exact (en_laws_eqPair a0 a1).trans (eq_laws_eqPair a0 a1 _ h1)
def m_laws_eqPairS (a b : List (ByteArray × ByteArray × Unit)) : Option Bool := eqM (.sl (.pair .str (.pair .str .unit))) a b
def sg_laws_eqPairS : Sig := ⟨[.rd (.sl (.pair .str (.pair .str .unit))), .rd (.sl (.pair .str (.pair .str .unit)))], [none, none], [.rd .bool], [none]⟩
noncomputable def sd_laws_eqPairS : SD := ⟨sg_laws_eqPairS, fun x => (m_laws_eqPairS x.1 x.2.1).bind fun r => some ((r, ()), (()))⟩
noncomputable def ta_laws_eqPairS : Tb := Tb.of fun f => if f = 165 then some sd_laws_eqPair else none
def pa_laws_eqPairS : Nat → Pat × (Nat → Pat) := fun k => if k = 5 then (⟨[.sl 0 0 (.pair .str (.pair .str .unit)), .sl 1 0 (.pair .str (.pair .str .unit))], [(0, .lf (.d (.sl (.pair .str (.pair .str .unit))))), (1, .lf (.d (.sl (.pair .str (.pair .str .unit))))), (5, .lf (.d (.int .i64)))], []⟩, fun e => if e = 1 then ⟨[], [(4, .lf (.d .bool))], []⟩ else if e = 2 then ⟨[], [], []⟩ else ⟨[], [], []⟩) else (⟨[], [], []⟩, fun _ => ⟨[], [], []⟩)
noncomputable def co_laws_eqPairS_5 : Code := (loopsIn (bodyOf Try.f128)).getD 0 .skip
def fu_laws_eqPairS_5 (v0 : List (ByteArray × ByteArray × Unit)) (v1 : List (ByteArray × ByteArray × Unit)) (v5 : Int) : Nat := ((v0.length : Int) - v5).toNat + 1
noncomputable def tr_laws_eqPairS_5 {R : Type}  (NX : ((List (ByteArray × ByteArray × Unit)) × (List (ByteArray × ByteArray × Unit)) × (Int) × Unit) → Option R) (X2 : (Unit) → Option R) (X1 : ((Bool) × Unit) → Option R) (v0 : List (ByteArray × ByteArray × Unit)) (v1 : List (ByteArray × ByteArray × Unit)) (v5 : Int) : Option R :=
  bif decide (v5 < nI (List.length v0)) then
    bif decide (0 ≤ v5) then
      bif decide (v5 < nI (List.length v0)) then
        bif decide (0 ≤ v5) then
          bif decide (v5 < nI (List.length v1)) then
            Option.bind
              (Option.bind
                (m_laws_eqPair ((List.getD v0 (Int.toNat v5) (ByteArray.mk #[], ByteArray.mk #[], ())).fst, (List.getD v0 (Int.toNat v5) (ByteArray.mk #[], ByteArray.mk #[], ())).snd.fst, ())
                  ((List.getD v1 (Int.toNat v5) (ByteArray.mk #[], ByteArray.mk #[], ())).fst, (List.getD v1 (Int.toNat v5) (ByteArray.mk #[], ByteArray.mk #[], ())).snd.fst, ()))
                fun val => some ((val, ()), ()))
              fun val => bif !val.fst.fst then X1 (false, ()) else NX (v0, v1, IntKind.wrap IntKind.i64 (v5 + 1), ())
          else none
        else none
      else none
    else none
  else X2 PUnit.unit
noncomputable def lo_laws_eqPairS_5 : Nat → (List (ByteArray × ByteArray × Unit)) → (List (ByteArray × ByteArray × Unit)) → (Int) →  Option ((Unit) ⊕ ((Bool) × Unit))
  | 0, _, _, _ => none
  | m + 1, v0, v1, v5 => tr_laws_eqPairS_5  (fun d => lo_laws_eqPairS_5 m d.1 d.2.1 d.2.2.1) (fun d => some (.inl (d))) (fun d => some (.inr (d))) v0 v1 v5
theorem na_laws_eqPairS_5 {R S : Type}  (NX : ((List (ByteArray × ByteArray × Unit)) × (List (ByteArray × ByteArray × Unit)) × (Int) × Unit) → Option R) (X2 : (Unit) → Option R) (X1 : ((Bool) × Unit) → Option R) (v0 : List (ByteArray × ByteArray × Unit)) (v1 : List (ByteArray × ByteArray × Unit)) (v5 : Int) (f : R → Option S) : tr_laws_eqPairS_5  (fun d => (NX d).bind f) (fun d => (X2 d).bind f) (fun d => (X1 d).bind f) v0 v1 v5 = (tr_laws_eqPairS_5  NX X2 X1 v0 v1 v5).bind f := by
  unfold tr_laws_eqPairS_5
  simp only [cond_bind, ite_bind, onSum_bind, Option.bind_assoc, Option.bind_none, Option.bind_some]
noncomputable def de_laws_eqPairS (a0 : List (ByteArray × ByteArray × Unit)) (a1 : List (ByteArray × ByteArray × Unit)) : Option ((((Bool) × Unit) × (Unit))) :=
  bif nI (List.length a0) != nI (List.length a1) then some ((false, ()), ())
  else Option.bind ((fun d => lo_laws_eqPairS_5 (fu_laws_eqPairS_5 d.1 d.2.1 d.2.2.1) d.1 d.2.1 d.2.2.1) (a0, a1, 0, ())) fun val => onSum (fun val => some ((true, ()), ())) (fun val => some ((val.fst, ()), ())) val
theorem eq_laws_eqPairS (a0 : List (ByteArray × ByteArray × Unit)) (a1 : List (ByteArray × ByteArray × Unit)) r (h : m_laws_eqPairS a0 a1 = some r) : de_laws_eqPairS a0 a1 = some ((r, ()), (())) := by
  obtain ⟨hc, hd, rfl⟩ := eqM_some (t := .sl (.pair .str (.pair .str .unit))) h
  obtain ⟨hlx0, hx⟩ := fineB_sl hc
  obtain ⟨hly0, hy⟩ := fineB_sl hd
  have hlx : a0.length < 1152921504606846976 := hlx0
  have hly : a1.length < 1152921504606846976 := hly0
  clear hlx0 hly0 hc hd h
  · unfold de_laws_eqPairS
    by_cases hl : a1.length = a0.length
    · have c1 : (nI a0.length != nI a1.length) = false := by simp [nI, hl]
      have hL := eq_loop (xs := a0) (ys := a1) ((ByteArray.mk #[]), (ByteArray.mk #[]), ()) (fun x y : ByteArray × ByteArray × Unit => eqB (.pair .str (.pair .str .unit)) x y) (g := fun m i => lo_laws_eqPairS_5 m a0 a1 i) (ok := .inl ()) (bad := .inr (false, ())) hl (fun m i hi => by
        show lo_laws_eqPairS_5 (m + 1) a0 a1 i = _
        simp only [lo_laws_eqPairS_5, tr_laws_eqPairS_5]
        rw [cLt hi, cLe0, cLt (show i < a1.length by omega), wI (by omega)]
        simp only [cond_true, Int.toNat_natCast]
        have f1 : fineB (.pair .str (.pair .str .unit)) (List.getD (α := ByteArray × ByteArray × Unit) a0 i ((ByteArray.mk #[]), (ByteArray.mk #[]), ())) = true := hx _ (getD_mem ((ByteArray.mk #[]), (ByteArray.mk #[]), ()) hi)
        have f2 : fineB (.pair .str (.pair .str .unit)) (List.getD (α := ByteArray × ByteArray × Unit) a1 i ((ByteArray.mk #[]), (ByteArray.mk #[]), ())) = true := hy _ (getD_mem ((ByteArray.mk #[]), (ByteArray.mk #[]), ()) (by omega))
        have hE : m_laws_eqPair ((List.getD (α := ByteArray × ByteArray × Unit) a0 i ((ByteArray.mk #[]), (ByteArray.mk #[]), ())).fst, (List.getD (α := ByteArray × ByteArray × Unit) a0 i ((ByteArray.mk #[]), (ByteArray.mk #[]), ())).snd.fst, ()) ((List.getD (α := ByteArray × ByteArray × Unit) a1 i ((ByteArray.mk #[]), (ByteArray.mk #[]), ())).fst, (List.getD (α := ByteArray × ByteArray × Unit) a1 i ((ByteArray.mk #[]), (ByteArray.mk #[]), ())).snd.fst, ()) = some (eqB (.pair .str (.pair .str .unit)) (List.getD (α := ByteArray × ByteArray × Unit) a0 i ((ByteArray.mk #[]), (ByteArray.mk #[]), ())) (List.getD (α := ByteArray × ByteArray × Unit) a1 i ((ByteArray.mk #[]), (ByteArray.mk #[]), ()))) := by
          exact eqM_is (t := (.pair .str (.pair .str .unit))) (x := (List.getD (α := ByteArray × ByteArray × Unit) a0 i ((ByteArray.mk #[]), (ByteArray.mk #[]), ()))) (y := (List.getD (α := ByteArray × ByteArray × Unit) a1 i ((ByteArray.mk #[]), (ByteArray.mk #[]), ()))) f1 f2
        rw [hE]
        cases q : eqB (.pair .str (.pair .str .unit)) (List.getD (α := ByteArray × ByteArray × Unit) a0 i ((ByteArray.mk #[]), (ByteArray.mk #[]), ())) (List.getD (α := ByteArray × ByteArray × Unit) a1 i ((ByteArray.mk #[]), (ByteArray.mk #[]), ())) <;> simp only [Option.bind_some, q] <;> rfl) (fun m => by
        show lo_laws_eqPairS_5 (m + 1) a0 a1 a0.length = _
        simp only [lo_laws_eqPairS_5, tr_laws_eqPairS_5]
        rw [cLtF]
        rfl) (fu_laws_eqPairS_5 a0 a1 0) 0 (by omega) (by simp [fu_laws_eqPairS_5])
      rw [c1]
      have hL' : lo_laws_eqPairS_5 (fu_laws_eqPairS_5 a0 a1 0) a0 a1 0 = _ := hL
      show (lo_laws_eqPairS_5 (fu_laws_eqPairS_5 a0 a1 0) a0 a1 0).bind _ = some ((eqL (α := ByteArray × ByteArray × Unit) (fun x y : ByteArray × ByteArray × Unit => eqB (.pair .str (.pair .str .unit)) x y) a0 a1, ()), ())
      rw [hL', List.drop_zero, List.drop_zero]
      cases eqL (α := ByteArray × ByteArray × Unit) (fun x y : ByteArray × ByteArray × Unit => eqB (.pair .str (.pair .str .unit)) x y) a0 a1 <;> rfl
    · have c1 : (nI a0.length != nI a1.length) = true := by simp [nI]; omega
      rw [c1]
      show _ = some ((eqL (α := ByteArray × ByteArray × Unit) (fun x y : ByteArray × ByteArray × Unit => eqB (.pair .str (.pair .str .unit)) x y) a0 a1, ()), ())
      rw [eqL_len (fun q => hl q.symm)]
      rfl
noncomputable def ou_laws_eqPairS_5 {R : Type} (k : Kt R) : ((Unit) ⊕ ((Bool) × Unit)) → Option R := (onSum (fun d => k (.exit 0) (((pa_laws_eqPairS 5).2 2).st d) (((pa_laws_eqPairS 5).2 2).nid)) (fun d => k .ret (((pa_laws_eqPairS 5).2 1).st d) (((pa_laws_eqPairS 5).2 1).nid)))
noncomputable def L_laws_eqPairS {R : Type} : Lt R pa_laws_eqPairS := (addL (pat := pa_laws_eqPairS) 5 (fun d k => (lo_laws_eqPairS_5 (fu_laws_eqPairS_5 d.1 d.2.1 d.2.2.1) d.1 d.2.1 d.2.2.1).bind (ou_laws_eqPairS_5 k)) noL)
theorem rd_laws_eqPairS_5 {R : Type} (nx : (pa_laws_eqPairS 5).1.D → Kt R → Option R) (k : Kt R) (v0 : List (ByteArray × ByteArray × Unit)) (v1 : List (ByteArray × ByteArray × Unit)) (v5 : Int) : ev Try.prog ⟨ta_laws_eqPairS, 0, 27, pa_laws_eqPairS⟩ L_laws_eqPairS co_laws_eqPairS_5 ((pa_laws_eqPairS 5).1.st (v0, v1, v5, ())) (pa_laws_eqPairS 5).1.nid (roundK 0 (pa_laws_eqPairS 5) nx k) = tr_laws_eqPairS_5  (fun d => nx d k) (fun d => k (.exit 0) (((pa_laws_eqPairS 5).2 2).st d) (((pa_laws_eqPairS 5).2 2).nid)) (fun d => k .ret (((pa_laws_eqPairS 5).2 1).st d) (((pa_laws_eqPairS 5).2 1).nid)) v0 v1 v5 := by kernel_rfl
theorem lp_laws_eqPairS_5 {R : Type} : ∀ (m : Nat) (d : (pa_laws_eqPairS 5).1.D) (k : Kt R), loopN 0 (pa_laws_eqPairS 5) (fun s nid k => ev Try.prog ⟨ta_laws_eqPairS, 0, 27, pa_laws_eqPairS⟩ L_laws_eqPairS co_laws_eqPairS_5 s nid k) m d k = (lo_laws_eqPairS_5 m d.1 d.2.1 d.2.2.1).bind (ou_laws_eqPairS_5 k)
  | 0, _, _ => rfl
  | m + 1, ⟨v0, v1, v5, ⟨⟩⟩, k => (rd_laws_eqPairS_5 _ k v0 v1 v5).trans ((congrArg (fun F => tr_laws_eqPairS_5  F (fun d => k (.exit 0) (((pa_laws_eqPairS 5).2 2).st d) (((pa_laws_eqPairS 5).2 2).nid)) (fun d => k .ret (((pa_laws_eqPairS 5).2 1).st d) (((pa_laws_eqPairS 5).2 1).nid)) v0 v1 v5) (funext fun d => lp_laws_eqPairS_5 m d k)).trans (na_laws_eqPairS_5 (f := ou_laws_eqPairS_5 k)  (fun d => lo_laws_eqPairS_5 m d.1 d.2.1 d.2.2.1) (fun d => some (.inl (d))) (fun d => some (.inr (d))) v0 v1 v5))
theorem en_laws_eqPairS (a0 : List (ByteArray × ByteArray × Unit)) (a1 : List (ByteArray × ByteArray × Unit)) : evalF Try.prog ta_laws_eqPairS pa_laws_eqPairS sg_laws_eqPairS Try.f128 L_laws_eqPairS (a0, a1, ()) = de_laws_eqPairS a0 a1 := by kernel_rfl
theorem si_laws_eqPairS : SigsOk Try.prog ta_laws_eqPairS := SigsOk.of fun f sd h => by
  try dsimp only [Tb.of, ta_laws_eqPairS] at h
  split at h
  · rename_i e; subst e; cases h; exact sn_laws_eqPair
  cases h
theorem lk_laws_eqPairS_5 {R : Type} : LoopOk Try.prog R 27 0 pa_laws_eqPairS L_laws_eqPairS co_laws_eqPairS_5 :=
  loop_key (cfg := ⟨ta_laws_eqPairS, 0, 27, pa_laws_eqPairS⟩) (key := 5) (by kernel_rfl) (by kernel_rfl) si_laws_eqPairS rfl rfl (fun d k r h => ⟨fu_laws_eqPairS_5 d.1 d.2.1 d.2.2.1, (lp_laws_eqPairS_5 _ d k).trans h⟩) (fun c hc => by rw [show loopsIn co_laws_eqPairS_5 = [] from by kernel_rfl] at hc; cases hc)
theorem sn_laws_eqPairS : Callable Try.prog 128 ∧ Sound Try.prog 128 sd_laws_eqPairS.sg sd_laws_eqPairS.den :=
  fn_loops (pat := pa_laws_eqPairS) L_laws_eqPairS (by kernel_rfl) si_laws_eqPairS Try.func128 (by kernel_rfl) (by kernel_rfl) (fun c hc => by rw [show loopsIn (bodyOf Try.f128) = [co_laws_eqPairS_5] from by kernel_rfl] at hc; simp only [List.mem_cons, List.not_mem_nil, or_false] at hc; rcases hc with rfl <;> first | exact lk_laws_eqPairS_5) fun x r h => by
    obtain ⟨a0, a1, ⟨⟩⟩ := x; obtain ⟨y, h1, h2⟩ := Option.bind_eq_some_iff.1 (show (m_laws_eqPairS a0 a1).bind (fun r => some ((r, ()), (()))) = some r from h); cases h2; exact (en_laws_eqPairS a0 a1).trans (eq_laws_eqPairS a0 a1 _ h1)
def m_laws_eqState (a b : (List (ByteArray × ByteArray × Unit)) × Unit) : Option Bool := eqM (.pair (.sl (.pair .str (.pair .str .unit))) .unit) a b
def sg_laws_eqState : Sig := ⟨[.rd (.pair (.sl (.pair .str (.pair .str .unit))) .unit), .rd (.pair (.sl (.pair .str (.pair .str .unit))) .unit)], [some 1, some 1], [.rd .bool], [none]⟩
noncomputable def sd_laws_eqState : SD := ⟨sg_laws_eqState, fun x => (m_laws_eqState x.1 x.2.1).bind fun r => some ((r, ()), (()))⟩
noncomputable def ta_laws_eqState : Tb := Tb.of fun f => if f = 128 then some sd_laws_eqPairS else none
def pa_laws_eqState : Nat → Pat × (Nat → Pat) := fun k => (⟨[], [], []⟩, fun _ => ⟨[], [], []⟩)
noncomputable def de_laws_eqState (a0 : (List (ByteArray × ByteArray × Unit)) × Unit) (a1 : (List (ByteArray × ByteArray × Unit)) × Unit) : Option ((((Bool) × Unit) × (Unit))) :=
  Option.bind (Option.bind (m_laws_eqPairS a0.fst a1.fst) fun val => some ((val, ()), ())) fun val => bif !val.fst.fst then some ((false, ()), ()) else some ((true, ()), ())
theorem eq_laws_eqState (a0 : (List (ByteArray × ByteArray × Unit)) × Unit) (a1 : (List (ByteArray × ByteArray × Unit)) × Unit) r (h : m_laws_eqState a0 a1 = some r) : de_laws_eqState a0 a1 = some ((r, ()), (())) := by
  obtain ⟨hc, hd, rfl⟩ := eqM_some (t := (.pair (.sl (.pair .str (.pair .str .unit))) .unit)) h
  obtain ⟨hc0, _⟩ : fineB (.sl (.pair .str (.pair .str .unit))) a0.1 = true ∧ True := by
    have s := hc
    obtain ⟨h0, s⟩ := fineB_pair s
    exact ⟨h0, trivial⟩
  obtain ⟨hd0, _⟩ : fineB (.sl (.pair .str (.pair .str .unit))) a1.1 = true ∧ True := by
    have s := hd
    obtain ⟨h0, s⟩ := fineB_pair s
    exact ⟨h0, trivial⟩
  unfold de_laws_eqState
  have e0 : m_laws_eqPairS a0.1 a1.1 = some (eqB (.sl (.pair .str (.pair .str .unit))) a0.1 a1.1) := eqM_is (t := (.sl (.pair .str (.pair .str .unit)))) hc0 hd0
  simp only [e0, Option.bind_some]
  show _ = some (((eqB (.sl (.pair .str (.pair .str .unit))) a0.1 a1.1 && true), ()), ())
  generalize eqB (.sl (.pair .str (.pair .str .unit))) a0.1 a1.1 = p0
  cases p0 <;> rfl
theorem en_laws_eqState (a0 : (List (ByteArray × ByteArray × Unit)) × Unit) (a1 : (List (ByteArray × ByteArray × Unit)) × Unit) : evalF Try.prog ta_laws_eqState pa_laws_eqState sg_laws_eqState Try.f56 noL (a0, a1, ()) = de_laws_eqState a0 a1 := by kernel_rfl
theorem si_laws_eqState : SigsOk Try.prog ta_laws_eqState := SigsOk.of fun f sd h => by
  try dsimp only [Tb.of, ta_laws_eqState] at h
  split at h
  · rename_i e; subst e; cases h; exact sn_laws_eqPairS
  cases h
theorem sn_laws_eqState : Callable Try.prog 56 ∧ Sound Try.prog 56 sd_laws_eqState.sg sd_laws_eqState.den :=
  fn_plain (pat := pa_laws_eqState) (by kernel_rfl) si_laws_eqState Try.func56 (by kernel_rfl) (by kernel_rfl) (by kernel_rfl) fun x r h => by
    obtain ⟨a0, a1, ⟨⟩⟩ := x; obtain ⟨y, h1, h2⟩ := Option.bind_eq_some_iff.1 (show (m_laws_eqState a0 a1).bind (fun r => some ((r, ()), (()))) = some r from h); cases h2; exact (en_laws_eqState a0 a1).trans (eq_laws_eqState a0 a1 _ h1)
def m_laws_eqStore (a b : Int × Int × Int × (Int × Int × Int × Int × Unit) × Int × Int × ((List (ByteArray × ByteArray × Unit)) × Unit) × Unit) : Option Bool := eqM (.pair (.int .i64) (.pair (.int .i64) (.pair (.int .i64) (.pair (.pair (.int .i64) (.pair (.int .i64) (.pair (.int .i64) (.pair (.int .i64) .unit)))) (.pair (.int .i64) (.pair (.int .i64) (.pair (.pair (.sl (.pair .str (.pair .str .unit))) .unit) .unit))))))) a b
def sg_laws_eqStore : Sig := ⟨[.rd (.pair (.int .i64) (.pair (.int .i64) (.pair (.int .i64) (.pair (.pair (.int .i64) (.pair (.int .i64) (.pair (.int .i64) (.pair (.int .i64) .unit)))) (.pair (.int .i64) (.pair (.int .i64) (.pair (.pair (.sl (.pair .str (.pair .str .unit))) .unit) .unit))))))), .rd (.pair (.int .i64) (.pair (.int .i64) (.pair (.int .i64) (.pair (.pair (.int .i64) (.pair (.int .i64) (.pair (.int .i64) (.pair (.int .i64) .unit)))) (.pair (.int .i64) (.pair (.int .i64) (.pair (.pair (.sl (.pair .str (.pair .str .unit))) .unit) .unit)))))))], [some 10, some 10], [.rd .bool], [none]⟩
noncomputable def sd_laws_eqStore : SD := ⟨sg_laws_eqStore, fun x => (m_laws_eqStore x.1 x.2.1).bind fun r => some ((r, ()), (()))⟩
noncomputable def ta_laws_eqStore : Tb := Tb.of fun f => if f = 55 then some sd_laws_eqRoot else if f = 56 then some sd_laws_eqState else none
def pa_laws_eqStore : Nat → Pat × (Nat → Pat) := fun k => (⟨[], [], []⟩, fun _ => ⟨[], [], []⟩)
noncomputable def de_laws_eqStore (a0 : Int × Int × Int × (Int × Int × Int × Int × Unit) × Int × Int × ((List (ByteArray × ByteArray × Unit)) × Unit) × Unit) (a1 : Int × Int × Int × (Int × Int × Int × Int × Unit) × Int × Int × ((List (ByteArray × ByteArray × Unit)) × Unit) × Unit) : Option ((((Bool) × Unit) × (Unit))) :=
  bif a0.fst != a1.fst then some ((false, ()), ())
  else
    bif a0.snd.fst != a1.snd.fst then some ((false, ()), ())
    else
      bif a0.snd.snd.fst != a1.snd.snd.fst then some ((false, ()), ())
      else
        bif
            !(decide (a0.snd.snd.snd.fst.fst = a1.snd.snd.snd.fst.fst) &&
                (decide (a0.snd.snd.snd.fst.snd.fst = a1.snd.snd.snd.fst.snd.fst) &&
                  (decide (a0.snd.snd.snd.fst.snd.snd.fst = a1.snd.snd.snd.fst.snd.snd.fst) && (decide (a0.snd.snd.snd.fst.snd.snd.snd.fst = a1.snd.snd.snd.fst.snd.snd.snd.fst) && true)))) then
          some ((false, ()), ())
        else
          bif a0.snd.snd.snd.snd.fst != a1.snd.snd.snd.snd.fst then some ((false, ()), ())
          else
            bif a0.snd.snd.snd.snd.snd.fst != a1.snd.snd.snd.snd.snd.fst then some ((false, ()), ())
            else
              Option.bind (Option.bind (m_laws_eqState (a0.snd.snd.snd.snd.snd.snd.fst.fst, ()) (a1.snd.snd.snd.snd.snd.snd.fst.fst, ())) fun val => some ((val, ()), ())) fun val =>
                bif !val.fst.fst then some ((false, ()), ()) else some ((true, ()), ())
theorem eq_laws_eqStore (a0 : Int × Int × Int × (Int × Int × Int × Int × Unit) × Int × Int × ((List (ByteArray × ByteArray × Unit)) × Unit) × Unit) (a1 : Int × Int × Int × (Int × Int × Int × Int × Unit) × Int × Int × ((List (ByteArray × ByteArray × Unit)) × Unit) × Unit) r (h : m_laws_eqStore a0 a1 = some r) : de_laws_eqStore a0 a1 = some ((r, ()), (())) := by
  obtain ⟨hc, hd, rfl⟩ := eqM_some (t := (.pair (.int .i64) (.pair (.int .i64) (.pair (.int .i64) (.pair (.pair (.int .i64) (.pair (.int .i64) (.pair (.int .i64) (.pair (.int .i64) .unit)))) (.pair (.int .i64) (.pair (.int .i64) (.pair (.pair (.sl (.pair .str (.pair .str .unit))) .unit) .unit)))))))) h
  obtain ⟨hc0, hc1, hc2, hc3, hc4, hc5, hc6, _⟩ : fineB (.int .i64) a0.1 = true ∧ fineB (.int .i64) a0.2.1 = true ∧ fineB (.int .i64) a0.2.2.1 = true ∧ fineB (.pair (.int .i64) (.pair (.int .i64) (.pair (.int .i64) (.pair (.int .i64) .unit)))) a0.2.2.2.1 = true ∧ fineB (.int .i64) a0.2.2.2.2.1 = true ∧ fineB (.int .i64) a0.2.2.2.2.2.1 = true ∧ fineB (.pair (.sl (.pair .str (.pair .str .unit))) .unit) a0.2.2.2.2.2.2.1 = true ∧ True := by
    have s := hc
    obtain ⟨h0, s⟩ := fineB_pair s
    obtain ⟨h1, s⟩ := fineB_pair s
    obtain ⟨h2, s⟩ := fineB_pair s
    obtain ⟨h3, s⟩ := fineB_pair s
    obtain ⟨h4, s⟩ := fineB_pair s
    obtain ⟨h5, s⟩ := fineB_pair s
    obtain ⟨h6, s⟩ := fineB_pair s
    exact ⟨h0, h1, h2, h3, h4, h5, h6, trivial⟩
  obtain ⟨hd0, hd1, hd2, hd3, hd4, hd5, hd6, _⟩ : fineB (.int .i64) a1.1 = true ∧ fineB (.int .i64) a1.2.1 = true ∧ fineB (.int .i64) a1.2.2.1 = true ∧ fineB (.pair (.int .i64) (.pair (.int .i64) (.pair (.int .i64) (.pair (.int .i64) .unit)))) a1.2.2.2.1 = true ∧ fineB (.int .i64) a1.2.2.2.2.1 = true ∧ fineB (.int .i64) a1.2.2.2.2.2.1 = true ∧ fineB (.pair (.sl (.pair .str (.pair .str .unit))) .unit) a1.2.2.2.2.2.2.1 = true ∧ True := by
    have s := hd
    obtain ⟨h0, s⟩ := fineB_pair s
    obtain ⟨h1, s⟩ := fineB_pair s
    obtain ⟨h2, s⟩ := fineB_pair s
    obtain ⟨h3, s⟩ := fineB_pair s
    obtain ⟨h4, s⟩ := fineB_pair s
    obtain ⟨h5, s⟩ := fineB_pair s
    obtain ⟨h6, s⟩ := fineB_pair s
    exact ⟨h0, h1, h2, h3, h4, h5, h6, trivial⟩
  unfold de_laws_eqStore
  have e0 : (a0.1 != a1.1) = !eqI a0.1 a1.1 := bneI _ _
  have e1 : (a0.2.1 != a1.2.1) = !eqI a0.2.1 a1.2.1 := bneI _ _
  have e2 : (a0.2.2.1 != a1.2.2.1) = !eqI a0.2.2.1 a1.2.2.1 := bneI _ _
  have e4 : (a0.2.2.2.2.1 != a1.2.2.2.2.1) = !eqI a0.2.2.2.2.1 a1.2.2.2.2.1 := bneI _ _
  have e5 : (a0.2.2.2.2.2.1 != a1.2.2.2.2.2.1) = !eqI a0.2.2.2.2.2.1 a1.2.2.2.2.2.1 := bneI _ _
  have e6 : m_laws_eqState a0.2.2.2.2.2.2.1 a1.2.2.2.2.2.2.1 = some (eqB (.pair (.sl (.pair .str (.pair .str .unit))) .unit) a0.2.2.2.2.2.2.1 a1.2.2.2.2.2.2.1) := eqM_is (t := (.pair (.sl (.pair .str (.pair .str .unit))) .unit)) hc6 hd6
  have e6 : m_laws_eqState (a0.2.2.2.2.2.2.1.fst, ()) (a1.2.2.2.2.2.2.1.fst, ()) = some (eqB (.pair (.sl (.pair .str (.pair .str .unit))) .unit) a0.2.2.2.2.2.2.1 a1.2.2.2.2.2.2.1) := e6
  simp only [e0, e1, e2, e4, e5, e6, Option.bind_some]
  show _ = some (((eqI a0.1 a1.1 && (eqI a0.2.1 a1.2.1 && (eqI a0.2.2.1 a1.2.2.1 && ((decide (a0.2.2.2.1.1 = a1.2.2.2.1.1) && (decide (a0.2.2.2.1.2.1 = a1.2.2.2.1.2.1) && (decide (a0.2.2.2.1.2.2.1 = a1.2.2.2.1.2.2.1) && (decide (a0.2.2.2.1.2.2.2.1 = a1.2.2.2.1.2.2.2.1) && true)))) && (eqI a0.2.2.2.2.1 a1.2.2.2.2.1 && (eqI a0.2.2.2.2.2.1 a1.2.2.2.2.2.1 && (eqB (.pair (.sl (.pair .str (.pair .str .unit))) .unit) a0.2.2.2.2.2.2.1 a1.2.2.2.2.2.2.1 && true))))))), ()), ())
  generalize eqI a0.1 a1.1 = p0
  generalize eqI a0.2.1 a1.2.1 = p1
  generalize eqI a0.2.2.1 a1.2.2.1 = p2
  generalize (decide (a0.2.2.2.1.1 = a1.2.2.2.1.1) && (decide (a0.2.2.2.1.2.1 = a1.2.2.2.1.2.1) && (decide (a0.2.2.2.1.2.2.1 = a1.2.2.2.1.2.2.1) && (decide (a0.2.2.2.1.2.2.2.1 = a1.2.2.2.1.2.2.2.1) && true)))) = p3
  generalize eqI a0.2.2.2.2.1 a1.2.2.2.2.1 = p4
  generalize eqI a0.2.2.2.2.2.1 a1.2.2.2.2.2.1 = p5
  generalize eqB (.pair (.sl (.pair .str (.pair .str .unit))) .unit) a0.2.2.2.2.2.2.1 a1.2.2.2.2.2.2.1 = p6
  cases p0 <;> cases p1 <;> cases p2 <;> cases p3 <;> cases p4 <;> cases p5 <;> cases p6 <;> rfl
theorem en_laws_eqStore (a0 : Int × Int × Int × (Int × Int × Int × Int × Unit) × Int × Int × ((List (ByteArray × ByteArray × Unit)) × Unit) × Unit) (a1 : Int × Int × Int × (Int × Int × Int × Int × Unit) × Int × Int × ((List (ByteArray × ByteArray × Unit)) × Unit) × Unit) : evalF Try.prog ta_laws_eqStore pa_laws_eqStore sg_laws_eqStore Try.f13 noL (a0, a1, ()) = de_laws_eqStore a0 a1 := by kernel_rfl
theorem si_laws_eqStore : SigsOk Try.prog ta_laws_eqStore := SigsOk.of fun f sd h => by
  try dsimp only [Tb.of, ta_laws_eqStore] at h
  split at h
  · rename_i e; subst e; cases h; exact sn_laws_eqRoot
  split at h
  · rename_i e; subst e; cases h; exact sn_laws_eqState
  cases h
theorem sn_laws_eqStore : Callable Try.prog 13 ∧ Sound Try.prog 13 sd_laws_eqStore.sg sd_laws_eqStore.den :=
  fn_plain (pat := pa_laws_eqStore) (by kernel_rfl) si_laws_eqStore Try.func13 (by kernel_rfl) (by kernel_rfl) (by kernel_rfl) fun x r h => by
    obtain ⟨a0, a1, ⟨⟩⟩ := x; obtain ⟨y, h1, h2⟩ := Option.bind_eq_some_iff.1 (show (m_laws_eqStore a0 a1).bind (fun r => some ((r, ()), (()))) = some r from h); cases h2; exact (en_laws_eqStore a0 a1).trans (eq_laws_eqStore a0 a1 _ h1)
def m_laws_eqStringS (a b : List ByteArray) : Option Bool := eqM (.sl .str) a b
def sg_laws_eqStringS : Sig := ⟨[.rd (.sl .str), .rd (.sl .str)], [none, none], [.rd .bool], [none]⟩
noncomputable def sd_laws_eqStringS : SD := ⟨sg_laws_eqStringS, fun x => (m_laws_eqStringS x.1 x.2.1).bind fun r => some ((r, ()), (()))⟩
noncomputable def ta_laws_eqStringS : Tb := Tb.of fun f => none
def pa_laws_eqStringS : Nat → Pat × (Nat → Pat) := fun k => if k = 5 then (⟨[.sl 0 0 .str, .sl 1 0 .str], [(0, .lf (.d (.sl .str))), (1, .lf (.d (.sl .str))), (5, .lf (.d (.int .i64)))], []⟩, fun e => if e = 1 then ⟨[], [(4, .lf (.d .bool))], []⟩ else if e = 2 then ⟨[], [], []⟩ else ⟨[], [], []⟩) else (⟨[], [], []⟩, fun _ => ⟨[], [], []⟩)
noncomputable def co_laws_eqStringS_5 : Code := (loopsIn (bodyOf Try.f85)).getD 0 .skip
def fu_laws_eqStringS_5 (v0 : List ByteArray) (v1 : List ByteArray) (v5 : Int) : Nat := ((v0.length : Int) - v5).toNat + 1
noncomputable def tr_laws_eqStringS_5 {R : Type}  (NX : ((List ByteArray) × (List ByteArray) × (Int) × Unit) → Option R) (X2 : (Unit) → Option R) (X1 : ((Bool) × Unit) → Option R) (v0 : List ByteArray) (v1 : List ByteArray) (v5 : Int) : Option R :=
  bif decide (v5 < nI (List.length v0)) then
    bif decide (0 ≤ v5) then
      bif decide (v5 < nI (List.length v0)) then
        bif decide (0 ≤ v5) then
          bif decide (v5 < nI (List.length v1)) then
            bif !ByteArray.toList (List.getD v0 (Int.toNat v5) (ByteArray.mk #[])) == ByteArray.toList (List.getD v1 (Int.toNat v5) (ByteArray.mk #[])) then X1 (false, ())
            else NX (v0, v1, IntKind.wrap IntKind.i64 (v5 + 1), ())
          else none
        else none
      else none
    else none
  else X2 PUnit.unit
noncomputable def lo_laws_eqStringS_5 : Nat → (List ByteArray) → (List ByteArray) → (Int) →  Option ((Unit) ⊕ ((Bool) × Unit))
  | 0, _, _, _ => none
  | m + 1, v0, v1, v5 => tr_laws_eqStringS_5  (fun d => lo_laws_eqStringS_5 m d.1 d.2.1 d.2.2.1) (fun d => some (.inl (d))) (fun d => some (.inr (d))) v0 v1 v5
theorem na_laws_eqStringS_5 {R S : Type}  (NX : ((List ByteArray) × (List ByteArray) × (Int) × Unit) → Option R) (X2 : (Unit) → Option R) (X1 : ((Bool) × Unit) → Option R) (v0 : List ByteArray) (v1 : List ByteArray) (v5 : Int) (f : R → Option S) : tr_laws_eqStringS_5  (fun d => (NX d).bind f) (fun d => (X2 d).bind f) (fun d => (X1 d).bind f) v0 v1 v5 = (tr_laws_eqStringS_5  NX X2 X1 v0 v1 v5).bind f := by
  unfold tr_laws_eqStringS_5
  simp only [cond_bind, ite_bind, onSum_bind, Option.bind_assoc, Option.bind_none, Option.bind_some]
noncomputable def de_laws_eqStringS (a0 : List ByteArray) (a1 : List ByteArray) : Option ((((Bool) × Unit) × (Unit))) :=
  bif nI (List.length a0) != nI (List.length a1) then some ((false, ()), ())
  else Option.bind ((fun d => lo_laws_eqStringS_5 (fu_laws_eqStringS_5 d.1 d.2.1 d.2.2.1) d.1 d.2.1 d.2.2.1) (a0, a1, 0, ())) fun val => onSum (fun val => some ((true, ()), ())) (fun val => some ((val.fst, ()), ())) val
theorem eq_laws_eqStringS (a0 : List ByteArray) (a1 : List ByteArray) r (h : m_laws_eqStringS a0 a1 = some r) : de_laws_eqStringS a0 a1 = some ((r, ()), (())) := by
  obtain ⟨hc, hd, rfl⟩ := eqM_some (t := .sl .str) h
  obtain ⟨hlx0, hx⟩ := fineB_sl hc
  obtain ⟨hly0, hy⟩ := fineB_sl hd
  have hlx : a0.length < 1152921504606846976 := hlx0
  have hly : a1.length < 1152921504606846976 := hly0
  clear hlx0 hly0 hc hd h
  · unfold de_laws_eqStringS
    by_cases hl : a1.length = a0.length
    · have c1 : (nI a0.length != nI a1.length) = false := by simp [nI, hl]
      have hL := eq_loop (xs := a0) (ys := a1) (ByteArray.mk #[]) eqS (g := fun m i => lo_laws_eqStringS_5 m a0 a1 i) (ok := .inl ()) (bad := .inr (false, ())) hl (fun m i hi => by
        show lo_laws_eqStringS_5 (m + 1) a0 a1 i = _
        simp only [lo_laws_eqStringS_5, tr_laws_eqStringS_5]
        rw [cLt hi, cLe0, cLt (show i < a1.length by omega), wI (by omega)]
        simp only [cond_true, Int.toNat_natCast]
        show (bif !(ByteArray.toList (List.getD (α := ByteArray) a0 i (ByteArray.mk #[])) == ByteArray.toList (List.getD (α := ByteArray) a1 i (ByteArray.mk #[]))) then _ else _) = bif (ByteArray.toList (List.getD (α := ByteArray) a0 i (ByteArray.mk #[])) == ByteArray.toList (List.getD (α := ByteArray) a1 i (ByteArray.mk #[]))) then _ else _
        cases (ByteArray.toList (List.getD (α := ByteArray) a0 i (ByteArray.mk #[])) == ByteArray.toList (List.getD (α := ByteArray) a1 i (ByteArray.mk #[]))) <;> rfl) (fun m => by
        show lo_laws_eqStringS_5 (m + 1) a0 a1 a0.length = _
        simp only [lo_laws_eqStringS_5, tr_laws_eqStringS_5]
        rw [cLtF]
        rfl) (fu_laws_eqStringS_5 a0 a1 0) 0 (by omega) (by simp [fu_laws_eqStringS_5])
      rw [c1]
      have hL' : lo_laws_eqStringS_5 (fu_laws_eqStringS_5 a0 a1 0) a0 a1 0 = _ := hL
      show (lo_laws_eqStringS_5 (fu_laws_eqStringS_5 a0 a1 0) a0 a1 0).bind _ = some ((eqL (α := ByteArray) eqS a0 a1, ()), ())
      rw [hL', List.drop_zero, List.drop_zero]
      cases eqL (α := ByteArray) eqS a0 a1 <;> rfl
    · have c1 : (nI a0.length != nI a1.length) = true := by simp [nI]; omega
      rw [c1]
      show _ = some ((eqL (α := ByteArray) eqS a0 a1, ()), ())
      rw [eqL_len (fun q => hl q.symm)]
      rfl
noncomputable def ou_laws_eqStringS_5 {R : Type} (k : Kt R) : ((Unit) ⊕ ((Bool) × Unit)) → Option R := (onSum (fun d => k (.exit 0) (((pa_laws_eqStringS 5).2 2).st d) (((pa_laws_eqStringS 5).2 2).nid)) (fun d => k .ret (((pa_laws_eqStringS 5).2 1).st d) (((pa_laws_eqStringS 5).2 1).nid)))
noncomputable def L_laws_eqStringS {R : Type} : Lt R pa_laws_eqStringS := (addL (pat := pa_laws_eqStringS) 5 (fun d k => (lo_laws_eqStringS_5 (fu_laws_eqStringS_5 d.1 d.2.1 d.2.2.1) d.1 d.2.1 d.2.2.1).bind (ou_laws_eqStringS_5 k)) noL)
theorem rd_laws_eqStringS_5 {R : Type} (nx : (pa_laws_eqStringS 5).1.D → Kt R → Option R) (k : Kt R) (v0 : List ByteArray) (v1 : List ByteArray) (v5 : Int) : ev Try.prog ⟨ta_laws_eqStringS, 0, 26, pa_laws_eqStringS⟩ L_laws_eqStringS co_laws_eqStringS_5 ((pa_laws_eqStringS 5).1.st (v0, v1, v5, ())) (pa_laws_eqStringS 5).1.nid (roundK 0 (pa_laws_eqStringS 5) nx k) = tr_laws_eqStringS_5  (fun d => nx d k) (fun d => k (.exit 0) (((pa_laws_eqStringS 5).2 2).st d) (((pa_laws_eqStringS 5).2 2).nid)) (fun d => k .ret (((pa_laws_eqStringS 5).2 1).st d) (((pa_laws_eqStringS 5).2 1).nid)) v0 v1 v5 := by kernel_rfl
theorem lp_laws_eqStringS_5 {R : Type} : ∀ (m : Nat) (d : (pa_laws_eqStringS 5).1.D) (k : Kt R), loopN 0 (pa_laws_eqStringS 5) (fun s nid k => ev Try.prog ⟨ta_laws_eqStringS, 0, 26, pa_laws_eqStringS⟩ L_laws_eqStringS co_laws_eqStringS_5 s nid k) m d k = (lo_laws_eqStringS_5 m d.1 d.2.1 d.2.2.1).bind (ou_laws_eqStringS_5 k)
  | 0, _, _ => rfl
  | m + 1, ⟨v0, v1, v5, ⟨⟩⟩, k => (rd_laws_eqStringS_5 _ k v0 v1 v5).trans ((congrArg (fun F => tr_laws_eqStringS_5  F (fun d => k (.exit 0) (((pa_laws_eqStringS 5).2 2).st d) (((pa_laws_eqStringS 5).2 2).nid)) (fun d => k .ret (((pa_laws_eqStringS 5).2 1).st d) (((pa_laws_eqStringS 5).2 1).nid)) v0 v1 v5) (funext fun d => lp_laws_eqStringS_5 m d k)).trans (na_laws_eqStringS_5 (f := ou_laws_eqStringS_5 k)  (fun d => lo_laws_eqStringS_5 m d.1 d.2.1 d.2.2.1) (fun d => some (.inl (d))) (fun d => some (.inr (d))) v0 v1 v5))
theorem en_laws_eqStringS (a0 : List ByteArray) (a1 : List ByteArray) : evalF Try.prog ta_laws_eqStringS pa_laws_eqStringS sg_laws_eqStringS Try.f85 L_laws_eqStringS (a0, a1, ()) = de_laws_eqStringS a0 a1 := by kernel_rfl
theorem si_laws_eqStringS : SigsOk Try.prog ta_laws_eqStringS := SigsOk.of fun f sd h => by
  try dsimp only [Tb.of, ta_laws_eqStringS] at h
  cases h
theorem lk_laws_eqStringS_5 {R : Type} : LoopOk Try.prog R 26 0 pa_laws_eqStringS L_laws_eqStringS co_laws_eqStringS_5 :=
  loop_key (cfg := ⟨ta_laws_eqStringS, 0, 26, pa_laws_eqStringS⟩) (key := 5) (by kernel_rfl) (by kernel_rfl) si_laws_eqStringS rfl rfl (fun d k r h => ⟨fu_laws_eqStringS_5 d.1 d.2.1 d.2.2.1, (lp_laws_eqStringS_5 _ d k).trans h⟩) (fun c hc => by rw [show loopsIn co_laws_eqStringS_5 = [] from by kernel_rfl] at hc; cases hc)
theorem sn_laws_eqStringS : Callable Try.prog 85 ∧ Sound Try.prog 85 sd_laws_eqStringS.sg sd_laws_eqStringS.den :=
  fn_loops (pat := pa_laws_eqStringS) L_laws_eqStringS (by kernel_rfl) si_laws_eqStringS Try.func85 (by kernel_rfl) (by kernel_rfl) (fun c hc => by rw [show loopsIn (bodyOf Try.f85) = [co_laws_eqStringS_5] from by kernel_rfl] at hc; simp only [List.mem_cons, List.not_mem_nil, or_false] at hc; rcases hc with rfl <;> first | exact lk_laws_eqStringS_5) fun x r h => by
    obtain ⟨a0, a1, ⟨⟩⟩ := x; obtain ⟨y, h1, h2⟩ := Option.bind_eq_some_iff.1 (show (m_laws_eqStringS a0 a1).bind (fun r => some ((r, ()), (()))) = some r from h); cases h2; exact (en_laws_eqStringS a0 a1).trans (eq_laws_eqStringS a0 a1 _ h1)
def m_laws_eqWrite (a b : Int × ByteArray × Unit) : Option Bool := eqM (.pair (.int .i64) (.pair .str .unit)) a b
def sg_laws_eqWrite : Sig := ⟨[.rd (.pair (.int .i64) (.pair .str .unit)), .rd (.pair (.int .i64) (.pair .str .unit))], [some 2, some 2], [.rd .bool], [none]⟩
noncomputable def sd_laws_eqWrite : SD := ⟨sg_laws_eqWrite, fun x => (m_laws_eqWrite x.1 x.2.1).bind fun r => some ((r, ()), (()))⟩
noncomputable def ta_laws_eqWrite : Tb := Tb.of fun f => none
def pa_laws_eqWrite : Nat → Pat × (Nat → Pat) := fun k => (⟨[], [], []⟩, fun _ => ⟨[], [], []⟩)
noncomputable def de_laws_eqWrite (a0 : Int × ByteArray × Unit) (a1 : Int × ByteArray × Unit) : Option ((((Bool) × Unit) × (Unit))) :=
  bif a0.fst != a1.fst then some ((false, ()), ()) else bif !ByteArray.toList a0.snd.fst == ByteArray.toList a1.snd.fst then some ((false, ()), ()) else some ((true, ()), ())
theorem eq_laws_eqWrite (a0 : Int × ByteArray × Unit) (a1 : Int × ByteArray × Unit) r (h : m_laws_eqWrite a0 a1 = some r) : de_laws_eqWrite a0 a1 = some ((r, ()), (())) := by
  obtain ⟨hc, hd, rfl⟩ := eqM_some (t := (.pair (.int .i64) (.pair .str .unit))) h
  obtain ⟨hc0, hc1, _⟩ : fineB (.int .i64) a0.1 = true ∧ fineB .str a0.2.1 = true ∧ True := by
    have s := hc
    obtain ⟨h0, s⟩ := fineB_pair s
    obtain ⟨h1, s⟩ := fineB_pair s
    exact ⟨h0, h1, trivial⟩
  obtain ⟨hd0, hd1, _⟩ : fineB (.int .i64) a1.1 = true ∧ fineB .str a1.2.1 = true ∧ True := by
    have s := hd
    obtain ⟨h0, s⟩ := fineB_pair s
    obtain ⟨h1, s⟩ := fineB_pair s
    exact ⟨h0, h1, trivial⟩
  unfold de_laws_eqWrite
  have e0 : (a0.1 != a1.1) = !eqI a0.1 a1.1 := bneI _ _
  have e1 : (!(ByteArray.toList a0.2.1 == ByteArray.toList a1.2.1)) = !eqS a0.2.1 a1.2.1 := rfl
  simp only [e0, e1, Option.bind_some]
  show _ = some (((eqI a0.1 a1.1 && (eqS a0.2.1 a1.2.1 && true)), ()), ())
  generalize eqI a0.1 a1.1 = p0
  generalize eqS a0.2.1 a1.2.1 = p1
  cases p0 <;> cases p1 <;> rfl
theorem en_laws_eqWrite (a0 : Int × ByteArray × Unit) (a1 : Int × ByteArray × Unit) : evalF Try.prog ta_laws_eqWrite pa_laws_eqWrite sg_laws_eqWrite Try.f169 noL (a0, a1, ()) = de_laws_eqWrite a0 a1 := by kernel_rfl
theorem si_laws_eqWrite : SigsOk Try.prog ta_laws_eqWrite := SigsOk.of fun f sd h => by
  try dsimp only [Tb.of, ta_laws_eqWrite] at h
  cases h
theorem sn_laws_eqWrite : Callable Try.prog 169 ∧ Sound Try.prog 169 sd_laws_eqWrite.sg sd_laws_eqWrite.den :=
  fn_plain (pat := pa_laws_eqWrite) (by kernel_rfl) si_laws_eqWrite Try.func169 (by kernel_rfl) (by kernel_rfl) (by kernel_rfl) fun x r h => by
    obtain ⟨a0, a1, ⟨⟩⟩ := x; obtain ⟨y, h1, h2⟩ := Option.bind_eq_some_iff.1 (show (m_laws_eqWrite a0 a1).bind (fun r => some ((r, ()), (()))) = some r from h); cases h2; exact (en_laws_eqWrite a0 a1).trans (eq_laws_eqWrite a0 a1 _ h1)
def m_laws_eqWriteS (a b : List (Int × ByteArray × Unit)) : Option Bool := eqM (.sl (.pair (.int .i64) (.pair .str .unit))) a b
def sg_laws_eqWriteS : Sig := ⟨[.rd (.sl (.pair (.int .i64) (.pair .str .unit))), .rd (.sl (.pair (.int .i64) (.pair .str .unit)))], [none, none], [.rd .bool], [none]⟩
noncomputable def sd_laws_eqWriteS : SD := ⟨sg_laws_eqWriteS, fun x => (m_laws_eqWriteS x.1 x.2.1).bind fun r => some ((r, ()), (()))⟩
noncomputable def ta_laws_eqWriteS : Tb := Tb.of fun f => if f = 169 then some sd_laws_eqWrite else none
def pa_laws_eqWriteS : Nat → Pat × (Nat → Pat) := fun k => if k = 5 then (⟨[.sl 0 0 (.pair (.int .i64) (.pair .str .unit)), .sl 1 0 (.pair (.int .i64) (.pair .str .unit))], [(0, .lf (.d (.sl (.pair (.int .i64) (.pair .str .unit))))), (1, .lf (.d (.sl (.pair (.int .i64) (.pair .str .unit))))), (5, .lf (.d (.int .i64)))], []⟩, fun e => if e = 1 then ⟨[], [(4, .lf (.d .bool))], []⟩ else if e = 2 then ⟨[], [], []⟩ else ⟨[], [], []⟩) else (⟨[], [], []⟩, fun _ => ⟨[], [], []⟩)
noncomputable def co_laws_eqWriteS_5 : Code := (loopsIn (bodyOf Try.f140)).getD 0 .skip
def fu_laws_eqWriteS_5 (v0 : List (Int × ByteArray × Unit)) (v1 : List (Int × ByteArray × Unit)) (v5 : Int) : Nat := ((v0.length : Int) - v5).toNat + 1
noncomputable def tr_laws_eqWriteS_5 {R : Type}  (NX : ((List (Int × ByteArray × Unit)) × (List (Int × ByteArray × Unit)) × (Int) × Unit) → Option R) (X2 : (Unit) → Option R) (X1 : ((Bool) × Unit) → Option R) (v0 : List (Int × ByteArray × Unit)) (v1 : List (Int × ByteArray × Unit)) (v5 : Int) : Option R :=
  bif decide (v5 < nI (List.length v0)) then
    bif decide (0 ≤ v5) then
      bif decide (v5 < nI (List.length v0)) then
        bif decide (0 ≤ v5) then
          bif decide (v5 < nI (List.length v1)) then
            Option.bind
              (Option.bind
                (m_laws_eqWrite ((List.getD v0 (Int.toNat v5) (0, ByteArray.mk #[], ())).fst, (List.getD v0 (Int.toNat v5) (0, ByteArray.mk #[], ())).snd.fst, ())
                  ((List.getD v1 (Int.toNat v5) (0, ByteArray.mk #[], ())).fst, (List.getD v1 (Int.toNat v5) (0, ByteArray.mk #[], ())).snd.fst, ()))
                fun val => some ((val, ()), ()))
              fun val => bif !val.fst.fst then X1 (false, ()) else NX (v0, v1, IntKind.wrap IntKind.i64 (v5 + 1), ())
          else none
        else none
      else none
    else none
  else X2 PUnit.unit
noncomputable def lo_laws_eqWriteS_5 : Nat → (List (Int × ByteArray × Unit)) → (List (Int × ByteArray × Unit)) → (Int) →  Option ((Unit) ⊕ ((Bool) × Unit))
  | 0, _, _, _ => none
  | m + 1, v0, v1, v5 => tr_laws_eqWriteS_5  (fun d => lo_laws_eqWriteS_5 m d.1 d.2.1 d.2.2.1) (fun d => some (.inl (d))) (fun d => some (.inr (d))) v0 v1 v5
theorem na_laws_eqWriteS_5 {R S : Type}  (NX : ((List (Int × ByteArray × Unit)) × (List (Int × ByteArray × Unit)) × (Int) × Unit) → Option R) (X2 : (Unit) → Option R) (X1 : ((Bool) × Unit) → Option R) (v0 : List (Int × ByteArray × Unit)) (v1 : List (Int × ByteArray × Unit)) (v5 : Int) (f : R → Option S) : tr_laws_eqWriteS_5  (fun d => (NX d).bind f) (fun d => (X2 d).bind f) (fun d => (X1 d).bind f) v0 v1 v5 = (tr_laws_eqWriteS_5  NX X2 X1 v0 v1 v5).bind f := by
  unfold tr_laws_eqWriteS_5
  simp only [cond_bind, ite_bind, onSum_bind, Option.bind_assoc, Option.bind_none, Option.bind_some]
noncomputable def de_laws_eqWriteS (a0 : List (Int × ByteArray × Unit)) (a1 : List (Int × ByteArray × Unit)) : Option ((((Bool) × Unit) × (Unit))) :=
  bif nI (List.length a0) != nI (List.length a1) then some ((false, ()), ())
  else Option.bind ((fun d => lo_laws_eqWriteS_5 (fu_laws_eqWriteS_5 d.1 d.2.1 d.2.2.1) d.1 d.2.1 d.2.2.1) (a0, a1, 0, ())) fun val => onSum (fun val => some ((true, ()), ())) (fun val => some ((val.fst, ()), ())) val
theorem eq_laws_eqWriteS (a0 : List (Int × ByteArray × Unit)) (a1 : List (Int × ByteArray × Unit)) r (h : m_laws_eqWriteS a0 a1 = some r) : de_laws_eqWriteS a0 a1 = some ((r, ()), (())) := by
  obtain ⟨hc, hd, rfl⟩ := eqM_some (t := .sl (.pair (.int .i64) (.pair .str .unit))) h
  obtain ⟨hlx0, hx⟩ := fineB_sl hc
  obtain ⟨hly0, hy⟩ := fineB_sl hd
  have hlx : a0.length < 1152921504606846976 := hlx0
  have hly : a1.length < 1152921504606846976 := hly0
  clear hlx0 hly0 hc hd h
  · unfold de_laws_eqWriteS
    by_cases hl : a1.length = a0.length
    · have c1 : (nI a0.length != nI a1.length) = false := by simp [nI, hl]
      have hL := eq_loop (xs := a0) (ys := a1) (0, (ByteArray.mk #[]), ()) (fun x y : Int × ByteArray × Unit => eqB (.pair (.int .i64) (.pair .str .unit)) x y) (g := fun m i => lo_laws_eqWriteS_5 m a0 a1 i) (ok := .inl ()) (bad := .inr (false, ())) hl (fun m i hi => by
        show lo_laws_eqWriteS_5 (m + 1) a0 a1 i = _
        simp only [lo_laws_eqWriteS_5, tr_laws_eqWriteS_5]
        rw [cLt hi, cLe0, cLt (show i < a1.length by omega), wI (by omega)]
        simp only [cond_true, Int.toNat_natCast]
        have f1 : fineB (.pair (.int .i64) (.pair .str .unit)) (List.getD (α := Int × ByteArray × Unit) a0 i (0, (ByteArray.mk #[]), ())) = true := hx _ (getD_mem (0, (ByteArray.mk #[]), ()) hi)
        have f2 : fineB (.pair (.int .i64) (.pair .str .unit)) (List.getD (α := Int × ByteArray × Unit) a1 i (0, (ByteArray.mk #[]), ())) = true := hy _ (getD_mem (0, (ByteArray.mk #[]), ()) (by omega))
        have hE : m_laws_eqWrite ((List.getD (α := Int × ByteArray × Unit) a0 i (0, (ByteArray.mk #[]), ())).fst, (List.getD (α := Int × ByteArray × Unit) a0 i (0, (ByteArray.mk #[]), ())).snd.fst, ()) ((List.getD (α := Int × ByteArray × Unit) a1 i (0, (ByteArray.mk #[]), ())).fst, (List.getD (α := Int × ByteArray × Unit) a1 i (0, (ByteArray.mk #[]), ())).snd.fst, ()) = some (eqB (.pair (.int .i64) (.pair .str .unit)) (List.getD (α := Int × ByteArray × Unit) a0 i (0, (ByteArray.mk #[]), ())) (List.getD (α := Int × ByteArray × Unit) a1 i (0, (ByteArray.mk #[]), ()))) := by
          exact eqM_is (t := (.pair (.int .i64) (.pair .str .unit))) (x := (List.getD (α := Int × ByteArray × Unit) a0 i (0, (ByteArray.mk #[]), ()))) (y := (List.getD (α := Int × ByteArray × Unit) a1 i (0, (ByteArray.mk #[]), ()))) f1 f2
        rw [hE]
        cases q : eqB (.pair (.int .i64) (.pair .str .unit)) (List.getD (α := Int × ByteArray × Unit) a0 i (0, (ByteArray.mk #[]), ())) (List.getD (α := Int × ByteArray × Unit) a1 i (0, (ByteArray.mk #[]), ())) <;> simp only [Option.bind_some, q] <;> rfl) (fun m => by
        show lo_laws_eqWriteS_5 (m + 1) a0 a1 a0.length = _
        simp only [lo_laws_eqWriteS_5, tr_laws_eqWriteS_5]
        rw [cLtF]
        rfl) (fu_laws_eqWriteS_5 a0 a1 0) 0 (by omega) (by simp [fu_laws_eqWriteS_5])
      rw [c1]
      have hL' : lo_laws_eqWriteS_5 (fu_laws_eqWriteS_5 a0 a1 0) a0 a1 0 = _ := hL
      show (lo_laws_eqWriteS_5 (fu_laws_eqWriteS_5 a0 a1 0) a0 a1 0).bind _ = some ((eqL (α := Int × ByteArray × Unit) (fun x y : Int × ByteArray × Unit => eqB (.pair (.int .i64) (.pair .str .unit)) x y) a0 a1, ()), ())
      rw [hL', List.drop_zero, List.drop_zero]
      cases eqL (α := Int × ByteArray × Unit) (fun x y : Int × ByteArray × Unit => eqB (.pair (.int .i64) (.pair .str .unit)) x y) a0 a1 <;> rfl
    · have c1 : (nI a0.length != nI a1.length) = true := by simp [nI]; omega
      rw [c1]
      show _ = some ((eqL (α := Int × ByteArray × Unit) (fun x y : Int × ByteArray × Unit => eqB (.pair (.int .i64) (.pair .str .unit)) x y) a0 a1, ()), ())
      rw [eqL_len (fun q => hl q.symm)]
      rfl
noncomputable def ou_laws_eqWriteS_5 {R : Type} (k : Kt R) : ((Unit) ⊕ ((Bool) × Unit)) → Option R := (onSum (fun d => k (.exit 0) (((pa_laws_eqWriteS 5).2 2).st d) (((pa_laws_eqWriteS 5).2 2).nid)) (fun d => k .ret (((pa_laws_eqWriteS 5).2 1).st d) (((pa_laws_eqWriteS 5).2 1).nid)))
noncomputable def L_laws_eqWriteS {R : Type} : Lt R pa_laws_eqWriteS := (addL (pat := pa_laws_eqWriteS) 5 (fun d k => (lo_laws_eqWriteS_5 (fu_laws_eqWriteS_5 d.1 d.2.1 d.2.2.1) d.1 d.2.1 d.2.2.1).bind (ou_laws_eqWriteS_5 k)) noL)
theorem rd_laws_eqWriteS_5 {R : Type} (nx : (pa_laws_eqWriteS 5).1.D → Kt R → Option R) (k : Kt R) (v0 : List (Int × ByteArray × Unit)) (v1 : List (Int × ByteArray × Unit)) (v5 : Int) : ev Try.prog ⟨ta_laws_eqWriteS, 0, 27, pa_laws_eqWriteS⟩ L_laws_eqWriteS co_laws_eqWriteS_5 ((pa_laws_eqWriteS 5).1.st (v0, v1, v5, ())) (pa_laws_eqWriteS 5).1.nid (roundK 0 (pa_laws_eqWriteS 5) nx k) = tr_laws_eqWriteS_5  (fun d => nx d k) (fun d => k (.exit 0) (((pa_laws_eqWriteS 5).2 2).st d) (((pa_laws_eqWriteS 5).2 2).nid)) (fun d => k .ret (((pa_laws_eqWriteS 5).2 1).st d) (((pa_laws_eqWriteS 5).2 1).nid)) v0 v1 v5 := by kernel_rfl
theorem lp_laws_eqWriteS_5 {R : Type} : ∀ (m : Nat) (d : (pa_laws_eqWriteS 5).1.D) (k : Kt R), loopN 0 (pa_laws_eqWriteS 5) (fun s nid k => ev Try.prog ⟨ta_laws_eqWriteS, 0, 27, pa_laws_eqWriteS⟩ L_laws_eqWriteS co_laws_eqWriteS_5 s nid k) m d k = (lo_laws_eqWriteS_5 m d.1 d.2.1 d.2.2.1).bind (ou_laws_eqWriteS_5 k)
  | 0, _, _ => rfl
  | m + 1, ⟨v0, v1, v5, ⟨⟩⟩, k => (rd_laws_eqWriteS_5 _ k v0 v1 v5).trans ((congrArg (fun F => tr_laws_eqWriteS_5  F (fun d => k (.exit 0) (((pa_laws_eqWriteS 5).2 2).st d) (((pa_laws_eqWriteS 5).2 2).nid)) (fun d => k .ret (((pa_laws_eqWriteS 5).2 1).st d) (((pa_laws_eqWriteS 5).2 1).nid)) v0 v1 v5) (funext fun d => lp_laws_eqWriteS_5 m d k)).trans (na_laws_eqWriteS_5 (f := ou_laws_eqWriteS_5 k)  (fun d => lo_laws_eqWriteS_5 m d.1 d.2.1 d.2.2.1) (fun d => some (.inl (d))) (fun d => some (.inr (d))) v0 v1 v5))
theorem en_laws_eqWriteS (a0 : List (Int × ByteArray × Unit)) (a1 : List (Int × ByteArray × Unit)) : evalF Try.prog ta_laws_eqWriteS pa_laws_eqWriteS sg_laws_eqWriteS Try.f140 L_laws_eqWriteS (a0, a1, ()) = de_laws_eqWriteS a0 a1 := by kernel_rfl
theorem si_laws_eqWriteS : SigsOk Try.prog ta_laws_eqWriteS := SigsOk.of fun f sd h => by
  try dsimp only [Tb.of, ta_laws_eqWriteS] at h
  split at h
  · rename_i e; subst e; cases h; exact sn_laws_eqWrite
  cases h
theorem lk_laws_eqWriteS_5 {R : Type} : LoopOk Try.prog R 27 0 pa_laws_eqWriteS L_laws_eqWriteS co_laws_eqWriteS_5 :=
  loop_key (cfg := ⟨ta_laws_eqWriteS, 0, 27, pa_laws_eqWriteS⟩) (key := 5) (by kernel_rfl) (by kernel_rfl) si_laws_eqWriteS rfl rfl (fun d k r h => ⟨fu_laws_eqWriteS_5 d.1 d.2.1 d.2.2.1, (lp_laws_eqWriteS_5 _ d k).trans h⟩) (fun c hc => by rw [show loopsIn co_laws_eqWriteS_5 = [] from by kernel_rfl] at hc; cases hc)
theorem sn_laws_eqWriteS : Callable Try.prog 140 ∧ Sound Try.prog 140 sd_laws_eqWriteS.sg sd_laws_eqWriteS.den :=
  fn_loops (pat := pa_laws_eqWriteS) L_laws_eqWriteS (by kernel_rfl) si_laws_eqWriteS Try.func140 (by kernel_rfl) (by kernel_rfl) (fun c hc => by rw [show loopsIn (bodyOf Try.f140) = [co_laws_eqWriteS_5] from by kernel_rfl] at hc; simp only [List.mem_cons, List.not_mem_nil, or_false] at hc; rcases hc with rfl <;> first | exact lk_laws_eqWriteS_5) fun x r h => by
    obtain ⟨a0, a1, ⟨⟩⟩ := x; obtain ⟨y, h1, h2⟩ := Option.bind_eq_some_iff.1 (show (m_laws_eqWriteS a0 a1).bind (fun r => some ((r, ()), (()))) = some r from h); cases h2; exact (en_laws_eqWriteS a0 a1).trans (eq_laws_eqWriteS a0 a1 _ h1)
def m_laws_eqDisk (a b : (List ByteArray) × (List (Int × ByteArray × Unit)) × Unit) : Option Bool := eqM (.pair (.sl .str) (.pair (.sl (.pair (.int .i64) (.pair .str .unit))) .unit)) a b
def sg_laws_eqDisk : Sig := ⟨[.rd (.pair (.sl .str) (.pair (.sl (.pair (.int .i64) (.pair .str .unit))) .unit)), .rd (.pair (.sl .str) (.pair (.sl (.pair (.int .i64) (.pair .str .unit))) .unit))], [some 2, some 2], [.rd .bool], [none]⟩
noncomputable def sd_laws_eqDisk : SD := ⟨sg_laws_eqDisk, fun x => (m_laws_eqDisk x.1 x.2.1).bind fun r => some ((r, ()), (()))⟩
noncomputable def ta_laws_eqDisk : Tb := Tb.of fun f => if f = 85 then some sd_laws_eqStringS else if f = 140 then some sd_laws_eqWriteS else none
def pa_laws_eqDisk : Nat → Pat × (Nat → Pat) := fun k => (⟨[], [], []⟩, fun _ => ⟨[], [], []⟩)
noncomputable def de_laws_eqDisk (a0 : (List ByteArray) × (List (Int × ByteArray × Unit)) × Unit) (a1 : (List ByteArray) × (List (Int × ByteArray × Unit)) × Unit) : Option ((((Bool) × Unit) × (Unit))) :=
  Option.bind (Option.bind (m_laws_eqStringS a0.fst a1.fst) fun val => some ((val, ()), ())) fun val =>
    bif !val.fst.fst then some ((false, ()), ())
    else Option.bind (Option.bind (m_laws_eqWriteS a0.snd.fst a1.snd.fst) fun val => some ((val, ()), ())) fun val => bif !val.fst.fst then some ((false, ()), ()) else some ((true, ()), ())
theorem eq_laws_eqDisk (a0 : (List ByteArray) × (List (Int × ByteArray × Unit)) × Unit) (a1 : (List ByteArray) × (List (Int × ByteArray × Unit)) × Unit) r (h : m_laws_eqDisk a0 a1 = some r) : de_laws_eqDisk a0 a1 = some ((r, ()), (())) := by
  obtain ⟨hc, hd, rfl⟩ := eqM_some (t := (.pair (.sl .str) (.pair (.sl (.pair (.int .i64) (.pair .str .unit))) .unit))) h
  obtain ⟨hc0, hc1, _⟩ : fineB (.sl .str) a0.1 = true ∧ fineB (.sl (.pair (.int .i64) (.pair .str .unit))) a0.2.1 = true ∧ True := by
    have s := hc
    obtain ⟨h0, s⟩ := fineB_pair s
    obtain ⟨h1, s⟩ := fineB_pair s
    exact ⟨h0, h1, trivial⟩
  obtain ⟨hd0, hd1, _⟩ : fineB (.sl .str) a1.1 = true ∧ fineB (.sl (.pair (.int .i64) (.pair .str .unit))) a1.2.1 = true ∧ True := by
    have s := hd
    obtain ⟨h0, s⟩ := fineB_pair s
    obtain ⟨h1, s⟩ := fineB_pair s
    exact ⟨h0, h1, trivial⟩
  unfold de_laws_eqDisk
  have e0 : m_laws_eqStringS a0.1 a1.1 = some (eqB (.sl .str) a0.1 a1.1) := eqM_is (t := (.sl .str)) hc0 hd0
  have e1 : m_laws_eqWriteS a0.2.1 a1.2.1 = some (eqB (.sl (.pair (.int .i64) (.pair .str .unit))) a0.2.1 a1.2.1) := eqM_is (t := (.sl (.pair (.int .i64) (.pair .str .unit)))) hc1 hd1
  simp only [e0, e1, Option.bind_some]
  show _ = some (((eqB (.sl .str) a0.1 a1.1 && (eqB (.sl (.pair (.int .i64) (.pair .str .unit))) a0.2.1 a1.2.1 && true)), ()), ())
  generalize eqB (.sl .str) a0.1 a1.1 = p0
  generalize eqB (.sl (.pair (.int .i64) (.pair .str .unit))) a0.2.1 a1.2.1 = p1
  cases p0 <;> cases p1 <;> rfl
theorem en_laws_eqDisk (a0 : (List ByteArray) × (List (Int × ByteArray × Unit)) × Unit) (a1 : (List ByteArray) × (List (Int × ByteArray × Unit)) × Unit) : evalF Try.prog ta_laws_eqDisk pa_laws_eqDisk sg_laws_eqDisk Try.f83 noL (a0, a1, ()) = de_laws_eqDisk a0 a1 := by kernel_rfl
theorem si_laws_eqDisk : SigsOk Try.prog ta_laws_eqDisk := SigsOk.of fun f sd h => by
  try dsimp only [Tb.of, ta_laws_eqDisk] at h
  split at h
  · rename_i e; subst e; cases h; exact sn_laws_eqStringS
  split at h
  · rename_i e; subst e; cases h; exact sn_laws_eqWriteS
  cases h
theorem sn_laws_eqDisk : Callable Try.prog 83 ∧ Sound Try.prog 83 sd_laws_eqDisk.sg sd_laws_eqDisk.den :=
  fn_plain (pat := pa_laws_eqDisk) (by kernel_rfl) si_laws_eqDisk Try.func83 (by kernel_rfl) (by kernel_rfl) (by kernel_rfl) fun x r h => by
    obtain ⟨a0, a1, ⟨⟩⟩ := x; obtain ⟨y, h1, h2⟩ := Option.bind_eq_some_iff.1 (show (m_laws_eqDisk a0 a1).bind (fun r => some ((r, ()), (()))) = some r from h); cases h2; exact (en_laws_eqDisk a0 a1).trans (eq_laws_eqDisk a0 a1 _ h1)
def m_laws_eqStateS (a b : List ((List (ByteArray × ByteArray × Unit)) × Unit)) : Option Bool := eqM (.sl (.pair (.sl (.pair .str (.pair .str .unit))) .unit)) a b
def sg_laws_eqStateS : Sig := ⟨[.rd (.sl (.pair (.sl (.pair .str (.pair .str .unit))) .unit)), .rd (.sl (.pair (.sl (.pair .str (.pair .str .unit))) .unit))], [none, none], [.rd .bool], [none]⟩
noncomputable def sd_laws_eqStateS : SD := ⟨sg_laws_eqStateS, fun x => (m_laws_eqStateS x.1 x.2.1).bind fun r => some ((r, ()), (()))⟩
noncomputable def ta_laws_eqStateS : Tb := Tb.of fun f => if f = 56 then some sd_laws_eqState else none
def pa_laws_eqStateS : Nat → Pat × (Nat → Pat) := fun k => if k = 5 then (⟨[.sl 0 0 (.pair (.sl (.pair .str (.pair .str .unit))) .unit), .sl 1 0 (.pair (.sl (.pair .str (.pair .str .unit))) .unit)], [(0, .lf (.d (.sl (.pair (.sl (.pair .str (.pair .str .unit))) .unit)))), (1, .lf (.d (.sl (.pair (.sl (.pair .str (.pair .str .unit))) .unit)))), (5, .lf (.d (.int .i64)))], []⟩, fun e => if e = 1 then ⟨[], [(4, .lf (.d .bool))], []⟩ else if e = 2 then ⟨[], [], []⟩ else ⟨[], [], []⟩) else (⟨[], [], []⟩, fun _ => ⟨[], [], []⟩)
noncomputable def co_laws_eqStateS_5 : Code := (loopsIn (bodyOf Try.f84)).getD 0 .skip
def fu_laws_eqStateS_5 (v0 : List ((List (ByteArray × ByteArray × Unit)) × Unit)) (v1 : List ((List (ByteArray × ByteArray × Unit)) × Unit)) (v5 : Int) : Nat := ((v0.length : Int) - v5).toNat + 1
noncomputable def tr_laws_eqStateS_5 {R : Type}  (NX : ((List ((List (ByteArray × ByteArray × Unit)) × Unit)) × (List ((List (ByteArray × ByteArray × Unit)) × Unit)) × (Int) × Unit) → Option R) (X2 : (Unit) → Option R) (X1 : ((Bool) × Unit) → Option R) (v0 : List ((List (ByteArray × ByteArray × Unit)) × Unit)) (v1 : List ((List (ByteArray × ByteArray × Unit)) × Unit)) (v5 : Int) : Option R :=
  bif decide (v5 < nI (List.length v0)) then
    bif decide (0 ≤ v5) then
      bif decide (v5 < nI (List.length v0)) then
        bif decide (0 ≤ v5) then
          bif decide (v5 < nI (List.length v1)) then
            Option.bind (Option.bind (m_laws_eqState ((List.getD v0 (Int.toNat v5) ([], ())).fst, ()) ((List.getD v1 (Int.toNat v5) ([], ())).fst, ())) fun val => some ((val, ()), ())) fun val =>
              bif !val.fst.fst then X1 (false, ()) else NX (v0, v1, IntKind.wrap IntKind.i64 (v5 + 1), ())
          else none
        else none
      else none
    else none
  else X2 PUnit.unit
noncomputable def lo_laws_eqStateS_5 : Nat → (List ((List (ByteArray × ByteArray × Unit)) × Unit)) → (List ((List (ByteArray × ByteArray × Unit)) × Unit)) → (Int) →  Option ((Unit) ⊕ ((Bool) × Unit))
  | 0, _, _, _ => none
  | m + 1, v0, v1, v5 => tr_laws_eqStateS_5  (fun d => lo_laws_eqStateS_5 m d.1 d.2.1 d.2.2.1) (fun d => some (.inl (d))) (fun d => some (.inr (d))) v0 v1 v5
theorem na_laws_eqStateS_5 {R S : Type}  (NX : ((List ((List (ByteArray × ByteArray × Unit)) × Unit)) × (List ((List (ByteArray × ByteArray × Unit)) × Unit)) × (Int) × Unit) → Option R) (X2 : (Unit) → Option R) (X1 : ((Bool) × Unit) → Option R) (v0 : List ((List (ByteArray × ByteArray × Unit)) × Unit)) (v1 : List ((List (ByteArray × ByteArray × Unit)) × Unit)) (v5 : Int) (f : R → Option S) : tr_laws_eqStateS_5  (fun d => (NX d).bind f) (fun d => (X2 d).bind f) (fun d => (X1 d).bind f) v0 v1 v5 = (tr_laws_eqStateS_5  NX X2 X1 v0 v1 v5).bind f := by
  unfold tr_laws_eqStateS_5
  simp only [cond_bind, ite_bind, onSum_bind, Option.bind_assoc, Option.bind_none, Option.bind_some]
noncomputable def de_laws_eqStateS (a0 : List ((List (ByteArray × ByteArray × Unit)) × Unit)) (a1 : List ((List (ByteArray × ByteArray × Unit)) × Unit)) : Option ((((Bool) × Unit) × (Unit))) :=
  bif nI (List.length a0) != nI (List.length a1) then some ((false, ()), ())
  else Option.bind ((fun d => lo_laws_eqStateS_5 (fu_laws_eqStateS_5 d.1 d.2.1 d.2.2.1) d.1 d.2.1 d.2.2.1) (a0, a1, 0, ())) fun val => onSum (fun val => some ((true, ()), ())) (fun val => some ((val.fst, ()), ())) val
theorem eq_laws_eqStateS (a0 : List ((List (ByteArray × ByteArray × Unit)) × Unit)) (a1 : List ((List (ByteArray × ByteArray × Unit)) × Unit)) r (h : m_laws_eqStateS a0 a1 = some r) : de_laws_eqStateS a0 a1 = some ((r, ()), (())) := by
  obtain ⟨hc, hd, rfl⟩ := eqM_some (t := .sl (.pair (.sl (.pair .str (.pair .str .unit))) .unit)) h
  obtain ⟨hlx0, hx⟩ := fineB_sl hc
  obtain ⟨hly0, hy⟩ := fineB_sl hd
  have hlx : a0.length < 1152921504606846976 := hlx0
  have hly : a1.length < 1152921504606846976 := hly0
  clear hlx0 hly0 hc hd h
  · unfold de_laws_eqStateS
    by_cases hl : a1.length = a0.length
    · have c1 : (nI a0.length != nI a1.length) = false := by simp [nI, hl]
      have hL := eq_loop (xs := a0) (ys := a1) ([], ()) (fun x y : (List (ByteArray × ByteArray × Unit)) × Unit => eqB (.pair (.sl (.pair .str (.pair .str .unit))) .unit) x y) (g := fun m i => lo_laws_eqStateS_5 m a0 a1 i) (ok := .inl ()) (bad := .inr (false, ())) hl (fun m i hi => by
        show lo_laws_eqStateS_5 (m + 1) a0 a1 i = _
        simp only [lo_laws_eqStateS_5, tr_laws_eqStateS_5]
        rw [cLt hi, cLe0, cLt (show i < a1.length by omega), wI (by omega)]
        simp only [cond_true, Int.toNat_natCast]
        have f1 : fineB (.pair (.sl (.pair .str (.pair .str .unit))) .unit) (List.getD (α := (List (ByteArray × ByteArray × Unit)) × Unit) a0 i ([], ())) = true := hx _ (getD_mem ([], ()) hi)
        have f2 : fineB (.pair (.sl (.pair .str (.pair .str .unit))) .unit) (List.getD (α := (List (ByteArray × ByteArray × Unit)) × Unit) a1 i ([], ())) = true := hy _ (getD_mem ([], ()) (by omega))
        have hE : m_laws_eqState ((List.getD (α := (List (ByteArray × ByteArray × Unit)) × Unit) a0 i ([], ())).fst, ()) ((List.getD (α := (List (ByteArray × ByteArray × Unit)) × Unit) a1 i ([], ())).fst, ()) = some (eqB (.pair (.sl (.pair .str (.pair .str .unit))) .unit) (List.getD (α := (List (ByteArray × ByteArray × Unit)) × Unit) a0 i ([], ())) (List.getD (α := (List (ByteArray × ByteArray × Unit)) × Unit) a1 i ([], ()))) := by
          exact eqM_is (t := (.pair (.sl (.pair .str (.pair .str .unit))) .unit)) (x := (List.getD (α := (List (ByteArray × ByteArray × Unit)) × Unit) a0 i ([], ()))) (y := (List.getD (α := (List (ByteArray × ByteArray × Unit)) × Unit) a1 i ([], ()))) f1 f2
        rw [hE]
        cases q : eqB (.pair (.sl (.pair .str (.pair .str .unit))) .unit) (List.getD (α := (List (ByteArray × ByteArray × Unit)) × Unit) a0 i ([], ())) (List.getD (α := (List (ByteArray × ByteArray × Unit)) × Unit) a1 i ([], ())) <;> simp only [Option.bind_some, q] <;> rfl) (fun m => by
        show lo_laws_eqStateS_5 (m + 1) a0 a1 a0.length = _
        simp only [lo_laws_eqStateS_5, tr_laws_eqStateS_5]
        rw [cLtF]
        rfl) (fu_laws_eqStateS_5 a0 a1 0) 0 (by omega) (by simp [fu_laws_eqStateS_5])
      rw [c1]
      have hL' : lo_laws_eqStateS_5 (fu_laws_eqStateS_5 a0 a1 0) a0 a1 0 = _ := hL
      show (lo_laws_eqStateS_5 (fu_laws_eqStateS_5 a0 a1 0) a0 a1 0).bind _ = some ((eqL (α := (List (ByteArray × ByteArray × Unit)) × Unit) (fun x y : (List (ByteArray × ByteArray × Unit)) × Unit => eqB (.pair (.sl (.pair .str (.pair .str .unit))) .unit) x y) a0 a1, ()), ())
      rw [hL', List.drop_zero, List.drop_zero]
      cases eqL (α := (List (ByteArray × ByteArray × Unit)) × Unit) (fun x y : (List (ByteArray × ByteArray × Unit)) × Unit => eqB (.pair (.sl (.pair .str (.pair .str .unit))) .unit) x y) a0 a1 <;> rfl
    · have c1 : (nI a0.length != nI a1.length) = true := by simp [nI]; omega
      rw [c1]
      show _ = some ((eqL (α := (List (ByteArray × ByteArray × Unit)) × Unit) (fun x y : (List (ByteArray × ByteArray × Unit)) × Unit => eqB (.pair (.sl (.pair .str (.pair .str .unit))) .unit) x y) a0 a1, ()), ())
      rw [eqL_len (fun q => hl q.symm)]
      rfl
noncomputable def ou_laws_eqStateS_5 {R : Type} (k : Kt R) : ((Unit) ⊕ ((Bool) × Unit)) → Option R := (onSum (fun d => k (.exit 0) (((pa_laws_eqStateS 5).2 2).st d) (((pa_laws_eqStateS 5).2 2).nid)) (fun d => k .ret (((pa_laws_eqStateS 5).2 1).st d) (((pa_laws_eqStateS 5).2 1).nid)))
noncomputable def L_laws_eqStateS {R : Type} : Lt R pa_laws_eqStateS := (addL (pat := pa_laws_eqStateS) 5 (fun d k => (lo_laws_eqStateS_5 (fu_laws_eqStateS_5 d.1 d.2.1 d.2.2.1) d.1 d.2.1 d.2.2.1).bind (ou_laws_eqStateS_5 k)) noL)
theorem rd_laws_eqStateS_5 {R : Type} (nx : (pa_laws_eqStateS 5).1.D → Kt R → Option R) (k : Kt R) (v0 : List ((List (ByteArray × ByteArray × Unit)) × Unit)) (v1 : List ((List (ByteArray × ByteArray × Unit)) × Unit)) (v5 : Int) : ev Try.prog ⟨ta_laws_eqStateS, 0, 27, pa_laws_eqStateS⟩ L_laws_eqStateS co_laws_eqStateS_5 ((pa_laws_eqStateS 5).1.st (v0, v1, v5, ())) (pa_laws_eqStateS 5).1.nid (roundK 0 (pa_laws_eqStateS 5) nx k) = tr_laws_eqStateS_5  (fun d => nx d k) (fun d => k (.exit 0) (((pa_laws_eqStateS 5).2 2).st d) (((pa_laws_eqStateS 5).2 2).nid)) (fun d => k .ret (((pa_laws_eqStateS 5).2 1).st d) (((pa_laws_eqStateS 5).2 1).nid)) v0 v1 v5 := by kernel_rfl
theorem lp_laws_eqStateS_5 {R : Type} : ∀ (m : Nat) (d : (pa_laws_eqStateS 5).1.D) (k : Kt R), loopN 0 (pa_laws_eqStateS 5) (fun s nid k => ev Try.prog ⟨ta_laws_eqStateS, 0, 27, pa_laws_eqStateS⟩ L_laws_eqStateS co_laws_eqStateS_5 s nid k) m d k = (lo_laws_eqStateS_5 m d.1 d.2.1 d.2.2.1).bind (ou_laws_eqStateS_5 k)
  | 0, _, _ => rfl
  | m + 1, ⟨v0, v1, v5, ⟨⟩⟩, k => (rd_laws_eqStateS_5 _ k v0 v1 v5).trans ((congrArg (fun F => tr_laws_eqStateS_5  F (fun d => k (.exit 0) (((pa_laws_eqStateS 5).2 2).st d) (((pa_laws_eqStateS 5).2 2).nid)) (fun d => k .ret (((pa_laws_eqStateS 5).2 1).st d) (((pa_laws_eqStateS 5).2 1).nid)) v0 v1 v5) (funext fun d => lp_laws_eqStateS_5 m d k)).trans (na_laws_eqStateS_5 (f := ou_laws_eqStateS_5 k)  (fun d => lo_laws_eqStateS_5 m d.1 d.2.1 d.2.2.1) (fun d => some (.inl (d))) (fun d => some (.inr (d))) v0 v1 v5))
theorem en_laws_eqStateS (a0 : List ((List (ByteArray × ByteArray × Unit)) × Unit)) (a1 : List ((List (ByteArray × ByteArray × Unit)) × Unit)) : evalF Try.prog ta_laws_eqStateS pa_laws_eqStateS sg_laws_eqStateS Try.f84 L_laws_eqStateS (a0, a1, ()) = de_laws_eqStateS a0 a1 := by kernel_rfl
theorem si_laws_eqStateS : SigsOk Try.prog ta_laws_eqStateS := SigsOk.of fun f sd h => by
  try dsimp only [Tb.of, ta_laws_eqStateS] at h
  split at h
  · rename_i e; subst e; cases h; exact sn_laws_eqState
  cases h
theorem lk_laws_eqStateS_5 {R : Type} : LoopOk Try.prog R 27 0 pa_laws_eqStateS L_laws_eqStateS co_laws_eqStateS_5 :=
  loop_key (cfg := ⟨ta_laws_eqStateS, 0, 27, pa_laws_eqStateS⟩) (key := 5) (by kernel_rfl) (by kernel_rfl) si_laws_eqStateS rfl rfl (fun d k r h => ⟨fu_laws_eqStateS_5 d.1 d.2.1 d.2.2.1, (lp_laws_eqStateS_5 _ d k).trans h⟩) (fun c hc => by rw [show loopsIn co_laws_eqStateS_5 = [] from by kernel_rfl] at hc; cases hc)
theorem sn_laws_eqStateS : Callable Try.prog 84 ∧ Sound Try.prog 84 sd_laws_eqStateS.sg sd_laws_eqStateS.den :=
  fn_loops (pat := pa_laws_eqStateS) L_laws_eqStateS (by kernel_rfl) si_laws_eqStateS Try.func84 (by kernel_rfl) (by kernel_rfl) (fun c hc => by rw [show loopsIn (bodyOf Try.f84) = [co_laws_eqStateS_5] from by kernel_rfl] at hc; simp only [List.mem_cons, List.not_mem_nil, or_false] at hc; rcases hc with rfl <;> first | exact lk_laws_eqStateS_5) fun x r h => by
    obtain ⟨a0, a1, ⟨⟩⟩ := x; obtain ⟨y, h1, h2⟩ := Option.bind_eq_some_iff.1 (show (m_laws_eqStateS a0 a1).bind (fun r => some ((r, ()), (()))) = some r from h); cases h2; exact (en_laws_eqStateS a0 a1).trans (eq_laws_eqStateS a0 a1 _ h1)
def m_laws_eqWorld (a b : Int × ((List ByteArray) × (List (Int × ByteArray × Unit)) × Unit) × Bool × (Int × Int × Int × (Int × Int × Int × Int × Unit) × Int × Int × ((List (ByteArray × ByteArray × Unit)) × Unit) × Unit) × (List ((List (ByteArray × ByteArray × Unit)) × Unit)) × (List ByteArray) × Unit) : Option Bool := eqM (.pair (.int .i64) (.pair (.pair (.sl .str) (.pair (.sl (.pair (.int .i64) (.pair .str .unit))) .unit)) (.pair .bool (.pair (.pair (.int .i64) (.pair (.int .i64) (.pair (.int .i64) (.pair (.pair (.int .i64) (.pair (.int .i64) (.pair (.int .i64) (.pair (.int .i64) .unit)))) (.pair (.int .i64) (.pair (.int .i64) (.pair (.pair (.sl (.pair .str (.pair .str .unit))) .unit) .unit))))))) (.pair (.sl (.pair (.sl (.pair .str (.pair .str .unit))) .unit)) (.pair (.sl .str) .unit)))))) a b
def sg_laws_eqWorld : Sig := ⟨[.rd (.pair (.int .i64) (.pair (.pair (.sl .str) (.pair (.sl (.pair (.int .i64) (.pair .str .unit))) .unit)) (.pair .bool (.pair (.pair (.int .i64) (.pair (.int .i64) (.pair (.int .i64) (.pair (.pair (.int .i64) (.pair (.int .i64) (.pair (.int .i64) (.pair (.int .i64) .unit)))) (.pair (.int .i64) (.pair (.int .i64) (.pair (.pair (.sl (.pair .str (.pair .str .unit))) .unit) .unit))))))) (.pair (.sl (.pair (.sl (.pair .str (.pair .str .unit))) .unit)) (.pair (.sl .str) .unit)))))), .rd (.pair (.int .i64) (.pair (.pair (.sl .str) (.pair (.sl (.pair (.int .i64) (.pair .str .unit))) .unit)) (.pair .bool (.pair (.pair (.int .i64) (.pair (.int .i64) (.pair (.int .i64) (.pair (.pair (.int .i64) (.pair (.int .i64) (.pair (.int .i64) (.pair (.int .i64) .unit)))) (.pair (.int .i64) (.pair (.int .i64) (.pair (.pair (.sl (.pair .str (.pair .str .unit))) .unit) .unit))))))) (.pair (.sl (.pair (.sl (.pair .str (.pair .str .unit))) .unit)) (.pair (.sl .str) .unit))))))], [some 16, some 16], [.rd .bool], [none]⟩
noncomputable def sd_laws_eqWorld : SD := ⟨sg_laws_eqWorld, fun x => (m_laws_eqWorld x.1 x.2.1).bind fun r => some ((r, ()), (()))⟩
noncomputable def ta_laws_eqWorld : Tb := Tb.of fun f => if f = 13 then some sd_laws_eqStore else if f = 83 then some sd_laws_eqDisk else if f = 84 then some sd_laws_eqStateS else if f = 85 then some sd_laws_eqStringS else none
def pa_laws_eqWorld : Nat → Pat × (Nat → Pat) := fun k => (⟨[], [], []⟩, fun _ => ⟨[], [], []⟩)
noncomputable def de_laws_eqWorld (a0 : Int × ((List ByteArray) × (List (Int × ByteArray × Unit)) × Unit) × Bool × (Int × Int × Int × (Int × Int × Int × Int × Unit) × Int × Int × ((List (ByteArray × ByteArray × Unit)) × Unit) × Unit) × (List ((List (ByteArray × ByteArray × Unit)) × Unit)) × (List ByteArray) × Unit) (a1 : Int × ((List ByteArray) × (List (Int × ByteArray × Unit)) × Unit) × Bool × (Int × Int × Int × (Int × Int × Int × Int × Unit) × Int × Int × ((List (ByteArray × ByteArray × Unit)) × Unit) × Unit) × (List ((List (ByteArray × ByteArray × Unit)) × Unit)) × (List ByteArray) × Unit) : Option ((((Bool) × Unit) × (Unit))) :=
  bif a0.fst != a1.fst then some ((false, ()), ())
  else
    Option.bind (Option.bind (m_laws_eqDisk (a0.snd.fst.fst, a0.snd.fst.snd.fst, ()) (a1.snd.fst.fst, a1.snd.fst.snd.fst, ())) fun val => some ((val, ()), ())) fun val =>
      bif !val.fst.fst then some ((false, ()), ())
      else
        bif !a0.snd.snd.fst == a1.snd.snd.fst then some ((false, ()), ())
        else
          Option.bind
            (Option.bind
              (m_laws_eqStore
                (a0.snd.snd.snd.fst.fst, a0.snd.snd.snd.fst.snd.fst, a0.snd.snd.snd.fst.snd.snd.fst,
                  (a0.snd.snd.snd.fst.snd.snd.snd.fst.fst, a0.snd.snd.snd.fst.snd.snd.snd.fst.snd.fst, a0.snd.snd.snd.fst.snd.snd.snd.fst.snd.snd.fst, a0.snd.snd.snd.fst.snd.snd.snd.fst.snd.snd.snd.fst,
                    ()),
                  a0.snd.snd.snd.fst.snd.snd.snd.snd.fst, a0.snd.snd.snd.fst.snd.snd.snd.snd.snd.fst, (a0.snd.snd.snd.fst.snd.snd.snd.snd.snd.snd.fst.fst, ()), ())
                (a1.snd.snd.snd.fst.fst, a1.snd.snd.snd.fst.snd.fst, a1.snd.snd.snd.fst.snd.snd.fst,
                  (a1.snd.snd.snd.fst.snd.snd.snd.fst.fst, a1.snd.snd.snd.fst.snd.snd.snd.fst.snd.fst, a1.snd.snd.snd.fst.snd.snd.snd.fst.snd.snd.fst, a1.snd.snd.snd.fst.snd.snd.snd.fst.snd.snd.snd.fst,
                    ()),
                  a1.snd.snd.snd.fst.snd.snd.snd.snd.fst, a1.snd.snd.snd.fst.snd.snd.snd.snd.snd.fst, (a1.snd.snd.snd.fst.snd.snd.snd.snd.snd.snd.fst.fst, ()), ()))
              fun val => some ((val, ()), ()))
            fun val =>
            bif !val.fst.fst then some ((false, ()), ())
            else
              Option.bind (Option.bind (m_laws_eqStateS a0.snd.snd.snd.snd.fst a1.snd.snd.snd.snd.fst) fun val => some ((val, ()), ())) fun val =>
                bif !val.fst.fst then some ((false, ()), ())
                else
                  Option.bind (Option.bind (m_laws_eqStringS a0.snd.snd.snd.snd.snd.fst a1.snd.snd.snd.snd.snd.fst) fun val => some ((val, ()), ())) fun val =>
                    bif !val.fst.fst then some ((false, ()), ()) else some ((true, ()), ())
theorem eq_laws_eqWorld (a0 : Int × ((List ByteArray) × (List (Int × ByteArray × Unit)) × Unit) × Bool × (Int × Int × Int × (Int × Int × Int × Int × Unit) × Int × Int × ((List (ByteArray × ByteArray × Unit)) × Unit) × Unit) × (List ((List (ByteArray × ByteArray × Unit)) × Unit)) × (List ByteArray) × Unit) (a1 : Int × ((List ByteArray) × (List (Int × ByteArray × Unit)) × Unit) × Bool × (Int × Int × Int × (Int × Int × Int × Int × Unit) × Int × Int × ((List (ByteArray × ByteArray × Unit)) × Unit) × Unit) × (List ((List (ByteArray × ByteArray × Unit)) × Unit)) × (List ByteArray) × Unit) r (h : m_laws_eqWorld a0 a1 = some r) : de_laws_eqWorld a0 a1 = some ((r, ()), (())) := by
  obtain ⟨hc, hd, rfl⟩ := eqM_some (t := (.pair (.int .i64) (.pair (.pair (.sl .str) (.pair (.sl (.pair (.int .i64) (.pair .str .unit))) .unit)) (.pair .bool (.pair (.pair (.int .i64) (.pair (.int .i64) (.pair (.int .i64) (.pair (.pair (.int .i64) (.pair (.int .i64) (.pair (.int .i64) (.pair (.int .i64) .unit)))) (.pair (.int .i64) (.pair (.int .i64) (.pair (.pair (.sl (.pair .str (.pair .str .unit))) .unit) .unit))))))) (.pair (.sl (.pair (.sl (.pair .str (.pair .str .unit))) .unit)) (.pair (.sl .str) .unit))))))) h
  obtain ⟨hc0, hc1, hc2, hc3, hc4, hc5, _⟩ : fineB (.int .i64) a0.1 = true ∧ fineB (.pair (.sl .str) (.pair (.sl (.pair (.int .i64) (.pair .str .unit))) .unit)) a0.2.1 = true ∧ fineB .bool a0.2.2.1 = true ∧ fineB (.pair (.int .i64) (.pair (.int .i64) (.pair (.int .i64) (.pair (.pair (.int .i64) (.pair (.int .i64) (.pair (.int .i64) (.pair (.int .i64) .unit)))) (.pair (.int .i64) (.pair (.int .i64) (.pair (.pair (.sl (.pair .str (.pair .str .unit))) .unit) .unit))))))) a0.2.2.2.1 = true ∧ fineB (.sl (.pair (.sl (.pair .str (.pair .str .unit))) .unit)) a0.2.2.2.2.1 = true ∧ fineB (.sl .str) a0.2.2.2.2.2.1 = true ∧ True := by
    have s := hc
    obtain ⟨h0, s⟩ := fineB_pair s
    obtain ⟨h1, s⟩ := fineB_pair s
    obtain ⟨h2, s⟩ := fineB_pair s
    obtain ⟨h3, s⟩ := fineB_pair s
    obtain ⟨h4, s⟩ := fineB_pair s
    obtain ⟨h5, s⟩ := fineB_pair s
    exact ⟨h0, h1, h2, h3, h4, h5, trivial⟩
  obtain ⟨hd0, hd1, hd2, hd3, hd4, hd5, _⟩ : fineB (.int .i64) a1.1 = true ∧ fineB (.pair (.sl .str) (.pair (.sl (.pair (.int .i64) (.pair .str .unit))) .unit)) a1.2.1 = true ∧ fineB .bool a1.2.2.1 = true ∧ fineB (.pair (.int .i64) (.pair (.int .i64) (.pair (.int .i64) (.pair (.pair (.int .i64) (.pair (.int .i64) (.pair (.int .i64) (.pair (.int .i64) .unit)))) (.pair (.int .i64) (.pair (.int .i64) (.pair (.pair (.sl (.pair .str (.pair .str .unit))) .unit) .unit))))))) a1.2.2.2.1 = true ∧ fineB (.sl (.pair (.sl (.pair .str (.pair .str .unit))) .unit)) a1.2.2.2.2.1 = true ∧ fineB (.sl .str) a1.2.2.2.2.2.1 = true ∧ True := by
    have s := hd
    obtain ⟨h0, s⟩ := fineB_pair s
    obtain ⟨h1, s⟩ := fineB_pair s
    obtain ⟨h2, s⟩ := fineB_pair s
    obtain ⟨h3, s⟩ := fineB_pair s
    obtain ⟨h4, s⟩ := fineB_pair s
    obtain ⟨h5, s⟩ := fineB_pair s
    exact ⟨h0, h1, h2, h3, h4, h5, trivial⟩
  unfold de_laws_eqWorld
  have e0 : (a0.1 != a1.1) = !eqI a0.1 a1.1 := bneI _ _
  have e1 : m_laws_eqDisk a0.2.1 a1.2.1 = some (eqB (.pair (.sl .str) (.pair (.sl (.pair (.int .i64) (.pair .str .unit))) .unit)) a0.2.1 a1.2.1) := eqM_is (t := (.pair (.sl .str) (.pair (.sl (.pair (.int .i64) (.pair .str .unit))) .unit))) hc1 hd1
  have e1 : m_laws_eqDisk (a0.2.1.fst, a0.2.1.snd.fst, ()) (a1.2.1.fst, a1.2.1.snd.fst, ()) = some (eqB (.pair (.sl .str) (.pair (.sl (.pair (.int .i64) (.pair .str .unit))) .unit)) a0.2.1 a1.2.1) := e1
  have e2 : (!(a0.2.2.1 == a1.2.2.1)) = !eqO a0.2.2.1 a1.2.2.1 := rfl
  have e3 : m_laws_eqStore a0.2.2.2.1 a1.2.2.2.1 = some (eqB (.pair (.int .i64) (.pair (.int .i64) (.pair (.int .i64) (.pair (.pair (.int .i64) (.pair (.int .i64) (.pair (.int .i64) (.pair (.int .i64) .unit)))) (.pair (.int .i64) (.pair (.int .i64) (.pair (.pair (.sl (.pair .str (.pair .str .unit))) .unit) .unit))))))) a0.2.2.2.1 a1.2.2.2.1) := eqM_is (t := (.pair (.int .i64) (.pair (.int .i64) (.pair (.int .i64) (.pair (.pair (.int .i64) (.pair (.int .i64) (.pair (.int .i64) (.pair (.int .i64) .unit)))) (.pair (.int .i64) (.pair (.int .i64) (.pair (.pair (.sl (.pair .str (.pair .str .unit))) .unit) .unit)))))))) hc3 hd3
  have e3 : m_laws_eqStore (a0.2.2.2.1.fst, a0.2.2.2.1.snd.fst, a0.2.2.2.1.snd.snd.fst, (a0.2.2.2.1.snd.snd.snd.fst.fst, a0.2.2.2.1.snd.snd.snd.fst.snd.fst, a0.2.2.2.1.snd.snd.snd.fst.snd.snd.fst, a0.2.2.2.1.snd.snd.snd.fst.snd.snd.snd.fst, ()), a0.2.2.2.1.snd.snd.snd.snd.fst, a0.2.2.2.1.snd.snd.snd.snd.snd.fst, (a0.2.2.2.1.snd.snd.snd.snd.snd.snd.fst.fst, ()), ()) (a1.2.2.2.1.fst, a1.2.2.2.1.snd.fst, a1.2.2.2.1.snd.snd.fst, (a1.2.2.2.1.snd.snd.snd.fst.fst, a1.2.2.2.1.snd.snd.snd.fst.snd.fst, a1.2.2.2.1.snd.snd.snd.fst.snd.snd.fst, a1.2.2.2.1.snd.snd.snd.fst.snd.snd.snd.fst, ()), a1.2.2.2.1.snd.snd.snd.snd.fst, a1.2.2.2.1.snd.snd.snd.snd.snd.fst, (a1.2.2.2.1.snd.snd.snd.snd.snd.snd.fst.fst, ()), ()) = some (eqB (.pair (.int .i64) (.pair (.int .i64) (.pair (.int .i64) (.pair (.pair (.int .i64) (.pair (.int .i64) (.pair (.int .i64) (.pair (.int .i64) .unit)))) (.pair (.int .i64) (.pair (.int .i64) (.pair (.pair (.sl (.pair .str (.pair .str .unit))) .unit) .unit))))))) a0.2.2.2.1 a1.2.2.2.1) := e3
  have e4 : m_laws_eqStateS a0.2.2.2.2.1 a1.2.2.2.2.1 = some (eqB (.sl (.pair (.sl (.pair .str (.pair .str .unit))) .unit)) a0.2.2.2.2.1 a1.2.2.2.2.1) := eqM_is (t := (.sl (.pair (.sl (.pair .str (.pair .str .unit))) .unit))) hc4 hd4
  have e5 : m_laws_eqStringS a0.2.2.2.2.2.1 a1.2.2.2.2.2.1 = some (eqB (.sl .str) a0.2.2.2.2.2.1 a1.2.2.2.2.2.1) := eqM_is (t := (.sl .str)) hc5 hd5
  simp only [e0, e1, e2, e3, e4, e5, Option.bind_some]
  show _ = some (((eqI a0.1 a1.1 && (eqB (.pair (.sl .str) (.pair (.sl (.pair (.int .i64) (.pair .str .unit))) .unit)) a0.2.1 a1.2.1 && (eqO a0.2.2.1 a1.2.2.1 && (eqB (.pair (.int .i64) (.pair (.int .i64) (.pair (.int .i64) (.pair (.pair (.int .i64) (.pair (.int .i64) (.pair (.int .i64) (.pair (.int .i64) .unit)))) (.pair (.int .i64) (.pair (.int .i64) (.pair (.pair (.sl (.pair .str (.pair .str .unit))) .unit) .unit))))))) a0.2.2.2.1 a1.2.2.2.1 && (eqB (.sl (.pair (.sl (.pair .str (.pair .str .unit))) .unit)) a0.2.2.2.2.1 a1.2.2.2.2.1 && (eqB (.sl .str) a0.2.2.2.2.2.1 a1.2.2.2.2.2.1 && true)))))), ()), ())
  generalize eqI a0.1 a1.1 = p0
  generalize eqB (.pair (.sl .str) (.pair (.sl (.pair (.int .i64) (.pair .str .unit))) .unit)) a0.2.1 a1.2.1 = p1
  generalize eqO a0.2.2.1 a1.2.2.1 = p2
  generalize eqB (.pair (.int .i64) (.pair (.int .i64) (.pair (.int .i64) (.pair (.pair (.int .i64) (.pair (.int .i64) (.pair (.int .i64) (.pair (.int .i64) .unit)))) (.pair (.int .i64) (.pair (.int .i64) (.pair (.pair (.sl (.pair .str (.pair .str .unit))) .unit) .unit))))))) a0.2.2.2.1 a1.2.2.2.1 = p3
  generalize eqB (.sl (.pair (.sl (.pair .str (.pair .str .unit))) .unit)) a0.2.2.2.2.1 a1.2.2.2.2.1 = p4
  generalize eqB (.sl .str) a0.2.2.2.2.2.1 a1.2.2.2.2.2.1 = p5
  cases p0 <;> cases p1 <;> cases p2 <;> cases p3 <;> cases p4 <;> cases p5 <;> rfl
theorem en_laws_eqWorld (a0 : Int × ((List ByteArray) × (List (Int × ByteArray × Unit)) × Unit) × Bool × (Int × Int × Int × (Int × Int × Int × Int × Unit) × Int × Int × ((List (ByteArray × ByteArray × Unit)) × Unit) × Unit) × (List ((List (ByteArray × ByteArray × Unit)) × Unit)) × (List ByteArray) × Unit) (a1 : Int × ((List ByteArray) × (List (Int × ByteArray × Unit)) × Unit) × Bool × (Int × Int × Int × (Int × Int × Int × Int × Unit) × Int × Int × ((List (ByteArray × ByteArray × Unit)) × Unit) × Unit) × (List ((List (ByteArray × ByteArray × Unit)) × Unit)) × (List ByteArray) × Unit) : evalF Try.prog ta_laws_eqWorld pa_laws_eqWorld sg_laws_eqWorld Try.f29 noL (a0, a1, ()) = de_laws_eqWorld a0 a1 := by kernel_rfl
theorem si_laws_eqWorld : SigsOk Try.prog ta_laws_eqWorld := SigsOk.of fun f sd h => by
  try dsimp only [Tb.of, ta_laws_eqWorld] at h
  split at h
  · rename_i e; subst e; cases h; exact sn_laws_eqStore
  split at h
  · rename_i e; subst e; cases h; exact sn_laws_eqDisk
  split at h
  · rename_i e; subst e; cases h; exact sn_laws_eqStateS
  split at h
  · rename_i e; subst e; cases h; exact sn_laws_eqStringS
  cases h
theorem sn_laws_eqWorld : Callable Try.prog 29 ∧ Sound Try.prog 29 sd_laws_eqWorld.sg sd_laws_eqWorld.den :=
  fn_plain (pat := pa_laws_eqWorld) (by kernel_rfl) si_laws_eqWorld Try.func29 (by kernel_rfl) (by kernel_rfl) (by kernel_rfl) fun x r h => by
    obtain ⟨a0, a1, ⟨⟩⟩ := x; obtain ⟨y, h1, h2⟩ := Option.bind_eq_some_iff.1 (show (m_laws_eqWorld a0 a1).bind (fun r => some ((r, ()), (()))) = some r from h); cases h2; exact (en_laws_eqWorld a0 a1).trans (eq_laws_eqWorld a0 a1 _ h1)
def sg_laws_FnExactForged : Sig := ⟨[.rd (.pair (.int .i64) (.pair (.pair (.sl .str) (.pair (.sl (.pair (.int .i64) (.pair .str .unit))) .unit)) (.pair .bool (.pair (.pair (.int .i64) (.pair (.int .i64) (.pair (.int .i64) (.pair (.pair (.int .i64) (.pair (.int .i64) (.pair (.int .i64) (.pair (.int .i64) .unit)))) (.pair (.int .i64) (.pair (.int .i64) (.pair (.pair (.sl (.pair .str (.pair .str .unit))) .unit) .unit))))))) (.pair (.sl (.pair (.sl (.pair .str (.pair .str .unit))) .unit)) (.pair (.sl .str) .unit))))))], [some 16], [.rd .bool], [none]⟩
noncomputable def ta_laws_FnExactForged : Tb := Tb.of fun f => if f = 25 then some sd_laws_szWorld else if f = 26 then some sd_spec_Forged else if f = 27 then some sd_laws_toWorld else if f = 28 then some sd_impl_Forged else if f = 29 then some sd_laws_eqWorld else none
def pa_laws_FnExactForged : Nat → Pat × (Nat → Pat) := fun k => (⟨[], [], []⟩, fun _ => ⟨[], [], []⟩)
noncomputable def de_laws_FnExactForged (a0 : Int × ((List ByteArray) × (List (Int × ByteArray × Unit)) × Unit) × Bool × (Int × Int × Int × (Int × Int × Int × Int × Unit) × Int × Int × ((List (ByteArray × ByteArray × Unit)) × Unit) × Unit) × (List ((List (ByteArray × ByteArray × Unit)) × Unit)) × (List ByteArray) × Unit) : Option ((((Bool) × Unit) × (Unit))) :=
  Option.bind
    (Option.bind
      (m_laws_szWorld
        (a0.fst, (a0.snd.fst.fst, a0.snd.fst.snd.fst, ()), a0.snd.snd.fst,
          (a0.snd.snd.snd.fst.fst, a0.snd.snd.snd.fst.snd.fst, a0.snd.snd.snd.fst.snd.snd.fst,
            (a0.snd.snd.snd.fst.snd.snd.snd.fst.fst, a0.snd.snd.snd.fst.snd.snd.snd.fst.snd.fst, a0.snd.snd.snd.fst.snd.snd.snd.fst.snd.snd.fst, a0.snd.snd.snd.fst.snd.snd.snd.fst.snd.snd.snd.fst, ()),
            a0.snd.snd.snd.fst.snd.snd.snd.snd.fst, a0.snd.snd.snd.fst.snd.snd.snd.snd.snd.fst, (a0.snd.snd.snd.fst.snd.snd.snd.snd.snd.snd.fst.fst, ()), ()),
          a0.snd.snd.snd.snd.fst, a0.snd.snd.snd.snd.snd.fst, ())
        1048576)
      fun val => some ((val, ()), ()))
    fun val =>
    bif decide (val.fst.fst < 0) then some ((true, ()), ())
    else
      Option.bind
        (Option.bind
          (m_laws_toWorld
            (a0.fst, (a0.snd.fst.fst, a0.snd.fst.snd.fst, ()), a0.snd.snd.fst,
              (a0.snd.snd.snd.fst.fst, a0.snd.snd.snd.fst.snd.fst, a0.snd.snd.snd.fst.snd.snd.fst,
                (a0.snd.snd.snd.fst.snd.snd.snd.fst.fst, a0.snd.snd.snd.fst.snd.snd.snd.fst.snd.fst, a0.snd.snd.snd.fst.snd.snd.snd.fst.snd.snd.fst, a0.snd.snd.snd.fst.snd.snd.snd.fst.snd.snd.snd.fst,
                  ()),
                a0.snd.snd.snd.fst.snd.snd.snd.snd.fst, a0.snd.snd.snd.fst.snd.snd.snd.snd.snd.fst, (a0.snd.snd.snd.fst.snd.snd.snd.snd.snd.snd.fst.fst, ()), ()),
              a0.snd.snd.snd.snd.fst, a0.snd.snd.snd.snd.snd.fst, ()))
          fun val =>
          some
            ((val.fst, val.snd.fst.fst, val.snd.fst.snd.fst, val.snd.snd.fst, val.snd.snd.snd.fst.fst, val.snd.snd.snd.fst.snd.fst, val.snd.snd.snd.fst.snd.snd.fst,
                val.snd.snd.snd.fst.snd.snd.snd.fst.fst, val.snd.snd.snd.fst.snd.snd.snd.fst.snd.fst, val.snd.snd.snd.fst.snd.snd.snd.fst.snd.snd.fst,
                val.snd.snd.snd.fst.snd.snd.snd.fst.snd.snd.snd.fst, val.snd.snd.snd.fst.snd.snd.snd.snd.fst, val.snd.snd.snd.fst.snd.snd.snd.snd.snd.fst,
                val.snd.snd.snd.fst.snd.snd.snd.snd.snd.snd.fst.fst, val.snd.snd.snd.snd.fst, val.snd.snd.snd.snd.snd.fst, ()),
              ()))
        fun val =>
        Option.bind
          (Option.bind
            (m_laws_toWorld
              (a0.fst, (a0.snd.fst.fst, a0.snd.fst.snd.fst, ()), a0.snd.snd.fst,
                (a0.snd.snd.snd.fst.fst, a0.snd.snd.snd.fst.snd.fst, a0.snd.snd.snd.fst.snd.snd.fst,
                  (a0.snd.snd.snd.fst.snd.snd.snd.fst.fst, a0.snd.snd.snd.fst.snd.snd.snd.fst.snd.fst, a0.snd.snd.snd.fst.snd.snd.snd.fst.snd.snd.fst, a0.snd.snd.snd.fst.snd.snd.snd.fst.snd.snd.snd.fst,
                    ()),
                  a0.snd.snd.snd.fst.snd.snd.snd.snd.fst, a0.snd.snd.snd.fst.snd.snd.snd.snd.snd.fst, (a0.snd.snd.snd.fst.snd.snd.snd.snd.snd.snd.fst.fst, ()), ()),
                a0.snd.snd.snd.snd.fst, a0.snd.snd.snd.snd.snd.fst, ()))
            fun val =>
            some
              ((val.fst, val.snd.fst.fst, val.snd.fst.snd.fst, val.snd.snd.fst, val.snd.snd.snd.fst.fst, val.snd.snd.snd.fst.snd.fst, val.snd.snd.snd.fst.snd.snd.fst,
                  val.snd.snd.snd.fst.snd.snd.snd.fst.fst, val.snd.snd.snd.fst.snd.snd.snd.fst.snd.fst, val.snd.snd.snd.fst.snd.snd.snd.fst.snd.snd.fst,
                  val.snd.snd.snd.fst.snd.snd.snd.fst.snd.snd.snd.fst, val.snd.snd.snd.fst.snd.snd.snd.snd.fst, val.snd.snd.snd.fst.snd.snd.snd.snd.snd.fst,
                  val.snd.snd.snd.fst.snd.snd.snd.snd.snd.snd.fst.fst, val.snd.snd.snd.snd.fst, val.snd.snd.snd.snd.snd.fst, ()),
                ()))
          fun val_1 =>
          bif
              !ByteArray.toList
                    (m_impl_Forged
                      (val_1.fst.fst, (val_1.fst.snd.fst, val_1.fst.snd.snd.fst, ()), val_1.fst.snd.snd.snd.fst,
                        (val_1.fst.snd.snd.snd.snd.fst, val_1.fst.snd.snd.snd.snd.snd.fst, val_1.fst.snd.snd.snd.snd.snd.snd.fst,
                          (val_1.fst.snd.snd.snd.snd.snd.snd.snd.fst, val_1.fst.snd.snd.snd.snd.snd.snd.snd.snd.fst, val_1.fst.snd.snd.snd.snd.snd.snd.snd.snd.snd.fst,
                            val_1.fst.snd.snd.snd.snd.snd.snd.snd.snd.snd.snd.fst, ()),
                          val_1.fst.snd.snd.snd.snd.snd.snd.snd.snd.snd.snd.snd.fst, val_1.fst.snd.snd.snd.snd.snd.snd.snd.snd.snd.snd.snd.snd.fst,
                          (val_1.fst.snd.snd.snd.snd.snd.snd.snd.snd.snd.snd.snd.snd.snd.fst, ()), ()),
                        val_1.fst.snd.snd.snd.snd.snd.snd.snd.snd.snd.snd.snd.snd.snd.snd.fst, val_1.fst.snd.snd.snd.snd.snd.snd.snd.snd.snd.snd.snd.snd.snd.snd.snd.fst, ())) ==
                  ByteArray.toList
                    (m_spec_Forged
                      (val.fst.fst, (val.fst.snd.fst, val.fst.snd.snd.fst, ()), val.fst.snd.snd.snd.fst,
                        (val.fst.snd.snd.snd.snd.fst, val.fst.snd.snd.snd.snd.snd.fst, val.fst.snd.snd.snd.snd.snd.snd.fst,
                          (val.fst.snd.snd.snd.snd.snd.snd.snd.fst, val.fst.snd.snd.snd.snd.snd.snd.snd.snd.fst, val.fst.snd.snd.snd.snd.snd.snd.snd.snd.snd.fst,
                            val.fst.snd.snd.snd.snd.snd.snd.snd.snd.snd.snd.fst, ()),
                          val.fst.snd.snd.snd.snd.snd.snd.snd.snd.snd.snd.snd.fst, val.fst.snd.snd.snd.snd.snd.snd.snd.snd.snd.snd.snd.snd.fst,
                          (val.fst.snd.snd.snd.snd.snd.snd.snd.snd.snd.snd.snd.snd.snd.fst, ()), ()),
                        val.fst.snd.snd.snd.snd.snd.snd.snd.snd.snd.snd.snd.snd.snd.snd.fst, val.fst.snd.snd.snd.snd.snd.snd.snd.snd.snd.snd.snd.snd.snd.snd.snd.fst, ())) then
            some ((false, ()), ())
          else
            Option.bind
              (Option.bind
                (m_laws_toWorld
                  (a0.fst, (a0.snd.fst.fst, a0.snd.fst.snd.fst, ()), a0.snd.snd.fst,
                    (a0.snd.snd.snd.fst.fst, a0.snd.snd.snd.fst.snd.fst, a0.snd.snd.snd.fst.snd.snd.fst,
                      (a0.snd.snd.snd.fst.snd.snd.snd.fst.fst, a0.snd.snd.snd.fst.snd.snd.snd.fst.snd.fst, a0.snd.snd.snd.fst.snd.snd.snd.fst.snd.snd.fst,
                        a0.snd.snd.snd.fst.snd.snd.snd.fst.snd.snd.snd.fst, ()),
                      a0.snd.snd.snd.fst.snd.snd.snd.snd.fst, a0.snd.snd.snd.fst.snd.snd.snd.snd.snd.fst, (a0.snd.snd.snd.fst.snd.snd.snd.snd.snd.snd.fst.fst, ()), ()),
                    a0.snd.snd.snd.snd.fst, a0.snd.snd.snd.snd.snd.fst, ()))
                fun val =>
                some
                  ((val.fst, val.snd.fst.fst, val.snd.fst.snd.fst, val.snd.snd.fst, val.snd.snd.snd.fst.fst, val.snd.snd.snd.fst.snd.fst, val.snd.snd.snd.fst.snd.snd.fst,
                      val.snd.snd.snd.fst.snd.snd.snd.fst.fst, val.snd.snd.snd.fst.snd.snd.snd.fst.snd.fst, val.snd.snd.snd.fst.snd.snd.snd.fst.snd.snd.fst,
                      val.snd.snd.snd.fst.snd.snd.snd.fst.snd.snd.snd.fst, val.snd.snd.snd.fst.snd.snd.snd.snd.fst, val.snd.snd.snd.fst.snd.snd.snd.snd.snd.fst,
                      val.snd.snd.snd.fst.snd.snd.snd.snd.snd.snd.fst.fst, val.snd.snd.snd.snd.fst, val.snd.snd.snd.snd.snd.fst, ()),
                    ()))
              fun val =>
              Option.bind
                (Option.bind
                  (m_laws_eqWorld
                    (val_1.fst.fst, (val_1.fst.snd.fst, val_1.fst.snd.snd.fst, ()), val_1.fst.snd.snd.snd.fst,
                      (val_1.fst.snd.snd.snd.snd.fst, val_1.fst.snd.snd.snd.snd.snd.fst, val_1.fst.snd.snd.snd.snd.snd.snd.fst,
                        (val_1.fst.snd.snd.snd.snd.snd.snd.snd.fst, val_1.fst.snd.snd.snd.snd.snd.snd.snd.snd.fst, val_1.fst.snd.snd.snd.snd.snd.snd.snd.snd.snd.fst,
                          val_1.fst.snd.snd.snd.snd.snd.snd.snd.snd.snd.snd.fst, ()),
                        val_1.fst.snd.snd.snd.snd.snd.snd.snd.snd.snd.snd.snd.fst, val_1.fst.snd.snd.snd.snd.snd.snd.snd.snd.snd.snd.snd.snd.fst,
                        (val_1.fst.snd.snd.snd.snd.snd.snd.snd.snd.snd.snd.snd.snd.snd.fst, ()), ()),
                      val_1.fst.snd.snd.snd.snd.snd.snd.snd.snd.snd.snd.snd.snd.snd.snd.fst, val_1.fst.snd.snd.snd.snd.snd.snd.snd.snd.snd.snd.snd.snd.snd.snd.snd.fst, ())
                    (val.fst.fst, (val.fst.snd.fst, val.fst.snd.snd.fst, ()), val.fst.snd.snd.snd.fst,
                      (val.fst.snd.snd.snd.snd.fst, val.fst.snd.snd.snd.snd.snd.fst, val.fst.snd.snd.snd.snd.snd.snd.fst,
                        (val.fst.snd.snd.snd.snd.snd.snd.snd.fst, val.fst.snd.snd.snd.snd.snd.snd.snd.snd.fst, val.fst.snd.snd.snd.snd.snd.snd.snd.snd.snd.fst,
                          val.fst.snd.snd.snd.snd.snd.snd.snd.snd.snd.snd.fst, ()),
                        val.fst.snd.snd.snd.snd.snd.snd.snd.snd.snd.snd.snd.fst, val.fst.snd.snd.snd.snd.snd.snd.snd.snd.snd.snd.snd.snd.fst,
                        (val.fst.snd.snd.snd.snd.snd.snd.snd.snd.snd.snd.snd.snd.snd.fst, ()), ()),
                      val.fst.snd.snd.snd.snd.snd.snd.snd.snd.snd.snd.snd.snd.snd.snd.fst, val.fst.snd.snd.snd.snd.snd.snd.snd.snd.snd.snd.snd.snd.snd.snd.snd.fst, ()))
                  fun val => some ((val, ()), ()))
                fun val => bif !val.fst.fst then some ((false, ()), ()) else some ((true, ()), ())
noncomputable def sd_laws_FnExactForged : SD := ⟨sg_laws_FnExactForged, fun x => de_laws_FnExactForged x.1⟩
theorem law_FnExactForged (a0 : Int × ((List ByteArray) × (List (Int × ByteArray × Unit)) × Unit) × Bool × (Int × Int × Int × (Int × Int × Int × Int × Unit) × Int × Int × ((List (ByteArray × ByteArray × Unit)) × Unit) × Unit) × (List ((List (ByteArray × ByteArray × Unit)) × Unit)) × (List ByteArray) × Unit) (h0 : FineD (.pair (.int .i64) (.pair (.pair (.sl .str) (.pair (.sl (.pair (.int .i64) (.pair .str .unit))) .unit)) (.pair .bool (.pair (.pair (.int .i64) (.pair (.int .i64) (.pair (.int .i64) (.pair (.pair (.int .i64) (.pair (.int .i64) (.pair (.int .i64) (.pair (.int .i64) .unit)))) (.pair (.int .i64) (.pair (.int .i64) (.pair (.pair (.sl (.pair .str (.pair .str .unit))) .unit) .unit))))))) (.pair (.sl (.pair (.sl (.pair .str (.pair .str .unit))) .unit)) (.pair (.sl .str) .unit)))))) a0) : de_laws_FnExactForged a0 = some ((true, ()), ()) := by
  have hf0 := fine_of h0
  unfold de_laws_FnExactForged
  rcases sz_cases (l0 := 1048576) hf0 (by first | decide | assumption) (by first | decide | assumption) (m := m_laws_szWorld (a0.fst, (a0.snd.fst.fst, a0.snd.fst.snd.fst, ()), a0.snd.snd.fst, (a0.snd.snd.snd.fst.fst, a0.snd.snd.snd.fst.snd.fst, a0.snd.snd.snd.fst.snd.snd.fst, (a0.snd.snd.snd.fst.snd.snd.snd.fst.fst, a0.snd.snd.snd.fst.snd.snd.snd.fst.snd.fst, a0.snd.snd.snd.fst.snd.snd.snd.fst.snd.snd.fst, a0.snd.snd.snd.fst.snd.snd.snd.fst.snd.snd.snd.fst, ()), a0.snd.snd.snd.fst.snd.snd.snd.snd.fst, a0.snd.snd.snd.fst.snd.snd.snd.snd.snd.fst, (a0.snd.snd.snd.fst.snd.snd.snd.snd.snd.snd.fst.fst, ()), ()), a0.snd.snd.snd.snd.fst, a0.snd.snd.snd.snd.snd.fst, ()) 1048576) rfl with e0 | ⟨l0, e0, g0, k0, s0, q0⟩
  · simp only [e0, Option.bind_some, lt_m1, cond_true]
  · skip
    have t0 : m_laws_toWorld (a0.fst, (a0.snd.fst.fst, a0.snd.fst.snd.fst, ()), a0.snd.snd.fst, (a0.snd.snd.snd.fst.fst, a0.snd.snd.snd.fst.snd.fst, a0.snd.snd.snd.fst.snd.snd.fst, (a0.snd.snd.snd.fst.snd.snd.snd.fst.fst, a0.snd.snd.snd.fst.snd.snd.snd.fst.snd.fst, a0.snd.snd.snd.fst.snd.snd.snd.fst.snd.snd.fst, a0.snd.snd.snd.fst.snd.snd.snd.fst.snd.snd.snd.fst, ()), a0.snd.snd.snd.fst.snd.snd.snd.snd.fst, a0.snd.snd.snd.fst.snd.snd.snd.snd.snd.fst, (a0.snd.snd.snd.fst.snd.snd.snd.snd.snd.snd.fst.fst, ()), ()), a0.snd.snd.snd.snd.fst, a0.snd.snd.snd.snd.snd.fst, ()) = some (a0.fst, (a0.snd.fst.fst, a0.snd.fst.snd.fst, ()), a0.snd.snd.fst, (a0.snd.snd.snd.fst.fst, a0.snd.snd.snd.fst.snd.fst, a0.snd.snd.snd.fst.snd.snd.fst, (a0.snd.snd.snd.fst.snd.snd.snd.fst.fst, a0.snd.snd.snd.fst.snd.snd.snd.fst.snd.fst, a0.snd.snd.snd.fst.snd.snd.snd.fst.snd.snd.fst, a0.snd.snd.snd.fst.snd.snd.snd.fst.snd.snd.snd.fst, ()), a0.snd.snd.snd.fst.snd.snd.snd.snd.fst, a0.snd.snd.snd.fst.snd.snd.snd.snd.snd.fst, (a0.snd.snd.snd.fst.snd.snd.snd.snd.snd.snd.fst.fst, ()), ()), a0.snd.snd.snd.snd.fst, a0.snd.snd.snd.snd.snd.fst, ()) := toM_is (t := (.pair (.int .i64) (.pair (.pair (.sl .str) (.pair (.sl (.pair (.int .i64) (.pair .str .unit))) .unit)) (.pair .bool (.pair (.pair (.int .i64) (.pair (.int .i64) (.pair (.int .i64) (.pair (.pair (.int .i64) (.pair (.int .i64) (.pair (.int .i64) (.pair (.int .i64) .unit)))) (.pair (.int .i64) (.pair (.int .i64) (.pair (.pair (.sl (.pair .str (.pair .str .unit))) .unit) .unit))))))) (.pair (.sl (.pair (.sl (.pair .str (.pair .str .unit))) .unit)) (.pair (.sl .str) .unit))))))) (x := a0) s0
    have u0 : m_laws_eqWorld (a0.fst, (a0.snd.fst.fst, a0.snd.fst.snd.fst, ()), a0.snd.snd.fst, (a0.snd.snd.snd.fst.fst, a0.snd.snd.snd.fst.snd.fst, a0.snd.snd.snd.fst.snd.snd.fst, (a0.snd.snd.snd.fst.snd.snd.snd.fst.fst, a0.snd.snd.snd.fst.snd.snd.snd.fst.snd.fst, a0.snd.snd.snd.fst.snd.snd.snd.fst.snd.snd.fst, a0.snd.snd.snd.fst.snd.snd.snd.fst.snd.snd.snd.fst, ()), a0.snd.snd.snd.fst.snd.snd.snd.snd.fst, a0.snd.snd.snd.fst.snd.snd.snd.snd.snd.fst, (a0.snd.snd.snd.fst.snd.snd.snd.snd.snd.snd.fst.fst, ()), ()), a0.snd.snd.snd.snd.fst, a0.snd.snd.snd.snd.snd.fst, ()) (a0.fst, (a0.snd.fst.fst, a0.snd.fst.snd.fst, ()), a0.snd.snd.fst, (a0.snd.snd.snd.fst.fst, a0.snd.snd.snd.fst.snd.fst, a0.snd.snd.snd.fst.snd.snd.fst, (a0.snd.snd.snd.fst.snd.snd.snd.fst.fst, a0.snd.snd.snd.fst.snd.snd.snd.fst.snd.fst, a0.snd.snd.snd.fst.snd.snd.snd.fst.snd.snd.fst, a0.snd.snd.snd.fst.snd.snd.snd.fst.snd.snd.snd.fst, ()), a0.snd.snd.snd.fst.snd.snd.snd.snd.fst, a0.snd.snd.snd.fst.snd.snd.snd.snd.snd.fst, (a0.snd.snd.snd.fst.snd.snd.snd.snd.snd.snd.fst.fst, ()), ()), a0.snd.snd.snd.snd.fst, a0.snd.snd.snd.snd.snd.fst, ()) = some true := eqM_self (t := (.pair (.int .i64) (.pair (.pair (.sl .str) (.pair (.sl (.pair (.int .i64) (.pair .str .unit))) .unit)) (.pair .bool (.pair (.pair (.int .i64) (.pair (.int .i64) (.pair (.int .i64) (.pair (.pair (.int .i64) (.pair (.int .i64) (.pair (.int .i64) (.pair (.int .i64) .unit)))) (.pair (.int .i64) (.pair (.int .i64) (.pair (.pair (.sl (.pair .str (.pair .str .unit))) .unit) .unit))))))) (.pair (.sl (.pair (.sl (.pair .str (.pair .str .unit))) .unit)) (.pair (.sl .str) .unit))))))) (x := a0) hf0
    simp only [e0, q0, t0, u0, Option.bind_some, cond_false, cond_true, beq_self_eq_true, bne_self_eq_false, Bool.not_true, Bool.or_self, m_impl_Forged, m_spec_Forged]
theorem en_laws_FnExactForged (a0 : Int × ((List ByteArray) × (List (Int × ByteArray × Unit)) × Unit) × Bool × (Int × Int × Int × (Int × Int × Int × Int × Unit) × Int × Int × ((List (ByteArray × ByteArray × Unit)) × Unit) × Unit) × (List ((List (ByteArray × ByteArray × Unit)) × Unit)) × (List ByteArray) × Unit) : evalF Try.prog ta_laws_FnExactForged pa_laws_FnExactForged sg_laws_FnExactForged Try.f5 noL (a0, ()) = de_laws_FnExactForged a0 := by kernel_rfl
theorem si_laws_FnExactForged : SigsOk Try.prog ta_laws_FnExactForged := SigsOk.of fun f sd h => by
  try dsimp only [Tb.of, ta_laws_FnExactForged] at h
  split at h
  · rename_i e; subst e; cases h; exact sn_laws_szWorld
  split at h
  · rename_i e; subst e; cases h; exact sn_spec_Forged
  split at h
  · rename_i e; subst e; cases h; exact sn_laws_toWorld
  split at h
  · rename_i e; subst e; cases h; exact sn_impl_Forged
  split at h
  · rename_i e; subst e; cases h; exact sn_laws_eqWorld
  cases h
theorem sn_laws_FnExactForged : Callable Try.prog 5 ∧ Sound Try.prog 5 sd_laws_FnExactForged.sg sd_laws_FnExactForged.den :=
  fn_plain (pat := pa_laws_FnExactForged) (by kernel_rfl) si_laws_FnExactForged Try.func5 (by kernel_rfl) (by kernel_rfl) (by kernel_rfl) fun x r h => by
    obtain ⟨a0, ⟨⟩⟩ := x; exact (en_laws_FnExactForged a0).trans h
end Go.Proofs.Yteaoabdlcefkhaa.V
