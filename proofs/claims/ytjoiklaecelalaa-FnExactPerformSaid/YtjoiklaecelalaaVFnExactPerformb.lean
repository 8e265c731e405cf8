/- What the functions that FnExactPerform reaches come to: part 2. No condition. -/
import Derived.Test.YtjoiklaecelalaaVFnExactPerforma
import Derived.KernelRfl
namespace Go.Proofs.Ytjoiklaecelalaa.V
open Go Go.Proofs.Ytjoiklaecelalaa.R Go.Proofs
set_option maxRecDepth 100000
set_option linter.unusedVariables false
set_option linter.unusedSimpArgs false
def m_laws_heldStringS (a : List ByteArray) (k : Int) : Option Int := heldM .str a k
def sg_laws_heldStringS : Sig := ⟨[.rd (.sl .str), .rd (.int .i64)], [none, none], [.rd (.int .i64)], [none]⟩
noncomputable def sd_laws_heldStringS : SD := ⟨sg_laws_heldStringS, fun x => (m_laws_heldStringS x.1 x.2.1).bind fun r => some ((r, ()), (()))⟩
noncomputable def ta_laws_heldStringS : Tb := Tb.of fun f => if f = 116 then some sd_laws_markText else none
def pa_laws_heldStringS : Nat → Pat × (Nat → Pat) := fun k => if k = 3 then (⟨[.sl 0 0 .str], [(0, .lf (.d (.sl .str))), (1, .lf (.d (.int .i64))), (5, .lf (.d (.int .i64)))], []⟩, fun e => if e = 1 then ⟨[], [(4, .lf (.d (.int .i64)))], []⟩ else if e = 2 then ⟨[], [(1, .lf (.d (.int .i64)))], []⟩ else ⟨[], [], []⟩) else (⟨[], [], []⟩, fun _ => ⟨[], [], []⟩)
noncomputable def co_laws_heldStringS_3 : Code := (loopsIn (bodyOf Try.f117)).getD 0 .skip
def fu_laws_heldStringS_3 (v0 : List ByteArray) (v1 : Int) (v5 : Int) : Nat := ((v0.length : Int) - v5).toNat + 1
noncomputable def tr_laws_heldStringS_3 {R : Type}  (NX : ((List ByteArray) × (Int) × (Int) × Unit) → Option R) (X2 : ((Int) × Unit) → Option R) (X1 : ((Int) × Unit) → Option R) (v0 : List ByteArray) (v1 : Int) (v5 : Int) : Option R :=
  bif decide (v5 < nI (List.length v0)) then
    bif decide (0 ≤ v5) then
      bif decide (v5 < nI (List.length v0)) then
        Option.bind (Option.bind (m_laws_markText v1) fun val => some ((val, ()), ())) fun val =>
          bif !ByteArray.toList (List.getD v0 (Int.toNat v5) (ByteArray.mk #[])) == ByteArray.toList val.fst.fst then X1 (-1, ())
          else NX (v0, IntKind.wrap IntKind.i64 (v1 + 1), IntKind.wrap IntKind.i64 (v5 + 1), ())
      else none
    else none
  else X2 (v1, ())
noncomputable def lo_laws_heldStringS_3 : Nat → (List ByteArray) → (Int) → (Int) →  Option (((Int) × Unit) ⊕ ((Int) × Unit))
  | 0, _, _, _ => none
  | m + 1, v0, v1, v5 => tr_laws_heldStringS_3  (fun d => lo_laws_heldStringS_3 m d.1 d.2.1 d.2.2.1) (fun d => some (.inl (d))) (fun d => some (.inr (d))) v0 v1 v5
theorem na_laws_heldStringS_3 {R S : Type}  (NX : ((List ByteArray) × (Int) × (Int) × Unit) → Option R) (X2 : ((Int) × Unit) → Option R) (X1 : ((Int) × Unit) → Option R) (v0 : List ByteArray) (v1 : Int) (v5 : Int) (f : R → Option S) : tr_laws_heldStringS_3  (fun d => (NX d).bind f) (fun d => (X2 d).bind f) (fun d => (X1 d).bind f) v0 v1 v5 = (tr_laws_heldStringS_3  NX X2 X1 v0 v1 v5).bind f := by
  unfold tr_laws_heldStringS_3
  simp only [cond_bind, ite_bind, onSum_bind, Option.bind_assoc, Option.bind_none, Option.bind_some]
noncomputable def de_laws_heldStringS (a0 : List ByteArray) (a1 : Int) : Option ((((Int) × Unit) × (Unit))) :=
  Option.bind ((fun d => lo_laws_heldStringS_3 (fu_laws_heldStringS_3 d.1 d.2.1 d.2.2.1) d.1 d.2.1 d.2.2.1) (a0, a1, 0, ())) fun val => onSum (fun val => some ((val.fst, ()), ())) (fun val => some ((val.fst, ()), ())) val
theorem eq_laws_heldStringS (a0 : List ByteArray) (a1 : Int) r (h : m_laws_heldStringS a0 a1 = some r) : de_laws_heldStringS a0 a1 = some ((r, ()), (())) := by
  obtain ⟨g0, g1, hl0, rfl⟩ := heldM_some (t := .str) h
  have hl : a0.length ≤ 1125899906842624 := hl0
  have hEE : (fun k : Int => (show ByteArray from (mkE .str k).1)) = (fun k : Int => mkT (k)) := funext fun k => by
    show mkT (k) = mkT (k)
    try simp only [Int.add_assoc, Int.add_zero]
    try rfl
  show _ = some ((if eqL (α := ByteArray) eqS a0 (gL (fun k : Int => (show ByteArray from (mkE .str k).1)) 1 a0.length a1) = true then a1 + (a0.length : Int) * 1 else -1, ()), ())
  rw [hEE]
  unfold de_laws_heldStringS
  have hL := held_loop (xs := a0) (ByteArray.mk #[]) eqS (fun k : Int => mkT (k)) 1 (K := 36028797018963000) (g := fun m k i => lo_laws_heldStringS_3 m a0 k i) (ok := fun k => .inl (k, ())) (bad := .inr (-1, ())) (fun m i k hi h1 hK => by
    show lo_laws_heldStringS_3 (m + 1) a0 k i = bif eqS (List.getD (α := ByteArray) a0 i (ByteArray.mk #[])) ((fun k : Int => mkT (k)) k) then lo_laws_heldStringS_3 m a0 (k + 1) ((i + 1 : Nat) : Int) else _
    have hK1 : k + 1 ≤ 36028797018963000 := by
      have : (1 : Int) ≤ (a0.length - i : Nat) := by omega
      omega
    have hE : eqS (List.getD (α := ByteArray) a0 i (ByteArray.mk #[])) ((fun k : Int => mkT (k)) k) = eqS (List.getD (α := ByteArray) a0 i (ByteArray.mk #[])) (mkT (k + 0)) := by
      try simp only [Int.add_zero]
      try rfl
    rw [hE, show lo_laws_heldStringS_3 (m + 1) a0 k i = lo_laws_heldStringS_3 (m + 1) a0 (k + 0) i from by rw [Int.add_zero]]
    have k0 : k = k + 0 := (Int.add_zero k).symm
    have t0 : m_laws_markText (k + 0) = some (mkT (k + 0)) := if_pos (by omega)
    have w0 : IntKind.wrap IntKind.i64 (k + 0 + 1) = k + 1 := by rw [wrap_ok (by omega) (by omega)]; omega
    have v0 : (!(ByteArray.toList (List.getD (α := ByteArray) a0 i (ByteArray.mk #[])) == ByteArray.toList (mkT (k + 0)))) = !eqS (List.getD (α := ByteArray) a0 i (ByteArray.mk #[])) (mkT (k + 0)) := rfl
    simp only [lo_laws_heldStringS_3, tr_laws_heldStringS_3]
    simp only [t0,  Option.bind_some, w0,  cLt hi, cLe0, wI (show i < 4611686018427387904 by omega), cond_true, Int.toNat_natCast, v0]
    generalize eqS (List.getD (α := ByteArray) a0 i (ByteArray.mk #[])) (mkT (k + 0)) = p0
    cases p0 <;> rfl) (fun m k => by
    show lo_laws_heldStringS_3 (m + 1) a0 k a0.length = _
    simp only [lo_laws_heldStringS_3, tr_laws_heldStringS_3]
    rw [cLtF]
    rfl) (fu_laws_heldStringS_3 a0 a1 0) 0 a1 (by omega) (by simp [fu_laws_heldStringS_3]) g0 (by omega)
  have hL' : lo_laws_heldStringS_3 (fu_laws_heldStringS_3 a0 a1 0) a0 a1 0 = _ := hL
  show (lo_laws_heldStringS_3 (fu_laws_heldStringS_3 a0 a1 0) a0 a1 0).bind _ = some ((if eqL (α := ByteArray) eqS a0 (gL (fun k : Int => mkT (k)) 1 a0.length a1) = true then a1 + (a0.length : Int) * 1 else -1, ()), ())
  rw [hL', List.drop_zero]
  cases eqL (α := ByteArray) eqS a0 (gL (fun k : Int => mkT (k)) 1 a0.length a1) <;> rfl
noncomputable def ou_laws_heldStringS_3 {R : Type} (k : Kt R) : (((Int) × Unit) ⊕ ((Int) × Unit)) → Option R := (onSum (fun d => k (.exit 0) (((pa_laws_heldStringS 3).2 2).st d) (((pa_laws_heldStringS 3).2 2).nid)) (fun d => k .ret (((pa_laws_heldStringS 3).2 1).st d) (((pa_laws_heldStringS 3).2 1).nid)))
noncomputable def L_laws_heldStringS {R : Type} : Lt R pa_laws_heldStringS := (addL (pat := pa_laws_heldStringS) 3 (fun d k => (lo_laws_heldStringS_3 (fu_laws_heldStringS_3 d.1 d.2.1 d.2.2.1) d.1 d.2.1 d.2.2.1).bind (ou_laws_heldStringS_3 k)) noL)
theorem rd_laws_heldStringS_3 {R : Type} (nx : (pa_laws_heldStringS 3).1.D → Kt R → Option R) (k : Kt R) (v0 : List ByteArray) (v1 : Int) (v5 : Int) : ev Try.prog ⟨ta_laws_heldStringS, 0, 22, pa_laws_heldStringS⟩ L_laws_heldStringS co_laws_heldStringS_3 ((pa_laws_heldStringS 3).1.st (v0, v1, v5, ())) (pa_laws_heldStringS 3).1.nid (roundK 0 (pa_laws_heldStringS 3) nx k) = tr_laws_heldStringS_3  (fun d => nx d k) (fun d => k (.exit 0) (((pa_laws_heldStringS 3).2 2).st d) (((pa_laws_heldStringS 3).2 2).nid)) (fun d => k .ret (((pa_laws_heldStringS 3).2 1).st d) (((pa_laws_heldStringS 3).2 1).nid)) v0 v1 v5 := by kernel_rfl
theorem lp_laws_heldStringS_3 {R : Type} : ∀ (m : Nat) (d : (pa_laws_heldStringS 3).1.D) (k : Kt R), loopN 0 (pa_laws_heldStringS 3) (fun s nid k => ev Try.prog ⟨ta_laws_heldStringS, 0, 22, pa_laws_heldStringS⟩ L_laws_heldStringS co_laws_heldStringS_3 s nid k) m d k = (lo_laws_heldStringS_3 m d.1 d.2.1 d.2.2.1).bind (ou_laws_heldStringS_3 k)
  | 0, _, _ => rfl
  | m + 1, ⟨v0, v1, v5, ⟨⟩⟩, k => (rd_laws_heldStringS_3 _ k v0 v1 v5).trans ((congrArg (fun F => tr_laws_heldStringS_3  F (fun d => k (.exit 0) (((pa_laws_heldStringS 3).2 2).st d) (((pa_laws_heldStringS 3).2 2).nid)) (fun d => k .ret (((pa_laws_heldStringS 3).2 1).st d) (((pa_laws_heldStringS 3).2 1).nid)) v0 v1 v5) (funext fun d => lp_laws_heldStringS_3 m d k)).trans (na_laws_heldStringS_3 (f := ou_laws_heldStringS_3 k)  (fun d => lo_laws_heldStringS_3 m d.1 d.2.1 d.2.2.1) (fun d => some (.inl (d))) (fun d => some (.inr (d))) v0 v1 v5))
theorem en_laws_heldStringS (a0 : List ByteArray) (a1 : Int) : evalF Try.prog ta_laws_heldStringS pa_laws_heldStringS sg_laws_heldStringS Try.f117 L_laws_heldStringS (a0, a1, ()) = de_laws_heldStringS a0 a1 := by kernel_rfl
theorem si_laws_heldStringS : SigsOk Try.prog ta_laws_heldStringS := SigsOk.of fun f sd h => by
  try dsimp only [Tb.of, ta_laws_heldStringS] at h
  split at h
  · rename_i e; subst e; cases h; exact sn_laws_markText
  cases h
theorem lk_laws_heldStringS_3 {R : Type} : LoopOk Try.prog R 22 0 pa_laws_heldStringS L_laws_heldStringS co_laws_heldStringS_3 :=
  loop_key (cfg := ⟨ta_laws_heldStringS, 0, 22, pa_laws_heldStringS⟩) (key := 3) (by kernel_rfl) (by kernel_rfl) si_laws_heldStringS rfl rfl (fun d k r h => ⟨fu_laws_heldStringS_3 d.1 d.2.1 d.2.2.1, (lp_laws_heldStringS_3 _ d k).trans h⟩) (fun c hc => by rw [show loopsIn co_laws_heldStringS_3 = [] from by kernel_rfl] at hc; cases hc)
theorem sn_laws_heldStringS : Callable Try.prog 117 ∧ Sound Try.prog 117 sd_laws_heldStringS.sg sd_laws_heldStringS.den :=
  fn_loops (pat := pa_laws_heldStringS) L_laws_heldStringS (by kernel_rfl) si_laws_heldStringS Try.func117 (by kernel_rfl) (by kernel_rfl) (fun c hc => by rw [show loopsIn (bodyOf Try.f117) = [co_laws_heldStringS_3] from by kernel_rfl] at hc; simp only [List.mem_cons, List.not_mem_nil, or_false] at hc; rcases hc with rfl <;> first | exact lk_laws_heldStringS_3) fun x r h => by
    obtain ⟨a0, a1, ⟨⟩⟩ := x; obtain ⟨y, h1, h2⟩ := Option.bind_eq_some_iff.1 (show (m_laws_heldStringS a0 a1).bind (fun r => some ((r, ()), (()))) = some r from h); cases h2; exact (en_laws_heldStringS a0 a1).trans (eq_laws_heldStringS a0 a1 _ h1)
def m_laws_heldWriteS (a : List (Int × ByteArray × Unit)) (k : Int) : Option Int := heldM (.pair (.int .i64) (.pair .str .unit)) a k
def sg_laws_heldWriteS : Sig := ⟨[.rd (.sl (.pair (.int .i64) (.pair .str .unit))), .rd (.int .i64)], [none, none], [.rd (.int .i64)], [none]⟩
noncomputable def sd_laws_heldWriteS : SD := ⟨sg_laws_heldWriteS, fun x => (m_laws_heldWriteS x.1 x.2.1).bind fun r => some ((r, ()), (()))⟩
noncomputable def ta_laws_heldWriteS : Tb := Tb.of fun f => if f = 116 then some sd_laws_markText else none
def pa_laws_heldWriteS : Nat → Pat × (Nat → Pat) := fun k => if k = 3 then (⟨[.sl 0 0 (.pair (.int .i64) (.pair .str .unit))], [(0, .lf (.d (.sl (.pair (.int .i64) (.pair .str .unit))))), (1, .lf (.d (.int .i64))), (5, .lf (.d (.int .i64)))], []⟩, fun e => if e = 1 then ⟨[], [(4, .lf (.d (.int .i64)))], []⟩ else if e = 2 then ⟨[], [(1, .lf (.d (.int .i64)))], []⟩ else ⟨[], [], []⟩) else (⟨[], [], []⟩, fun _ => ⟨[], [], []⟩)
noncomputable def co_laws_heldWriteS_3 : Code := (loopsIn (bodyOf Try.f118)).getD 0 .skip
def fu_laws_heldWriteS_3 (v0 : List (Int × ByteArray × Unit)) (v1 : Int) (v5 : Int) : Nat := ((v0.length : Int) - v5).toNat + 1
noncomputable def tr_laws_heldWriteS_3 {R : Type}  (NX : ((List (Int × ByteArray × Unit)) × (Int) × (Int) × Unit) → Option R) (X2 : ((Int) × Unit) → Option R) (X1 : ((Int) × Unit) → Option R) (v0 : List (Int × ByteArray × Unit)) (v1 : Int) (v5 : Int) : Option R :=
  bif decide (v5 < nI (List.length v0)) then
    bif decide (0 ≤ v5) then
      bif decide (v5 < nI (List.length v0)) then
        bif (List.getD v0 (Int.toNat v5) (0, ByteArray.mk #[], ())).fst != v1 then X1 (-1, ())
        else
          bif decide (0 ≤ v5) then
            bif decide (v5 < nI (List.length v0)) then
              Option.bind (Option.bind (m_laws_markText (IntKind.wrap IntKind.i64 (v1 + 1))) fun val => some ((val, ()), ())) fun val =>
                bif !ByteArray.toList (List.getD v0 (Int.toNat v5) (0, ByteArray.mk #[], ())).snd.fst == ByteArray.toList val.fst.fst then X1 (-1, ())
                else NX (v0, IntKind.wrap IntKind.i64 (IntKind.wrap IntKind.i64 (v1 + 1) + 1), IntKind.wrap IntKind.i64 (v5 + 1), ())
            else none
          else none
      else none
    else none
  else X2 (v1, ())
noncomputable def lo_laws_heldWriteS_3 : Nat → (List (Int × ByteArray × Unit)) → (Int) → (Int) →  Option (((Int) × Unit) ⊕ ((Int) × Unit))
  | 0, _, _, _ => none
  | m + 1, v0, v1, v5 => tr_laws_heldWriteS_3  (fun d => lo_laws_heldWriteS_3 m d.1 d.2.1 d.2.2.1) (fun d => some (.inl (d))) (fun d => some (.inr (d))) v0 v1 v5
theorem na_laws_heldWriteS_3 {R S : Type}  (NX : ((List (Int × ByteArray × Unit)) × (Int) × (Int) × Unit) → Option R) (X2 : ((Int) × Unit) → Option R) (X1 : ((Int) × Unit) → Option R) (v0 : List (Int × ByteArray × Unit)) (v1 : Int) (v5 : Int) (f : R → Option S) : tr_laws_heldWriteS_3  (fun d => (NX d).bind f) (fun d => (X2 d).bind f) (fun d => (X1 d).bind f) v0 v1 v5 = (tr_laws_heldWriteS_3  NX X2 X1 v0 v1 v5).bind f := by
  unfold tr_laws_heldWriteS_3
  simp only [cond_bind, ite_bind, onSum_bind, Option.bind_assoc, Option.bind_none, Option.bind_some]
noncomputable def de_laws_heldWriteS (a0 : List (Int × ByteArray × Unit)) (a1 : Int) : Option ((((Int) × Unit) × (Unit))) :=
  Option.bind ((fun d => lo_laws_heldWriteS_3 (fu_laws_heldWriteS_3 d.1 d.2.1 d.2.2.1) d.1 d.2.1 d.2.2.1) (a0, a1, 0, ())) fun val => onSum (fun val => some ((val.fst, ()), ())) (fun val => some ((val.fst, ()), ())) val
theorem eq_laws_heldWriteS (a0 : List (Int × ByteArray × Unit)) (a1 : Int) r (h : m_laws_heldWriteS a0 a1 = some r) : de_laws_heldWriteS a0 a1 = some ((r, ()), (())) := by
  obtain ⟨g0, g1, hl0, rfl⟩ := heldM_some (t := (.pair (.int .i64) (.pair .str .unit))) h
  have hl : a0.length ≤ 1125899906842624 := hl0
  have hEE : (fun k : Int => (show Int × ByteArray × Unit from (mkE (.pair (.int .i64) (.pair .str .unit)) k).1)) = (fun k : Int => (k, mkT (k + 1), ())) := funext fun k => by
    show (k, mkT (k + 1), ()) = (k, mkT (k + 1), ())
    try simp only [Int.add_assoc, Int.add_zero]
    try rfl
  show _ = some ((if eqL (α := Int × ByteArray × Unit) (fun x y : Int × ByteArray × Unit => eqB (.pair (.int .i64) (.pair .str .unit)) x y) a0 (gL (fun k : Int => (show Int × ByteArray × Unit from (mkE (.pair (.int .i64) (.pair .str .unit)) k).1)) 2 a0.length a1) = true then a1 + (a0.length : Int) * 2 else -1, ()), ())
  rw [hEE]
  unfold de_laws_heldWriteS
  have hL := held_loop (xs := a0) (0, (ByteArray.mk #[]), ()) (fun x y : Int × ByteArray × Unit => eqB (.pair (.int .i64) (.pair .str .unit)) x y) (fun k : Int => (k, mkT (k + 1), ())) 2 (K := 36028797018963000) (g := fun m k i => lo_laws_heldWriteS_3 m a0 k i) (ok := fun k => .inl (k, ())) (bad := .inr (-1, ())) (fun m i k hi h1 hK => by
    show lo_laws_heldWriteS_3 (m + 1) a0 k i = bif (fun x y : Int × ByteArray × Unit => eqB (.pair (.int .i64) (.pair .str .unit)) x y) (List.getD (α := Int × ByteArray × Unit) a0 i (0, (ByteArray.mk #[]), ())) ((fun k : Int => (k, mkT (k + 1), ())) k) then lo_laws_heldWriteS_3 m a0 (k + 2) ((i + 1 : Nat) : Int) else _
    have hK1 : k + 2 ≤ 36028797018963000 := by
      have : (1 : Int) ≤ (a0.length - i : Nat) := by omega
      omega
    have hE : (fun x y : Int × ByteArray × Unit => eqB (.pair (.int .i64) (.pair .str .unit)) x y) (List.getD (α := Int × ByteArray × Unit) a0 i (0, (ByteArray.mk #[]), ())) ((fun k : Int => (k, mkT (k + 1), ())) k) = (eqI (List.getD (α := Int × ByteArray × Unit) a0 i (0, (ByteArray.mk #[]), ())).1 (k + 0) && (eqS (List.getD (α := Int × ByteArray × Unit) a0 i (0, (ByteArray.mk #[]), ())).2.1 (mkT (k + 1)) && true)) := by
      try simp only [Int.add_zero]
      try rfl
    rw [hE, show lo_laws_heldWriteS_3 (m + 1) a0 k i = lo_laws_heldWriteS_3 (m + 1) a0 (k + 0) i from by rw [Int.add_zero]]
    have k0 : k = k + 0 := (Int.add_zero k).symm
    have t1 : m_laws_markText (k + 1) = some (mkT (k + 1)) := if_pos (by omega)
    have w0 : IntKind.wrap IntKind.i64 (k + 0 + 1) = k + 1 := by rw [wrap_ok (by omega) (by omega)]; omega
    have w1 : IntKind.wrap IntKind.i64 (k + 1 + 1) = k + 2 := by rw [wrap_ok (by omega) (by omega)]; omega
    have v0 : ((List.getD (α := Int × ByteArray × Unit) a0 i (0, (ByteArray.mk #[]), ())).1 != k + 0) = !eqI (List.getD (α := Int × ByteArray × Unit) a0 i (0, (ByteArray.mk #[]), ())).1 (k + 0) := bneI _ _
    have v1 : (!(ByteArray.toList (List.getD (α := Int × ByteArray × Unit) a0 i (0, (ByteArray.mk #[]), ())).2.1 == ByteArray.toList (mkT (k + 1)))) = !eqS (List.getD (α := Int × ByteArray × Unit) a0 i (0, (ByteArray.mk #[]), ())).2.1 (mkT (k + 1)) := rfl
    simp only [lo_laws_heldWriteS_3, tr_laws_heldWriteS_3]
    simp only [t1,  Option.bind_some, w0, w1,  cLt hi, cLe0, wI (show i < 4611686018427387904 by omega), cond_true, Int.toNat_natCast, v0, v1]
    generalize eqI (List.getD (α := Int × ByteArray × Unit) a0 i (0, (ByteArray.mk #[]), ())).1 (k + 0) = p0
    generalize eqS (List.getD (α := Int × ByteArray × Unit) a0 i (0, (ByteArray.mk #[]), ())).2.1 (mkT (k + 1)) = p1
    cases p0 <;> cases p1 <;> rfl) (fun m k => by
    show lo_laws_heldWriteS_3 (m + 1) a0 k a0.length = _
    simp only [lo_laws_heldWriteS_3, tr_laws_heldWriteS_3]
    rw [cLtF]
    rfl) (fu_laws_heldWriteS_3 a0 a1 0) 0 a1 (by omega) (by simp [fu_laws_heldWriteS_3]) g0 (by omega)
  have hL' : lo_laws_heldWriteS_3 (fu_laws_heldWriteS_3 a0 a1 0) a0 a1 0 = _ := hL
  show (lo_laws_heldWriteS_3 (fu_laws_heldWriteS_3 a0 a1 0) a0 a1 0).bind _ = some ((if eqL (α := Int × ByteArray × Unit) (fun x y : Int × ByteArray × Unit => eqB (.pair (.int .i64) (.pair .str .unit)) x y) a0 (gL (fun k : Int => (k, mkT (k + 1), ())) 2 a0.length a1) = true then a1 + (a0.length : Int) * 2 else -1, ()), ())
  rw [hL', List.drop_zero]
  cases eqL (α := Int × ByteArray × Unit) (fun x y : Int × ByteArray × Unit => eqB (.pair (.int .i64) (.pair .str .unit)) x y) a0 (gL (fun k : Int => (k, mkT (k + 1), ())) 2 a0.length a1) <;> rfl
noncomputable def ou_laws_heldWriteS_3 {R : Type} (k : Kt R) : (((Int) × Unit) ⊕ ((Int) × Unit)) → Option R := (onSum (fun d => k (.exit 0) (((pa_laws_heldWriteS 3).2 2).st d) (((pa_laws_heldWriteS 3).2 2).nid)) (fun d => k .ret (((pa_laws_heldWriteS 3).2 1).st d) (((pa_laws_heldWriteS 3).2 1).nid)))
noncomputable def L_laws_heldWriteS {R : Type} : Lt R pa_laws_heldWriteS := (addL (pat := pa_laws_heldWriteS) 3 (fun d k => (lo_laws_heldWriteS_3 (fu_laws_heldWriteS_3 d.1 d.2.1 d.2.2.1) d.1 d.2.1 d.2.2.1).bind (ou_laws_heldWriteS_3 k)) noL)
theorem rd_laws_heldWriteS_3 {R : Type} (nx : (pa_laws_heldWriteS 3).1.D → Kt R → Option R) (k : Kt R) (v0 : List (Int × ByteArray × Unit)) (v1 : Int) (v5 : Int) : ev Try.prog ⟨ta_laws_heldWriteS, 0, 32, pa_laws_heldWriteS⟩ L_laws_heldWriteS co_laws_heldWriteS_3 ((pa_laws_heldWriteS 3).1.st (v0, v1, v5, ())) (pa_laws_heldWriteS 3).1.nid (roundK 0 (pa_laws_heldWriteS 3) nx k) = tr_laws_heldWriteS_3  (fun d => nx d k) (fun d => k (.exit 0) (((pa_laws_heldWriteS 3).2 2).st d) (((pa_laws_heldWriteS 3).2 2).nid)) (fun d => k .ret (((pa_laws_heldWriteS 3).2 1).st d) (((pa_laws_heldWriteS 3).2 1).nid)) v0 v1 v5 := by kernel_rfl
theorem lp_laws_heldWriteS_3 {R : Type} : ∀ (m : Nat) (d : (pa_laws_heldWriteS 3).1.D) (k : Kt R), loopN 0 (pa_laws_heldWriteS 3) (fun s nid k => ev Try.prog ⟨ta_laws_heldWriteS, 0, 32, pa_laws_heldWriteS⟩ L_laws_heldWriteS co_laws_heldWriteS_3 s nid k) m d k = (lo_laws_heldWriteS_3 m d.1 d.2.1 d.2.2.1).bind (ou_laws_heldWriteS_3 k)
  | 0, _, _ => rfl
  | m + 1, ⟨v0, v1, v5, ⟨⟩⟩, k => (rd_laws_heldWriteS_3 _ k v0 v1 v5).trans ((congrArg (fun F => tr_laws_heldWriteS_3  F (fun d => k (.exit 0) (((pa_laws_heldWriteS 3).2 2).st d) (((pa_laws_heldWriteS 3).2 2).nid)) (fun d => k .ret (((pa_laws_heldWriteS 3).2 1).st d) (((pa_laws_heldWriteS 3).2 1).nid)) v0 v1 v5) (funext fun d => lp_laws_heldWriteS_3 m d k)).trans (na_laws_heldWriteS_3 (f := ou_laws_heldWriteS_3 k)  (fun d => lo_laws_heldWriteS_3 m d.1 d.2.1 d.2.2.1) (fun d => some (.inl (d))) (fun d => some (.inr (d))) v0 v1 v5))
theorem en_laws_heldWriteS (a0 : List (Int × ByteArray × Unit)) (a1 : Int) : evalF Try.prog ta_laws_heldWriteS pa_laws_heldWriteS sg_laws_heldWriteS Try.f118 L_laws_heldWriteS (a0, a1, ()) = de_laws_heldWriteS a0 a1 := by kernel_rfl
theorem si_laws_heldWriteS : SigsOk Try.prog ta_laws_heldWriteS := SigsOk.of fun f sd h => by
  try dsimp only [Tb.of, ta_laws_heldWriteS] at h
  split at h
  · rename_i e; subst e; cases h; exact sn_laws_markText
  cases h
theorem lk_laws_heldWriteS_3 {R : Type} : LoopOk Try.prog R 32 0 pa_laws_heldWriteS L_laws_heldWriteS co_laws_heldWriteS_3 :=
  loop_key (cfg := ⟨ta_laws_heldWriteS, 0, 32, pa_laws_heldWriteS⟩) (key := 3) (by kernel_rfl) (by kernel_rfl) si_laws_heldWriteS rfl rfl (fun d k r h => ⟨fu_laws_heldWriteS_3 d.1 d.2.1 d.2.2.1, (lp_laws_heldWriteS_3 _ d k).trans h⟩) (fun c hc => by rw [show loopsIn co_laws_heldWriteS_3 = [] from by kernel_rfl] at hc; cases hc)
theorem sn_laws_heldWriteS : Callable Try.prog 118 ∧ Sound Try.prog 118 sd_laws_heldWriteS.sg sd_laws_heldWriteS.den :=
  fn_loops (pat := pa_laws_heldWriteS) L_laws_heldWriteS (by kernel_rfl) si_laws_heldWriteS Try.func118 (by kernel_rfl) (by kernel_rfl) (fun c hc => by rw [show loopsIn (bodyOf Try.f118) = [co_laws_heldWriteS_3] from by kernel_rfl] at hc; simp only [List.mem_cons, List.not_mem_nil, or_false] at hc; rcases hc with rfl <;> first | exact lk_laws_heldWriteS_3) fun x r h => by
    obtain ⟨a0, a1, ⟨⟩⟩ := x; obtain ⟨y, h1, h2⟩ := Option.bind_eq_some_iff.1 (show (m_laws_heldWriteS a0 a1).bind (fun r => some ((r, ()), (()))) = some r from h); cases h2; exact (en_laws_heldWriteS a0 a1).trans (eq_laws_heldWriteS a0 a1 _ h1)
def m_laws_heldDisk (a : (List ByteArray) × (List (Int × ByteArray × Unit)) × Unit) (k : Int) : Option Int := (heldM .str a.1 k).bind fun r0 => if r0 < 0 then some (-1) else (heldM (.pair (.int .i64) (.pair .str .unit)) a.2.1 r0).bind fun r1 =>  some (if r1 < 0 then -1 else r1)
def sg_laws_heldDisk : Sig := ⟨[.rd (.pair (.sl .str) (.pair (.sl (.pair (.int .i64) (.pair .str .unit))) .unit)), .rd (.int .i64)], [some 2, none], [.rd (.int .i64)], [none]⟩
noncomputable def sd_laws_heldDisk : SD := ⟨sg_laws_heldDisk, fun x => (m_laws_heldDisk x.1 x.2.1).bind fun r => some ((r, ()), (()))⟩
noncomputable def ta_laws_heldDisk : Tb := Tb.of fun f => if f = 117 then some sd_laws_heldStringS else if f = 118 then some sd_laws_heldWriteS else none
def pa_laws_heldDisk : Nat → Pat × (Nat → Pat) := fun k => (⟨[], [], []⟩, fun _ => ⟨[], [], []⟩)
noncomputable def de_laws_heldDisk (a0 : (List ByteArray) × (List (Int × ByteArray × Unit)) × Unit) (a1 : Int) : Option ((((Int) × Unit) × (Unit))) :=
  Option.bind (Option.bind (m_laws_heldStringS a0.fst a1) fun val => some ((val, ()), ())) fun val =>
    bif decide (val.fst.fst < 0) then some ((-1, ()), ())
    else
      Option.bind (Option.bind (m_laws_heldWriteS a0.snd.fst val.fst.fst) fun val => some ((val, ()), ())) fun val =>
        bif decide (val.fst.fst < 0) then some ((-1, ()), ()) else some ((val.fst.fst, ()), ())
theorem eq_laws_heldDisk (a0 : (List ByteArray) × (List (Int × ByteArray × Unit)) × Unit) (a1 : Int) r (h : m_laws_heldDisk a0 a1 = some r) : de_laws_heldDisk a0 a1 = some ((r, ()), (())) := by
  unfold m_laws_heldDisk at h
  unfold de_laws_heldDisk
  obtain ⟨r0, e0, h⟩ := Option.bind_eq_some_iff.1 h
  have e0 : heldM .str a0.1 a1 = some r0 := e0
  simp only [m_laws_heldStringS, m_laws_heldWriteS]
  simp only [e0, Option.bind_some]
  by_cases q0 : r0 < 0
  · simp only [if_pos q0] at h; cases h; simp only [if_pos q0, decide_eq_true q0, cond_true, show decide ((-1 : Int) < 0) = true from rfl]
  · simp only [if_neg q0] at h; simp only [if_neg q0, decide_eq_false q0, cond_false]
    obtain ⟨r1, e1, h⟩ := Option.bind_eq_some_iff.1 h
    have e1 : heldM (.pair (.int .i64) (.pair .str .unit)) a0.2.1 r0 = some r1 := e1
    simp only [e1, Option.bind_some]
    by_cases q1 : r1 < 0
    · simp only [if_pos q1] at h; cases h; simp only [if_pos q1, decide_eq_true q1, cond_true, show decide ((-1 : Int) < 0) = true from rfl]
    · simp only [if_neg q1] at h; cases h; simp only [if_neg q1, decide_eq_false q1, cond_false]
theorem en_laws_heldDisk (a0 : (List ByteArray) × (List (Int × ByteArray × Unit)) × Unit) (a1 : Int) : evalF Try.prog ta_laws_heldDisk pa_laws_heldDisk sg_laws_heldDisk Try.f36 noL (a0, a1, ()) = de_laws_heldDisk a0 a1 := by kernel_rfl
theorem si_laws_heldDisk : SigsOk Try.prog ta_laws_heldDisk := SigsOk.of fun f sd h => by
  try dsimp only [Tb.of, ta_laws_heldDisk] at h
  split at h
  · rename_i e; subst e; cases h; exact sn_laws_heldStringS
  split at h
  · rename_i e; subst e; cases h; exact sn_laws_heldWriteS
  cases h
theorem sn_laws_heldDisk : Callable Try.prog 36 ∧ Sound Try.prog 36 sd_laws_heldDisk.sg sd_laws_heldDisk.den :=
  fn_plain (pat := pa_laws_heldDisk) (by kernel_rfl) si_laws_heldDisk Try.func36 (by kernel_rfl) (by kernel_rfl) (by kernel_rfl) fun x r h => by
    obtain ⟨a0, a1, ⟨⟩⟩ := x; obtain ⟨y, h1, h2⟩ := Option.bind_eq_some_iff.1 (show (m_laws_heldDisk a0 a1).bind (fun r => some ((r, ()), (()))) = some r from h); cases h2; exact (en_laws_heldDisk a0 a1).trans (eq_laws_heldDisk a0 a1 _ h1)
def sg_laws_FnExactPerform : Sig := ⟨[.rd (.pair (.sl .str) (.pair (.sl (.pair (.int .i64) (.pair .str .unit))) .unit)), .rd (.sl (.pair .bool (.pair (.int .i64) (.pair .str .unit)))), .rd (.int .i64)], [some 2, none, none], [.rd .bool], [none]⟩
noncomputable def ta_laws_FnExactPerform : Tb := Tb.of fun f => if f = 26 then some sd_laws_szDisk else if f = 27 then some sd_laws_szOpS else if f = 28 then some sd_spec_Perform else if f = 29 then some sd_laws_toDisk else if f = 30 then some sd_laws_toOpS else if f = 31 then some sd_impl_Perform else if f = 32 then some sd_laws_eqDisk else if f = 33 then some sd_laws_eqOpS else if f = 34 then some sd_laws_markDisk else if f = 35 then some sd_laws_markOpS else if f = 36 then some sd_laws_heldDisk else none
def pa_laws_FnExactPerform : Nat → Pat × (Nat → Pat) := fun k => (⟨[], [], []⟩, fun _ => ⟨[], [], []⟩)
noncomputable def de_laws_FnExactPerform (a0 : (List ByteArray) × (List (Int × ByteArray × Unit)) × Unit) (a1 : List (Bool × Int × ByteArray × Unit)) (a2 : Int) : Option ((((Bool) × Unit) × (Unit))) :=
  Option.bind (Option.bind (m_laws_szDisk (a0.fst, a0.snd.fst, ()) 1048576) fun val => some ((val, ()), ())) fun val =>
    bif decide (val.fst.fst < 0) then some ((true, ()), ())
    else
      Option.bind (Option.bind (m_laws_szOpS a1 val.fst.fst) fun val => some ((val, ()), ())) fun val =>
        bif decide (val.fst.fst < 0) then some ((true, ()), ())
        else
          Option.bind (Option.bind (m_laws_toDisk (a0.fst, a0.snd.fst, ())) fun val => some ((val.fst, val.snd.fst, ()), ())) fun val =>
            Option.bind (Option.bind (m_laws_toOpS a1) fun val => some ((val, ()), ())) fun val_1 =>
              Option.bind (Option.bind (m_spec_Perform (val.fst.fst, val.fst.snd.fst, ()) val_1.fst.fst a2) fun val => some ((val.fst, val.snd.fst, ()), ())) fun val =>
                Option.bind (Option.bind (m_laws_toDisk (a0.fst, a0.snd.fst, ())) fun val => some ((val.fst, val.snd.fst, ()), ())) fun val_2 =>
                  Option.bind (Option.bind (m_laws_toOpS a1) fun val => some ((val, ()), ())) fun val_3 =>
                    Option.bind (Option.bind (m_impl_Perform (val_2.fst.fst, val_2.fst.snd.fst, ()) val_3.fst.fst a2) fun val => some ((val.fst, val.snd.fst, ()), ())) fun val_4 =>
                      Option.bind (Option.bind (m_laws_eqDisk (val_4.fst.fst, val_4.fst.snd.fst, ()) (val.fst.fst, val.fst.snd.fst, ())) fun val => some ((val, ()), ())) fun val_5 =>
                        bif !val_5.fst.fst then some ((false, ()), ())
                        else
                          Option.bind (Option.bind (m_laws_toDisk (a0.fst, a0.snd.fst, ())) fun val => some ((val.fst, val.snd.fst, ()), ())) fun val_6 =>
                            Option.bind (Option.bind (m_laws_eqDisk (val_2.fst.fst, val_2.fst.snd.fst, ()) (val_6.fst.fst, val_6.fst.snd.fst, ())) fun val => some ((val, ()), ())) fun val_7 =>
                              bif !val_7.fst.fst then some ((false, ()), ())
                              else
                                Option.bind (Option.bind (m_laws_toOpS a1) fun val => some ((val, ()), ())) fun val_8 =>
                                  Option.bind (Option.bind (m_laws_eqOpS val_3.fst.fst val_8.fst.fst) fun val => some ((val, ()), ())) fun val_9 =>
                                    bif !val_9.fst.fst then some ((false, ()), ())
                                    else
                                      Option.bind (Option.bind (m_laws_markDisk (val_2.fst.fst, val_2.fst.snd.fst, ()) 1) fun val => some ((val.fst, ()), val.snd.fst, val.snd.snd, ())) fun val_10 =>
                                        Option.bind (Option.bind (m_laws_markOpS val_3.fst.fst val_10.fst.fst) fun val => some ((val.fst, ()), val.snd, ())) fun val_11 =>
                                          bif decide (val_11.fst.fst < 0) then some ((false, ()), ())
                                          else
                                            Option.bind (Option.bind (m_laws_eqDisk (val_4.fst.fst, val_4.fst.snd.fst, ()) (val.fst.fst, val.fst.snd.fst, ())) fun val => some ((val, ()), ()))
                                              fun val_12 =>
                                              bif !val_12.fst.fst then some ((false, ()), ())
                                              else
                                                Option.bind (Option.bind (m_laws_markDisk (val_4.fst.fst, val_4.fst.snd.fst, ()) 1) fun val => some ((val.fst, ()), val.snd.fst, val.snd.snd, ()))
                                                  fun val_13 =>
                                                  Option.bind (Option.bind (m_laws_heldDisk (val_13.snd.fst, val_13.snd.snd.fst, ()) 1) fun val => some ((val, ()), ())) fun val_14 =>
                                                    bif decide (val_14.fst.fst < 0) then some ((false, ()), ())
                                                    else
                                                      bif val_14.fst.fst != val_13.fst.fst then some ((false, ()), ())
                                                      else
                                                        Option.bind (Option.bind (m_laws_toDisk (a0.fst, a0.snd.fst, ())) fun val => some ((val.fst, val.snd.fst, ()), ())) fun val_15 =>
                                                          Option.bind (Option.bind (m_laws_toOpS a1) fun val => some ((val, ()), ())) fun val_16 =>
                                                            Option.bind
                                                              (Option.bind (m_impl_Perform (val_15.fst.fst, val_15.fst.snd.fst, ()) val_16.fst.fst a2) fun val => some ((val.fst, val.snd.fst, ()), ()))
                                                              fun val_17 =>
                                                              Option.bind
                                                                (Option.bind (m_laws_eqDisk (val_17.fst.fst, val_17.fst.snd.fst, ()) (val.fst.fst, val.fst.snd.fst, ())) fun val => some ((val, ()), ()))
                                                                fun val =>
                                                                bif !val.fst.fst then some ((false, ()), ())
                                                                else
                                                                  Option.bind (Option.bind (m_laws_heldDisk (val_13.snd.fst, val_13.snd.snd.fst, ()) 1) fun val => some ((val, ()), ())) fun val =>
                                                                    bif decide (val.fst.fst < 0) then some ((false, ()), ())
                                                                    else bif val.fst.fst != val_13.fst.fst then some ((false, ()), ()) else some ((true, ()), ())
noncomputable def sd_laws_FnExactPerform : SD := ⟨sg_laws_FnExactPerform, fun x => de_laws_FnExactPerform x.1 x.2.1 x.2.2.1⟩
theorem law_FnExactPerform (a0 : (List ByteArray) × (List (Int × ByteArray × Unit)) × Unit)  (a1 : List (Bool × Int × ByteArray × Unit))  (a2 : Int) (h0 : FineD (.pair (.sl .str) (.pair (.sl (.pair (.int .i64) (.pair .str .unit))) .unit)) a0) (h1 : FineD (.sl (.pair .bool (.pair (.int .i64) (.pair .str .unit)))) a1) (h2 : FineD (.int .i64) a2) : de_laws_FnExactPerform a0 a1 a2 = some ((true, ()), ()) := by
  have hf0 := fine_of h0
  have hf1 := fine_of h1
  have hf2 := fine_of h2
  unfold de_laws_FnExactPerform
  rcases sz_cases (l0 := 1048576) hf0 (by first | decide | assumption) (by first | decide | assumption) (m := m_laws_szDisk (a0.fst, a0.snd.fst, ()) 1048576) rfl with e0 | ⟨l0, e0, g0, k0, s0, q0⟩
  · simp only [e0, Option.bind_some, lt_m1, cond_true, cond_false]
  · skip
    rcases sz_cases (l0 := l0) hf1 (by first | decide | assumption) (by first | decide | assumption) (m := m_laws_szOpS a1 l0) rfl with e1 | ⟨l1, e1, g1, k1, s1, q1⟩
    · simp only [e0, q0, e1, Option.bind_some, lt_m1, cond_true, cond_false]
    · skip
      have t0 : m_laws_toDisk (a0.fst, a0.snd.fst, ()) = some (a0.fst, a0.snd.fst, ()) := toM_is (t := (.pair (.sl .str) (.pair (.sl (.pair (.int .i64) (.pair .str .unit))) .unit))) (x := a0) s0
      have u0 : m_laws_eqDisk (a0.fst, a0.snd.fst, ()) (a0.fst, a0.snd.fst, ()) = some true := eqM_self (t := (.pair (.sl .str) (.pair (.sl (.pair (.int .i64) (.pair .str .unit))) .unit))) (x := a0) hf0
      have t1 : m_laws_toOpS a1 = some a1 := toM_is (t := (.sl (.pair .bool (.pair (.int .i64) (.pair .str .unit))))) (x := a1) s1
      have u1 : m_laws_eqOpS a1 a1 = some true := eqM_self (t := (.sl (.pair .bool (.pair (.int .i64) (.pair .str .unit))))) (x := a1) hf1
      have gi : m_impl_Perform (a0.fst, a0.snd.fst, ()) a1 a2 = some (performS (a0.fst, a0.snd.fst, ()) a1 a2) := if_pos (Nat.le_trans (smallB_sl s1).1 (by decide))
      have gw : m_spec_Perform (a0.fst, a0.snd.fst, ()) a1 a2 = some (performS (a0.fst, a0.snd.fst, ()) a1 a2) := if_pos (Nat.le_trans (smallB_sl s1).1 (by decide))
      have gg0 : goodB (.pair (.sl .str) (.pair (.sl (.pair (.int .i64) (.pair .str .unit))) .unit)) (performS (a0.fst, a0.snd.fst, ()) a1 a2) = true := performS_good _ _ _
      simp only [e0, q0, e1, q1, t0, u0, t1, u1, Option.bind_some, cond_false, gw, gi]
      generalize performS (a0.fst, a0.snd.fst, ()) a1 a2 = g at *
      have v0 : m_laws_eqDisk (g.fst, g.snd.fst, ()) (g.fst, g.snd.fst, ()) = some true := eqM_self (t := (.pair (.sl .str) (.pair (.sl (.pair (.int .i64) (.pair .str .unit))) .unit))) (x := g) (good_fine gg0)
      have Lx0 := s0
      simp only [smallB, goodB, Bool.and_eq_true, decide_eq_true_eq, and_true, true_and] at Lx0
      obtain ⟨kx0_0, yx0_0, mx0_0, bx0_0, cx0_0, dx0_0⟩ : ∃ (k2 : Int) (ys : List (ByteArray)), markM .str a0.fst 1 = (some (k2, ys) : Option (Int × List (ByteArray))) ∧ 1 ≤ k2 ∧ k2 ≤ 1 + 1073741824 * ((1 : Nat) : Int) ∧ heldM .str ys 1 = some k2 := mk_ex (t := .str) (xs := a0.fst) (k := 1) 1 rfl (by omega) (by omega) (by omega)
      obtain ⟨kx0_1, yx0_1, mx0_1, bx0_1, cx0_1, dx0_1⟩ : ∃ (k2 : Int) (ys : List (Int × ByteArray × Unit)), markM (.pair (.int .i64) (.pair .str .unit)) a0.snd.fst kx0_0 = (some (k2, ys) : Option (Int × List (Int × ByteArray × Unit))) ∧ kx0_0 ≤ k2 ∧ k2 ≤ kx0_0 + 1073741824 * ((2 : Nat) : Int) ∧ heldM (.pair (.int .i64) (.pair .str .unit)) ys kx0_0 = some k2 := mk_ex (t := (.pair (.int .i64) (.pair .str .unit))) (xs := a0.snd.fst) (k := kx0_0) 2 rfl (by omega) (by omega) (by omega)
      have mkx0 : m_laws_markDisk (a0.fst, a0.snd.fst, ()) 1 = some (kx0_1, yx0_0, yx0_1) := bi_ mx0_0 (bi_ mx0_1 (rfl))
      have Lx1 := s1
      simp only [smallB, goodB, Bool.and_eq_true, decide_eq_true_eq, and_true, true_and] at Lx1
      obtain ⟨kx1_0, yx1_0, mx1_0, bx1_0, cx1_0, dx1_0⟩ : ∃ (k2 : Int) (ys : List (Bool × Int × ByteArray × Unit)), markM (.pair .bool (.pair (.int .i64) (.pair .str .unit))) a1 kx0_1 = (some (k2, ys) : Option (Int × List (Bool × Int × ByteArray × Unit))) ∧ kx0_1 ≤ k2 ∧ k2 ≤ kx0_1 + 1073741824 * ((3 : Nat) : Int) ∧ heldM (.pair .bool (.pair (.int .i64) (.pair .str .unit))) ys kx0_1 = some k2 := mk_ex (t := (.pair .bool (.pair (.int .i64) (.pair .str .unit)))) (xs := a1) (k := kx0_1) 3 rfl (by omega) (by omega) (by omega)
      have mkx1 : m_laws_markOpS a1 kx0_1 = some (kx1_0, yx1_0) := mx1_0
      have nkx : decide (kx1_0 < 0) = false := decide_eq_false (by omega)
      have Lz0 := gg0
      simp only [smallB, goodB, Bool.and_eq_true, decide_eq_true_eq, and_true, true_and] at Lz0
      obtain ⟨kz0_0, yz0_0, mz0_0, bz0_0, cz0_0, dz0_0⟩ : ∃ (k2 : Int) (ys : List (ByteArray)), markM .str g.fst 1 = (some (k2, ys) : Option (Int × List (ByteArray))) ∧ 1 ≤ k2 ∧ k2 ≤ 1 + 1073741824 * ((1 : Nat) : Int) ∧ heldM .str ys 1 = some k2 := mk_ex (t := .str) (xs := g.fst) (k := 1) 1 rfl (by omega) (by omega) (by omega)
      obtain ⟨kz0_1, yz0_1, mz0_1, bz0_1, cz0_1, dz0_1⟩ : ∃ (k2 : Int) (ys : List (Int × ByteArray × Unit)), markM (.pair (.int .i64) (.pair .str .unit)) g.snd.fst kz0_0 = (some (k2, ys) : Option (Int × List (Int × ByteArray × Unit))) ∧ kz0_0 ≤ k2 ∧ k2 ≤ kz0_0 + 1073741824 * ((2 : Nat) : Int) ∧ heldM (.pair (.int .i64) (.pair .str .unit)) ys kz0_0 = some k2 := mk_ex (t := (.pair (.int .i64) (.pair .str .unit))) (xs := g.snd.fst) (k := kz0_0) 2 rfl (by omega) (by omega) (by omega)
      have mkz0 : m_laws_markDisk (g.fst, g.snd.fst, ()) 1 = some (kz0_1, yz0_0, yz0_1) := bi_ mz0_0 (bi_ mz0_1 (rfl))
      have nnz0_0 : ¬ kz0_0 < 0 := by omega
      have nnz0_1 : ¬ kz0_1 < 0 := by omega
      have hdz0 : m_laws_heldDisk (yz0_0, yz0_1, ()) 1 = some kz0_1 := bi_ dz0_0 ((if_neg nnz0_0).trans (bi_ dz0_1 (congrArg some (if_neg nnz0_1))))
      have nkz : decide (kz0_1 < 0) = false := decide_eq_false (by omega)
      simp only [e0, q0, e1, q1, t0, u0, t1, u1, v0, mkx0, mkx1, nkx, mkz0, hdz0, nkz, Option.bind_some, cond_false, cond_true, beq_self_eq_true, bne_self_eq_false, Bool.not_true, Bool.or_self, Bool.false_or]
theorem en_laws_FnExactPerform (a0 : (List ByteArray) × (List (Int × ByteArray × Unit)) × Unit) (a1 : List (Bool × Int × ByteArray × Unit)) (a2 : Int) : evalF Try.prog ta_laws_FnExactPerform pa_laws_FnExactPerform sg_laws_FnExactPerform Try.f5 noL (a0, a1, a2, ()) = de_laws_FnExactPerform a0 a1 a2 := by kernel_rfl
theorem si_laws_FnExactPerform : SigsOk Try.prog ta_laws_FnExactPerform := SigsOk.of fun f sd h => by
  try dsimp only [Tb.of, ta_laws_FnExactPerform] at h
  split at h
  · rename_i e; subst e; cases h; exact sn_laws_szDisk
  split at h
  · rename_i e; subst e; cases h; exact sn_laws_szOpS
  split at h
  · rename_i e; subst e; cases h; exact sn_spec_Perform
  split at h
  · rename_i e; subst e; cases h; exact sn_laws_toDisk
  split at h
  · rename_i e; subst e; cases h; exact sn_laws_toOpS
  split at h
  · rename_i e; subst e; cases h; exact sn_impl_Perform
  split at h
  · rename_i e; subst e; cases h; exact sn_laws_eqDisk
  split at h
  · rename_i e; subst e; cases h; exact sn_laws_eqOpS
  split at h
  · rename_i e; subst e; cases h; exact sn_laws_markDisk
  split at h
  · rename_i e; subst e; cases h; exact sn_laws_markOpS
  split at h
  · rename_i e; subst e; cases h; exact sn_laws_heldDisk
  cases h
theorem sn_laws_FnExactPerform : Callable Try.prog 5 ∧ Sound Try.prog 5 sd_laws_FnExactPerform.sg sd_laws_FnExactPerform.den :=
  fn_plain (pat := pa_laws_FnExactPerform) (by kernel_rfl) si_laws_FnExactPerform Try.func5 (by kernel_rfl) (by kernel_rfl) (by kernel_rfl) fun x r h => by
    obtain ⟨a0, a1, a2, ⟨⟩⟩ := x; exact (en_laws_FnExactPerform a0 a1 a2).trans h
end Go.Proofs.Ytjoiklaecelalaa.V
