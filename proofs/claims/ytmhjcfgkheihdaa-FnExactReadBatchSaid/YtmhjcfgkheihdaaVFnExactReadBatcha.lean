/- What the functions that FnExactReadBatch reaches come to: part 1. No condition. -/
import Derived.Test.YtmhjcfgkheihdaaQBase
import Derived.Test.YtmhjcfgkheihdaaTLay
import Derived.Test.YtmhjcfgkheihdaaProg
import Derived.KernelRfl
namespace Go.Proofs.Ytmhjcfgkheihdaa.V
open Go Go.Proofs.Ytmhjcfgkheihdaa.R Go.Proofs
set_option maxRecDepth 100000
set_option linter.unusedVariables false
set_option linter.unusedSimpArgs false
def m_laws_eqChange (a b : ByteArray × ByteArray × Bool × Unit) : Option Bool := eqM (.pair .str (.pair .str (.pair .bool .unit))) a b
def sg_laws_eqChange : Sig := ⟨[.rd (.pair .str (.pair .str (.pair .bool .unit))), .rd (.pair .str (.pair .str (.pair .bool .unit)))], [some 3, some 3], [.rd .bool], [none]⟩
noncomputable def sd_laws_eqChange : SD := ⟨sg_laws_eqChange, fun x => (m_laws_eqChange x.1 x.2.1).bind fun r => some ((r, ()), (()))⟩
noncomputable def ta_laws_eqChange : Tb := Tb.of fun f => none
def pa_laws_eqChange : Nat → Pat × (Nat → Pat) := fun k => (⟨[], [], []⟩, fun _ => ⟨[], [], []⟩)
noncomputable def de_laws_eqChange (a0 : ByteArray × ByteArray × Bool × Unit) (a1 : ByteArray × ByteArray × Bool × Unit) : Option ((((Bool) × Unit) × (Unit))) :=
  bif !ByteArray.toList a0.fst == ByteArray.toList a1.fst then some ((false, ()), ())
  else bif !ByteArray.toList a0.snd.fst == ByteArray.toList a1.snd.fst then some ((false, ()), ()) else bif !a0.snd.snd.fst == a1.snd.snd.fst then some ((false, ()), ()) else some ((true, ()), ())
theorem eq_laws_eqChange (a0 : ByteArray × ByteArray × Bool × Unit) (a1 : ByteArray × ByteArray × Bool × Unit) r (h : m_laws_eqChange a0 a1 = some r) : de_laws_eqChange a0 a1 = some ((r, ()), (())) := by
  obtain ⟨hc, hd, rfl⟩ := eqM_some (t := (.pair .str (.pair .str (.pair .bool .unit)))) h
  obtain ⟨hc0, hc1, hc2, _⟩ : fineB .str a0.1 = true ∧ fineB .str a0.2.1 = true ∧ fineB .bool a0.2.2.1 = true ∧ True := by
    have s := hc
    obtain ⟨h0, s⟩ := fineB_pair s
    obtain ⟨h1, s⟩ := fineB_pair s
    obtain ⟨h2, s⟩ := fineB_pair s
    exact ⟨h0, h1, h2, trivial⟩
  obtain ⟨hd0, hd1, hd2, _⟩ : fineB .str a1.1 = true ∧ fineB .str a1.2.1 = true ∧ fineB .bool a1.2.2.1 = true ∧ True := by
    have s := hd
    obtain ⟨h0, s⟩ := fineB_pair s
    obtain ⟨h1, s⟩ := fineB_pair s
    obtain ⟨h2, s⟩ := fineB_pair s
    exact ⟨h0, h1, h2, trivial⟩
  unfold de_laws_eqChange
  have e0 : (!(ByteArray.toList a0.1 == ByteArray.toList a1.1)) = !eqS a0.1 a1.1 := rfl
  have e1 : (!(ByteArray.toList a0.2.1 == ByteArray.toList a1.2.1)) = !eqS a0.2.1 a1.2.1 := rfl
  have e2 : (!(a0.2.2.1 == a1.2.2.1)) = !eqO a0.2.2.1 a1.2.2.1 := rfl
  simp only [e0, e1, e2, Option.bind_some]
  show _ = some (((eqS a0.1 a1.1 && (eqS a0.2.1 a1.2.1 && (eqO a0.2.2.1 a1.2.2.1 && true))), ()), ())
  generalize eqS a0.1 a1.1 = p0
  generalize eqS a0.2.1 a1.2.1 = p1
  generalize eqO a0.2.2.1 a1.2.2.1 = p2
  cases p0 <;> cases p1 <;> cases p2 <;> rfl
theorem en_laws_eqChange (a0 : ByteArray × ByteArray × Bool × Unit) (a1 : ByteArray × ByteArray × Bool × Unit) : evalF Try.prog ta_laws_eqChange pa_laws_eqChange sg_laws_eqChange Try.f86 noL (a0, a1, ()) = de_laws_eqChange a0 a1 := by kernel_rfl
theorem si_laws_eqChange : SigsOk Try.prog ta_laws_eqChange := SigsOk.of fun f sd h => by
  try dsimp only [Tb.of, ta_laws_eqChange] at h
  cases h
theorem sn_laws_eqChange : Callable Try.prog 86 ∧ Sound Try.prog 86 sd_laws_eqChange.sg sd_laws_eqChange.den :=
  fn_plain (pat := pa_laws_eqChange) (by kernel_rfl) si_laws_eqChange Try.func86 (by kernel_rfl) (by kernel_rfl) (by kernel_rfl) fun x r h => by
    obtain ⟨a0, a1, ⟨⟩⟩ := x; obtain ⟨y, h1, h2⟩ := Option.bind_eq_some_iff.1 (show (m_laws_eqChange a0 a1).bind (fun r => some ((r, ()), (()))) = some r from h); cases h2; exact (en_laws_eqChange a0 a1).trans (eq_laws_eqChange a0 a1 _ h1)
def m_laws_eqChangeS (a b : List (ByteArray × ByteArray × Bool × Unit)) : Option Bool := eqM (.sl (.pair .str (.pair .str (.pair .bool .unit)))) a b
def sg_laws_eqChangeS : Sig := ⟨[.rd (.sl (.pair .str (.pair .str (.pair .bool .unit)))), .rd (.sl (.pair .str (.pair .str (.pair .bool .unit))))], [none, none], [.rd .bool], [none]⟩
noncomputable def sd_laws_eqChangeS : SD := ⟨sg_laws_eqChangeS, fun x => (m_laws_eqChangeS x.1 x.2.1).bind fun r => some ((r, ()), (()))⟩
noncomputable def ta_laws_eqChangeS : Tb := Tb.of fun f => if f = 86 then some sd_laws_eqChange else none
def pa_laws_eqChangeS : Nat → Pat × (Nat → Pat) := fun k => if k = 5 then (⟨[.sl 0 0 (.pair .str (.pair .str (.pair .bool .unit))), .sl 1 0 (.pair .str (.pair .str (.pair .bool .unit)))], [(0, .lf (.d (.sl (.pair .str (.pair .str (.pair .bool .unit)))))), (1, .lf (.d (.sl (.pair .str (.pair .str (.pair .bool .unit)))))), (5, .lf (.d (.int .i64)))], []⟩, fun e => if e = 1 then ⟨[], [(4, .lf (.d .bool))], []⟩ else if e = 2 then ⟨[], [], []⟩ else ⟨[], [], []⟩) else (⟨[], [], []⟩, fun _ => ⟨[], [], []⟩)
noncomputable def co_laws_eqChangeS_5 : Code := (loopsIn (bodyOf Try.f32)).getD 0 .skip
def fu_laws_eqChangeS_5 (v0 : List (ByteArray × ByteArray × Bool × Unit)) (v1 : List (ByteArray × ByteArray × Bool × Unit)) (v5 : Int) : Nat := ((v0.length : Int) - v5).toNat + 1
noncomputable def tr_laws_eqChangeS_5 {R : Type}  (NX : ((List (ByteArray × ByteArray × Bool × Unit)) × (List (ByteArray × ByteArray × Bool × Unit)) × (Int) × Unit) → Option R) (X2 : (Unit) → Option R) (X1 : ((Bool) × Unit) → Option R) (v0 : List (ByteArray × ByteArray × Bool × Unit)) (v1 : List (ByteArray × ByteArray × Bool × Unit)) (v5 : Int) : Option R :=
  bif decide (v5 < nI (List.length v0)) then
    bif decide (0 ≤ v5) then
      bif decide (v5 < nI (List.length v0)) then
        bif decide (0 ≤ v5) then
          bif decide (v5 < nI (List.length v1)) then
            Option.bind
              (Option.bind
                (m_laws_eqChange
                  ((List.getD v0 (Int.toNat v5) (ByteArray.mk #[], ByteArray.mk #[], false, ())).fst, (List.getD v0 (Int.toNat v5) (ByteArray.mk #[], ByteArray.mk #[], false, ())).snd.fst,
                    (List.getD v0 (Int.toNat v5) (ByteArray.mk #[], ByteArray.mk #[], false, ())).snd.snd.fst, ())
                  ((List.getD v1 (Int.toNat v5) (ByteArray.mk #[], ByteArray.mk #[], false, ())).fst, (List.getD v1 (Int.toNat v5) (ByteArray.mk #[], ByteArray.mk #[], false, ())).snd.fst,
                    (List.getD v1 (Int.toNat v5) (ByteArray.mk #[], ByteArray.mk #[], false, ())).snd.snd.fst, ()))
                fun val => some ((val, ()), ()))
              fun val => bif !val.fst.fst then X1 (false, ()) else NX (v0, v1, IntKind.wrap IntKind.i64 (v5 + 1), ())
          else none
        else none
      else none
    else none
  else X2 PUnit.unit
noncomputable def lo_laws_eqChangeS_5 : Nat → (List (ByteArray × ByteArray × Bool × Unit)) → (List (ByteArray × ByteArray × Bool × Unit)) → (Int) →  Option ((Unit) ⊕ ((Bool) × Unit))
  | 0, _, _, _ => none
  | m + 1, v0, v1, v5 => tr_laws_eqChangeS_5  (fun d => lo_laws_eqChangeS_5 m d.1 d.2.1 d.2.2.1) (fun d => some (.inl (d))) (fun d => some (.inr (d))) v0 v1 v5
theorem na_laws_eqChangeS_5 {R S : Type}  (NX : ((List (ByteArray × ByteArray × Bool × Unit)) × (List (ByteArray × ByteArray × Bool × Unit)) × (Int) × Unit) → Option R) (X2 : (Unit) → Option R) (X1 : ((Bool) × Unit) → Option R) (v0 : List (ByteArray × ByteArray × Bool × Unit)) (v1 : List (ByteArray × ByteArray × Bool × Unit)) (v5 : Int) (f : R → Option S) : tr_laws_eqChangeS_5  (fun d => (NX d).bind f) (fun d => (X2 d).bind f) (fun d => (X1 d).bind f) v0 v1 v5 = (tr_laws_eqChangeS_5  NX X2 X1 v0 v1 v5).bind f := by
  unfold tr_laws_eqChangeS_5
  simp only [cond_bind, ite_bind, onSum_bind, Option.bind_assoc, Option.bind_none, Option.bind_some]
noncomputable def de_laws_eqChangeS (a0 : List (ByteArray × ByteArray × Bool × Unit)) (a1 : List (ByteArray × ByteArray × Bool × Unit)) : Option ((((Bool) × Unit) × (Unit))) :=
  bif nI (List.length a0) != nI (List.length a1) then some ((false, ()), ())
  else Option.bind ((fun d => lo_laws_eqChangeS_5 (fu_laws_eqChangeS_5 d.1 d.2.1 d.2.2.1) d.1 d.2.1 d.2.2.1) (a0, a1, 0, ())) fun val => onSum (fun val => some ((true, ()), ())) (fun val => some ((val.fst, ()), ())) val
theorem eq_laws_eqChangeS (a0 : List (ByteArray × ByteArray × Bool × Unit)) (a1 : List (ByteArray × ByteArray × Bool × Unit)) r (h : m_laws_eqChangeS a0 a1 = some r) : de_laws_eqChangeS a0 a1 = some ((r, ()), (())) := by
  obtain ⟨hc, hd, rfl⟩ := eqM_some (t := .sl (.pair .str (.pair .str (.pair .bool .unit)))) h
  obtain ⟨hlx0, hx⟩ := fineB_sl hc
  obtain ⟨hly0, hy⟩ := fineB_sl hd
  have hlx : a0.length < 1152921504606846976 := hlx0
  have hly : a1.length < 1152921504606846976 := hly0
  clear hlx0 hly0 hc hd h
  · unfold de_laws_eqChangeS
    by_cases hl : a1.length = a0.length
    · have c1 : (nI a0.length != nI a1.length) = false := by simp [nI, hl]
      have hL := eq_loop (xs := a0) (ys := a1) ((ByteArray.mk #[]), (ByteArray.mk #[]), false, ()) (fun x y : ByteArray × ByteArray × Bool × Unit => eqB (.pair .str (.pair .str (.pair .bool .unit))) x y) (g := fun m i => lo_laws_eqChangeS_5 m a0 a1 i) (ok := .inl ()) (bad := .inr (false, ())) hl (fun m i hi => by
        show lo_laws_eqChangeS_5 (m + 1) a0 a1 i = _
        simp only [lo_laws_eqChangeS_5, tr_laws_eqChangeS_5]
        rw [cLt hi, cLe0, cLt (show i < a1.length by omega), wI (by omega)]
        simp only [cond_true, Int.toNat_natCast]
        have f1 : fineB (.pair .str (.pair .str (.pair .bool .unit))) (List.getD (α := ByteArray × ByteArray × Bool × Unit) a0 i ((ByteArray.mk #[]), (ByteArray.mk #[]), false, ())) = true := hx _ (getD_mem ((ByteArray.mk #[]), (ByteArray.mk #[]), false, ()) hi)
        have f2 : fineB (.pair .str (.pair .str (.pair .bool .unit))) (List.getD (α := ByteArray × ByteArray × Bool × Unit) a1 i ((ByteArray.mk #[]), (ByteArray.mk #[]), false, ())) = true := hy _ (getD_mem ((ByteArray.mk #[]), (ByteArray.mk #[]), false, ()) (by omega))
        have hE : m_laws_eqChange ((List.getD (α := ByteArray × ByteArray × Bool × Unit) a0 i ((ByteArray.mk #[]), (ByteArray.mk #[]), false, ())).fst, (List.getD (α := ByteArray × ByteArray × Bool × Unit) a0 i ((ByteArray.mk #[]), (ByteArray.mk #[]), false, ())).snd.fst, (List.getD (α := ByteArray × ByteArray × Bool × Unit) a0 i ((ByteArray.mk #[]), (ByteArray.mk #[]), false, ())).snd.snd.fst, ()) ((List.getD (α := ByteArray × ByteArray × Bool × Unit) a1 i ((ByteArray.mk #[]), (ByteArray.mk #[]), false, ())).fst, (List.getD (α := ByteArray × ByteArray × Bool × Unit) a1 i ((ByteArray.mk #[]), (ByteArray.mk #[]), false, ())).snd.fst, (List.getD (α := ByteArray × ByteArray × Bool × Unit) a1 i ((ByteArray.mk #[]), (ByteArray.mk #[]), false, ())).snd.snd.fst, ()) = some (eqB (.pair .str (.pair .str (.pair .bool .unit))) (List.getD (α := ByteArray × ByteArray × Bool × Unit) a0 i ((ByteArray.mk #[]), (ByteArray.mk #[]), false, ())) (List.getD (α := ByteArray × ByteArray × Bool × Unit) a1 i ((ByteArray.mk #[]), (ByteArray.mk #[]), false, ()))) := by
          exact eqM_is (t := (.pair .str (.pair .str (.pair .bool .unit)))) (x := (List.getD (α := ByteArray × ByteArray × Bool × Unit) a0 i ((ByteArray.mk #[]), (ByteArray.mk #[]), false, ()))) (y := (List.getD (α := ByteArray × ByteArray × Bool × Unit) a1 i ((ByteArray.mk #[]), (ByteArray.mk #[]), false, ()))) f1 f2
        rw [hE]
        cases q : eqB (.pair .str (.pair .str (.pair .bool .unit))) (List.getD (α := ByteArray × ByteArray × Bool × Unit) a0 i ((ByteArray.mk #[]), (ByteArray.mk #[]), false, ())) (List.getD (α := ByteArray × ByteArray × Bool × Unit) a1 i ((ByteArray.mk #[]), (ByteArray.mk #[]), false, ())) <;> simp only [Option.bind_some, q] <;> rfl) (fun m => by
        show lo_laws_eqChangeS_5 (m + 1) a0 a1 a0.length = _
        simp only [lo_laws_eqChangeS_5, tr_laws_eqChangeS_5]
        rw [cLtF]
        rfl) (fu_laws_eqChangeS_5 a0 a1 0) 0 (by omega) (by simp [fu_laws_eqChangeS_5])
      rw [c1]
      have hL' : lo_laws_eqChangeS_5 (fu_laws_eqChangeS_5 a0 a1 0) a0 a1 0 = _ := hL
      show (lo_laws_eqChangeS_5 (fu_laws_eqChangeS_5 a0 a1 0) a0 a1 0).bind _ = some ((eqL (α := ByteArray × ByteArray × Bool × Unit) (fun x y : ByteArray × ByteArray × Bool × Unit => eqB (.pair .str (.pair .str (.pair .bool .unit))) x y) a0 a1, ()), ())
      rw [hL', List.drop_zero, List.drop_zero]
      cases eqL (α := ByteArray × ByteArray × Bool × Unit) (fun x y : ByteArray × ByteArray × Bool × Unit => eqB (.pair .str (.pair .str (.pair .bool .unit))) x y) a0 a1 <;> rfl
    · have c1 : (nI a0.length != nI a1.length) = true := by simp [nI]; omega
      rw [c1]
      show _ = some ((eqL (α := ByteArray × ByteArray × Bool × Unit) (fun x y : ByteArray × ByteArray × Bool × Unit => eqB (.pair .str (.pair .str (.pair .bool .unit))) x y) a0 a1, ()), ())
      rw [eqL_len (fun q => hl q.symm)]
      rfl
noncomputable def ou_laws_eqChangeS_5 {R : Type} (k : Kt R) : ((Unit) ⊕ ((Bool) × Unit)) → Option R := (onSum (fun d => k (.exit 0) (((pa_laws_eqChangeS 5).2 2).st d) (((pa_laws_eqChangeS 5).2 2).nid)) (fun d => k .ret (((pa_laws_eqChangeS 5).2 1).st d) (((pa_laws_eqChangeS 5).2 1).nid)))
noncomputable def L_laws_eqChangeS {R : Type} : Lt R pa_laws_eqChangeS := (addL (pat := pa_laws_eqChangeS) 5 (fun d k => (lo_laws_eqChangeS_5 (fu_laws_eqChangeS_5 d.1 d.2.1 d.2.2.1) d.1 d.2.1 d.2.2.1).bind (ou_laws_eqChangeS_5 k)) noL)
theorem rd_laws_eqChangeS_5 {R : Type} (nx : (pa_laws_eqChangeS 5).1.D → Kt R → Option R) (k : Kt R) (v0 : List (ByteArray × ByteArray × Bool × Unit)) (v1 : List (ByteArray × ByteArray × Bool × Unit)) (v5 : Int) : ev Try.prog ⟨ta_laws_eqChangeS, 0, 27, pa_laws_eqChangeS⟩ L_laws_eqChangeS co_laws_eqChangeS_5 ((pa_laws_eqChangeS 5).1.st (v0, v1, v5, ())) (pa_laws_eqChangeS 5).1.nid (roundK 0 (pa_laws_eqChangeS 5) nx k) = tr_laws_eqChangeS_5  (fun d => nx d k) (fun d => k (.exit 0) (((pa_laws_eqChangeS 5).2 2).st d) (((pa_laws_eqChangeS 5).2 2).nid)) (fun d => k .ret (((pa_laws_eqChangeS 5).2 1).st d) (((pa_laws_eqChangeS 5).2 1).nid)) v0 v1 v5 := by kernel_rfl
theorem lp_laws_eqChangeS_5 {R : Type} : ∀ (m : Nat) (d : (pa_laws_eqChangeS 5).1.D) (k : Kt R), loopN 0 (pa_laws_eqChangeS 5) (fun s nid k => ev Try.prog ⟨ta_laws_eqChangeS, 0, 27, pa_laws_eqChangeS⟩ L_laws_eqChangeS co_laws_eqChangeS_5 s nid k) m d k = (lo_laws_eqChangeS_5 m d.1 d.2.1 d.2.2.1).bind (ou_laws_eqChangeS_5 k)
  | 0, _, _ => rfl
  | m + 1, ⟨v0, v1, v5, ⟨⟩⟩, k => (rd_laws_eqChangeS_5 _ k v0 v1 v5).trans ((congrArg (fun F => tr_laws_eqChangeS_5  F (fun d => k (.exit 0) (((pa_laws_eqChangeS 5).2 2).st d) (((pa_laws_eqChangeS 5).2 2).nid)) (fun d => k .ret (((pa_laws_eqChangeS 5).2 1).st d) (((pa_laws_eqChangeS 5).2 1).nid)) v0 v1 v5) (funext fun d => lp_laws_eqChangeS_5 m d k)).trans (na_laws_eqChangeS_5 (f := ou_laws_eqChangeS_5 k)  (fun d => lo_laws_eqChangeS_5 m d.1 d.2.1 d.2.2.1) (fun d => some (.inl (d))) (fun d => some (.inr (d))) v0 v1 v5))
theorem en_laws_eqChangeS (a0 : List (ByteArray × ByteArray × Bool × Unit)) (a1 : List (ByteArray × ByteArray × Bool × Unit)) : evalF Try.prog ta_laws_eqChangeS pa_laws_eqChangeS sg_laws_eqChangeS Try.f32 L_laws_eqChangeS (a0, a1, ()) = de_laws_eqChangeS a0 a1 := by kernel_rfl
theorem si_laws_eqChangeS : SigsOk Try.prog ta_laws_eqChangeS := SigsOk.of fun f sd h => by
  try dsimp only [Tb.of, ta_laws_eqChangeS] at h
  split at h
  · rename_i e; subst e; cases h; exact sn_laws_eqChange
  cases h
theorem lk_laws_eqChangeS_5 {R : Type} : LoopOk Try.prog R 27 0 pa_laws_eqChangeS L_laws_eqChangeS co_laws_eqChangeS_5 :=
  loop_key (cfg := ⟨ta_laws_eqChangeS, 0, 27, pa_laws_eqChangeS⟩) (key := 5) (by kernel_rfl) (by kernel_rfl) si_laws_eqChangeS rfl rfl (fun d k r h => ⟨fu_laws_eqChangeS_5 d.1 d.2.1 d.2.2.1, (lp_laws_eqChangeS_5 _ d k).trans h⟩) (fun c hc => by rw [show loopsIn co_laws_eqChangeS_5 = [] from by kernel_rfl] at hc; cases hc)
theorem sn_laws_eqChangeS : Callable Try.prog 32 ∧ Sound Try.prog 32 sd_laws_eqChangeS.sg sd_laws_eqChangeS.den :=
  fn_loops (pat := pa_laws_eqChangeS) L_laws_eqChangeS (by kernel_rfl) si_laws_eqChangeS Try.func32 (by kernel_rfl) (by kernel_rfl) (fun c hc => by rw [show loopsIn (bodyOf Try.f32) = [co_laws_eqChangeS_5] from by kernel_rfl] at hc; simp only [List.mem_cons, List.not_mem_nil, or_false] at hc; rcases hc with rfl <;> first | exact lk_laws_eqChangeS_5) fun x r h => by
    obtain ⟨a0, a1, ⟨⟩⟩ := x; obtain ⟨y, h1, h2⟩ := Option.bind_eq_some_iff.1 (show (m_laws_eqChangeS a0 a1).bind (fun r => some ((r, ()), (()))) = some r from h); cases h2; exact (en_laws_eqChangeS a0 a1).trans (eq_laws_eqChangeS a0 a1 _ h1)
def m_spec_l4KeyOk (k : ByteArray) : Bool := keyOk k
def sg_spec_l4KeyOk : Sig := ⟨[.rd .str], [none], [.rd .bool], [none]⟩
noncomputable def sd_spec_l4KeyOk : SD := ⟨sg_spec_l4KeyOk, fun x => some (((m_spec_l4KeyOk x.1), ()), (()))⟩
noncomputable def ta_spec_l4KeyOk : Tb := Tb.of fun f => none
def pa_spec_l4KeyOk : Nat → Pat × (Nat → Pat) := fun k => (⟨[], [], []⟩, fun _ => ⟨[], [], []⟩)
noncomputable def de_spec_l4KeyOk (a0 : ByteArray) : Option ((((Bool) × Unit) × (Unit))) :=
  bif decide (nI (ByteArray.size a0) ≥ 1) then some ((decide (nI (ByteArray.size a0) ≤ 20), ()), ()) else some ((false, ()), ())
theorem eq_spec_l4KeyOk (a0 : ByteArray) : de_spec_l4KeyOk a0 = some ((m_spec_l4KeyOk a0, ()), ()) := by
  unfold de_spec_l4KeyOk m_spec_l4KeyOk keyOk inB
  by_cases h : (a0.size : Int) ≥ 1
  · have : decide ((1 : Int) ≤ (a0.size : Int)) = true := by simpa using h
    simp [nI, this]
  · have h' : ¬ (1 : Int) ≤ (a0.size : Int) := h
    simp [nI, h']
theorem en_spec_l4KeyOk (a0 : ByteArray) : evalF Try.prog ta_spec_l4KeyOk pa_spec_l4KeyOk sg_spec_l4KeyOk Try.f67 noL (a0, ()) = de_spec_l4KeyOk a0 := by kernel_rfl
theorem si_spec_l4KeyOk : SigsOk Try.prog ta_spec_l4KeyOk := SigsOk.of fun f sd h => by
  try dsimp only [Tb.of, ta_spec_l4KeyOk] at h
  cases h
theorem sn_spec_l4KeyOk : Callable Try.prog 67 ∧ Sound Try.prog 67 sd_spec_l4KeyOk.sg sd_spec_l4KeyOk.den :=
  fn_plain (pat := pa_spec_l4KeyOk) (by kernel_rfl) si_spec_l4KeyOk Try.func67 (by kernel_rfl) (by kernel_rfl) (by kernel_rfl) fun x r h => by
    obtain ⟨a0, ⟨⟩⟩ := x; rw [← h]; exact (en_spec_l4KeyOk a0).trans (eq_spec_l4KeyOk a0)
def m_spec_ValidBatch (b : List Chg) : Bool := validBatch b
def sg_spec_ValidBatch : Sig := ⟨[.rd (.sl (.pair .str (.pair .str (.pair .bool .unit))))], [none], [.rd .bool], [none]⟩
noncomputable def sd_spec_ValidBatch : SD := ⟨sg_spec_ValidBatch, fun x => some (((m_spec_ValidBatch x.1), ()), (()))⟩
noncomputable def ta_spec_ValidBatch : Tb := Tb.of fun f => if f = 67 then some sd_spec_l4KeyOk else none
def pa_spec_ValidBatch : Nat → Pat × (Nat → Pat) := fun k => if k = 5 then (⟨[.sl 0 0 (.pair .str (.pair .str (.pair .bool .unit)))], [(0, .lf (.d (.sl (.pair .str (.pair .str (.pair .bool .unit)))))), (3, .lf (.d (.int .i64)))], []⟩, fun e => if e = 1 then ⟨[], [(2, .lf (.d .bool))], []⟩ else if e = 2 then ⟨[], [], []⟩ else ⟨[], [], []⟩) else (⟨[], [], []⟩, fun _ => ⟨[], [], []⟩)
noncomputable def co_spec_ValidBatch_5 : Code := (loopsIn (bodyOf Try.f80)).getD 0 .skip
def fu_spec_ValidBatch_5 (v0 : List (ByteArray × ByteArray × Bool × Unit)) (v3 : Int) : Nat := ((v0.length : Int) - v3).toNat + 1
noncomputable def tr_spec_ValidBatch_5 {R : Type}  (NX : ((List (ByteArray × ByteArray × Bool × Unit)) × (Int) × Unit) → Option R) (X2 : (Unit) → Option R) (X1 : ((Bool) × Unit) → Option R) (v0 : List (ByteArray × ByteArray × Bool × Unit)) (v3 : Int) : Option R :=
  bif decide (v3 < nI (List.length v0)) then
    bif decide (0 ≤ v3) then
      bif decide (v3 < nI (List.length v0)) then
        bif !m_spec_l4KeyOk (List.getD v0 (Int.toNat v3) (ByteArray.mk #[], ByteArray.mk #[], false, ())).fst then X1 (false, ())
        else
          bif decide (0 ≤ v3) then
            bif decide (v3 < nI (List.length v0)) then
              bif decide (nI (ByteArray.size (List.getD v0 (Int.toNat v3) (ByteArray.mk #[], ByteArray.mk #[], false, ())).snd.fst) > 100) then X1 (false, ())
              else
                bif decide (0 ≤ v3) then
                  bif decide (v3 < nI (List.length v0)) then
                    bif (List.getD v0 (Int.toNat v3) (ByteArray.mk #[], ByteArray.mk #[], false, ())).snd.snd.fst then
                      bif decide (0 ≤ v3) then
                        bif decide (v3 < nI (List.length v0)) then
                          bif !ByteArray.toList (List.getD v0 (Int.toNat v3) (ByteArray.mk #[], ByteArray.mk #[], false, ())).snd.fst == ByteArray.toList (ByteArray.mk #[]) then X1 (false, ())
                          else NX (v0, IntKind.wrap IntKind.i64 (v3 + 1), ())
                        else none
                      else none
                    else NX (v0, IntKind.wrap IntKind.i64 (v3 + 1), ())
                  else none
                else none
            else none
          else none
      else none
    else none
  else X2 PUnit.unit
noncomputable def lo_spec_ValidBatch_5 : Nat → (List (ByteArray × ByteArray × Bool × Unit)) → (Int) →  Option ((Unit) ⊕ ((Bool) × Unit))
  | 0, _, _ => none
  | m + 1, v0, v3 => tr_spec_ValidBatch_5  (fun d => lo_spec_ValidBatch_5 m d.1 d.2.1) (fun d => some (.inl (d))) (fun d => some (.inr (d))) v0 v3
theorem na_spec_ValidBatch_5 {R S : Type}  (NX : ((List (ByteArray × ByteArray × Bool × Unit)) × (Int) × Unit) → Option R) (X2 : (Unit) → Option R) (X1 : ((Bool) × Unit) → Option R) (v0 : List (ByteArray × ByteArray × Bool × Unit)) (v3 : Int) (f : R → Option S) : tr_spec_ValidBatch_5  (fun d => (NX d).bind f) (fun d => (X2 d).bind f) (fun d => (X1 d).bind f) v0 v3 = (tr_spec_ValidBatch_5  NX X2 X1 v0 v3).bind f := by
  unfold tr_spec_ValidBatch_5
  simp only [cond_bind, ite_bind, onSum_bind, Option.bind_assoc, Option.bind_none, Option.bind_some]
noncomputable def de_spec_ValidBatch (a0 : List (ByteArray × ByteArray × Bool × Unit)) : Option ((((Bool) × Unit) × (Unit))) :=
  bif decide (nI (List.length a0) < 1) then some ((false, ()), ())
  else bif decide (nI (List.length a0) > 20) then some ((false, ()), ()) else Option.bind ((fun d => lo_spec_ValidBatch_5 (fu_spec_ValidBatch_5 d.1 d.2.1) d.1 d.2.1) (a0, 0, ())) fun val => onSum (fun val => some ((true, ()), ())) (fun val => some ((val.fst, ()), ())) val
theorem eq_spec_ValidBatch (a0 : List (ByteArray × ByteArray × Bool × Unit)) : de_spec_ValidBatch a0 = some (((m_spec_ValidBatch a0), ()), (())) := by
  unfold de_spec_ValidBatch m_spec_ValidBatch validBatch
  have tl : ByteArray.toList (ByteArray.mk #[]) = [] := by decide +kernel
  rw [inB_lt (nI (List.length a0))]
  show (bif inB (a0.length : Int) 1 20 then _ else _) = _
  cases hin : inB (a0.length : Int) 1 20 with
  | false => rfl
  | true =>
    have hlen : a0.length ≤ 20 := by have := (inB_r hin).2; omega
    have hL := all_loop (n := a0.length) (fun i => okChg (a0.getD i zC)) (g := fun m i => lo_spec_ValidBatch_5 m a0 i) (ok := .inl ()) (bad := .inr (false, ())) (fun m i hi => by
      show lo_spec_ValidBatch_5 (m + 1) a0 i = _
      simp only [lo_spec_ValidBatch_5, tr_spec_ValidBatch_5]
      rw [tl, cLt hi, cLe0, wI (show i < 4611686018427387904 by omega), Int.toNat_natCast]
      have g1 : decide (nI (ByteArray.size (List.getD a0 i (ByteArray.mk #[], ByteArray.mk #[], false, ())).2.1) > 100) = !decide ((a0.getD i zC).2.1.size ≤ 100) := gt100 _ 100
      rw [g1]
      show (bif !keyOk (a0.getD i zC).1 then _ else (bif _ then _ else (bif (a0.getD i zC).2.2.1 then (bif !((a0.getD i zC).2.1.toList == []) then _ else _) else _))) = _
      unfold okChg
      cases keyOk (a0.getD i zC).1 <;> cases decide ((a0.getD i zC).2.1.size ≤ 100) <;> cases (a0.getD i zC).2.2.1 <;> cases ((a0.getD i zC).2.1.toList == []) <;> rfl) (fun m => by
      show lo_spec_ValidBatch_5 (m + 1) a0 (a0.length : Int) = _
      simp only [lo_spec_ValidBatch_5, tr_spec_ValidBatch_5]
      rw [cLtF]
      rfl) (fu_spec_ValidBatch_5 a0 0) 0 (by omega) (by simp [fu_spec_ValidBatch_5, nI])
    refine bi_ hL ?_
    rw [Nat.sub_zero]
    cases (List.range' 0 a0.length).all (fun i => okChg (a0.getD i zC)) <;> rfl
noncomputable def ou_spec_ValidBatch_5 {R : Type} (k : Kt R) : ((Unit) ⊕ ((Bool) × Unit)) → Option R := (onSum (fun d => k (.exit 0) (((pa_spec_ValidBatch 5).2 2).st d) (((pa_spec_ValidBatch 5).2 2).nid)) (fun d => k .ret (((pa_spec_ValidBatch 5).2 1).st d) (((pa_spec_ValidBatch 5).2 1).nid)))
noncomputable def L_spec_ValidBatch {R : Type} : Lt R pa_spec_ValidBatch := (addL (pat := pa_spec_ValidBatch) 5 (fun d k => (lo_spec_ValidBatch_5 (fu_spec_ValidBatch_5 d.1 d.2.1) d.1 d.2.1).bind (ou_spec_ValidBatch_5 k)) noL)
theorem rd_spec_ValidBatch_5 {R : Type} (nx : (pa_spec_ValidBatch 5).1.D → Kt R → Option R) (k : Kt R) (v0 : List (ByteArray × ByteArray × Bool × Unit)) (v3 : Int) : ev Try.prog ⟨ta_spec_ValidBatch, 0, 49, pa_spec_ValidBatch⟩ L_spec_ValidBatch co_spec_ValidBatch_5 ((pa_spec_ValidBatch 5).1.st (v0, v3, ())) (pa_spec_ValidBatch 5).1.nid (roundK 0 (pa_spec_ValidBatch 5) nx k) = tr_spec_ValidBatch_5  (fun d => nx d k) (fun d => k (.exit 0) (((pa_spec_ValidBatch 5).2 2).st d) (((pa_spec_ValidBatch 5).2 2).nid)) (fun d => k .ret (((pa_spec_ValidBatch 5).2 1).st d) (((pa_spec_ValidBatch 5).2 1).nid)) v0 v3 := by kernel_rfl
theorem lp_spec_ValidBatch_5 {R : Type} : ∀ (m : Nat) (d : (pa_spec_ValidBatch 5).1.D) (k : Kt R), loopN 0 (pa_spec_ValidBatch 5) (fun s nid k => ev Try.prog ⟨ta_spec_ValidBatch, 0, 49, pa_spec_ValidBatch⟩ L_spec_ValidBatch co_spec_ValidBatch_5 s nid k) m d k = (lo_spec_ValidBatch_5 m d.1 d.2.1).bind (ou_spec_ValidBatch_5 k)
  | 0, _, _ => rfl
  | m + 1, ⟨v0, v3, ⟨⟩⟩, k => (rd_spec_ValidBatch_5 _ k v0 v3).trans ((congrArg (fun F => tr_spec_ValidBatch_5  F (fun d => k (.exit 0) (((pa_spec_ValidBatch 5).2 2).st d) (((pa_spec_ValidBatch 5).2 2).nid)) (fun d => k .ret (((pa_spec_ValidBatch 5).2 1).st d) (((pa_spec_ValidBatch 5).2 1).nid)) v0 v3) (funext fun d => lp_spec_ValidBatch_5 m d k)).trans (na_spec_ValidBatch_5 (f := ou_spec_ValidBatch_5 k)  (fun d => lo_spec_ValidBatch_5 m d.1 d.2.1) (fun d => some (.inl (d))) (fun d => some (.inr (d))) v0 v3))
theorem en_spec_ValidBatch (a0 : List (ByteArray × ByteArray × Bool × Unit)) : evalF Try.prog ta_spec_ValidBatch pa_spec_ValidBatch sg_spec_ValidBatch Try.f80 L_spec_ValidBatch (a0, ()) = de_spec_ValidBatch a0 := by kernel_rfl
theorem si_spec_ValidBatch : SigsOk Try.prog ta_spec_ValidBatch := SigsOk.of fun f sd h => by
  try dsimp only [Tb.of, ta_spec_ValidBatch] at h
  split at h
  · rename_i e; subst e; cases h; exact sn_spec_l4KeyOk
  cases h
theorem lk_spec_ValidBatch_5 {R : Type} : LoopOk Try.prog R 49 0 pa_spec_ValidBatch L_spec_ValidBatch co_spec_ValidBatch_5 :=
  loop_key (cfg := ⟨ta_spec_ValidBatch, 0, 49, pa_spec_ValidBatch⟩) (key := 5) (by kernel_rfl) (by kernel_rfl) si_spec_ValidBatch rfl rfl (fun d k r h => ⟨fu_spec_ValidBatch_5 d.1 d.2.1, (lp_spec_ValidBatch_5 _ d k).trans h⟩) (fun c hc => by rw [show loopsIn co_spec_ValidBatch_5 = [] from by kernel_rfl] at hc; cases hc)
theorem sn_spec_ValidBatch : Callable Try.prog 80 ∧ Sound Try.prog 80 sd_spec_ValidBatch.sg sd_spec_ValidBatch.den :=
  fn_loops (pat := pa_spec_ValidBatch) L_spec_ValidBatch (by kernel_rfl) si_spec_ValidBatch Try.func80 (by kernel_rfl) (by kernel_rfl) (fun c hc => by rw [show loopsIn (bodyOf Try.f80) = [co_spec_ValidBatch_5] from by kernel_rfl] at hc; simp only [List.mem_cons, List.not_mem_nil, or_false] at hc; rcases hc with rfl <;> first | exact lk_spec_ValidBatch_5) fun x r h => by
    obtain ⟨a0, ⟨⟩⟩ := x; rw [← h]; exact (en_spec_ValidBatch a0).trans (eq_spec_ValidBatch a0)
def m_spec_FormBatch (b : List Chg) : ByteArray := formB b
def sg_spec_FormBatch : Sig := ⟨[.rd (.sl (.pair .str (.pair .str (.pair .bool .unit))))], [none], [.rd .str], [none]⟩
noncomputable def sd_spec_FormBatch : SD := ⟨sg_spec_FormBatch, fun x => some (((m_spec_FormBatch x.1), ()), (()))⟩
noncomputable def ta_spec_FormBatch : Tb := Tb.of fun f => if f = 80 then some sd_spec_ValidBatch else none
def pa_spec_FormBatch : Nat → Pat × (Nat → Pat) := fun k => if k = 6 then (⟨[.sl 0 0 (.pair .str (.pair .str (.pair .bool .unit))), .row 3 0 5 (.int .u8)], [(0, .lf (.d (.sl (.pair .str (.pair .str (.pair .bool .unit)))))), (3, .lf (.row 0)), (4, .lf (.d (.int .i64)))], [.row 5 (.int .u8)]⟩, fun e => if e = 2 then ⟨[.row 3 0 5 (.int .u8)], [(3, .lf (.row 0))], [.row 5 (.int .u8)]⟩ else ⟨[], [], []⟩) else (⟨[], [], []⟩, fun _ => ⟨[], [], []⟩)
noncomputable def co_spec_FormBatch_6 : Code := (loopsIn (bodyOf Try.f29)).getD 0 .skip
def fu_spec_FormBatch_6 (v0 : List (ByteArray × ByteArray × Bool × Unit)) (v4 : Int) (r0 : List Int) : Nat := ((v0.length : Int) - v4).toNat + 1
noncomputable def tr_spec_FormBatch_6 {R : Type}  (NX : ((List (ByteArray × ByteArray × Bool × Unit)) × (Int) × (List Int) × Unit) → Option R) (X2 : ((List Int) × Unit) → Option R) (v0 : List (ByteArray × ByteArray × Bool × Unit)) (v4 : Int) (r0 : List Int) : Option R :=
  bif decide (v4 < nI (List.length v0)) then
    bif decide (0 ≤ v4) then
      bif decide (v4 < nI (List.length v0)) then
        bif (List.getD v0 (Int.toNat v4) (ByteArray.mk #[], ByteArray.mk #[], false, ())).snd.snd.fst then
          bif decide (0 ≤ v4) then
            bif decide (v4 < nI (List.length v0)) then
              bif
                  decide
                    ((List.length r0 + List.length [1, IntKind.wrap IntKind.u8 (nI (ByteArray.size (List.getD v0 (Int.toNat v4) (ByteArray.mk #[], ByteArray.mk #[], false, ())).fst))]) * 1 ≤
                      140737488355328) then
                bif decide (0 ≤ v4) then
                  bif decide (v4 < nI (List.length v0)) then
                    bif
                        decide
                          (List.length (r0 ++ [1, IntKind.wrap IntKind.u8 (nI (ByteArray.size (List.getD v0 (Int.toNat v4) (ByteArray.mk #[], ByteArray.mk #[], false, ())).fst))]) +
                              ByteArray.size (List.getD v0 (Int.toNat v4) (ByteArray.mk #[], ByteArray.mk #[], false, ())).fst ≤
                            140737488355328) then
                      NX
                        (v0, IntKind.wrap IntKind.i64 (v4 + 1),
                          r0 ++ [1, IntKind.wrap IntKind.u8 (nI (ByteArray.size (List.getD v0 (Int.toNat v4) (ByteArray.mk #[], ByteArray.mk #[], false, ())).fst))] ++
                            bytesOfStr (List.getD v0 (Int.toNat v4) (ByteArray.mk #[], ByteArray.mk #[], false, ())).fst,
                          ())
                    else none
                  else none
                else none
              else none
            else none
          else none
        else
          bif decide (0 ≤ v4) then
            bif decide (v4 < nI (List.length v0)) then
              bif
                  decide
                    ((List.length r0 + List.length [0, IntKind.wrap IntKind.u8 (nI (ByteArray.size (List.getD v0 (Int.toNat v4) (ByteArray.mk #[], ByteArray.mk #[], false, ())).fst))]) * 1 ≤
                      140737488355328) then
                bif decide (0 ≤ v4) then
                  bif decide (v4 < nI (List.length v0)) then
                    bif
                        decide
                          (List.length (r0 ++ [0, IntKind.wrap IntKind.u8 (nI (ByteArray.size (List.getD v0 (Int.toNat v4) (ByteArray.mk #[], ByteArray.mk #[], false, ())).fst))]) +
                              ByteArray.size (List.getD v0 (Int.toNat v4) (ByteArray.mk #[], ByteArray.mk #[], false, ())).fst ≤
                            140737488355328) then
                      bif decide (0 ≤ v4) then
                        bif decide (v4 < nI (List.length v0)) then
                          bif
                              decide
                                ((List.length
                                        (r0 ++ [0, IntKind.wrap IntKind.u8 (nI (ByteArray.size (List.getD v0 (Int.toNat v4) (ByteArray.mk #[], ByteArray.mk #[], false, ())).fst))] ++
                                          bytesOfStr (List.getD v0 (Int.toNat v4) (ByteArray.mk #[], ByteArray.mk #[], false, ())).fst) +
                                      List.length [IntKind.wrap IntKind.u8 (nI (ByteArray.size (List.getD v0 (Int.toNat v4) (ByteArray.mk #[], ByteArray.mk #[], false, ())).snd.fst))]) *
                                    1 ≤
                                  140737488355328) then
                            bif decide (0 ≤ v4) then
                              bif decide (v4 < nI (List.length v0)) then
                                bif
                                    decide
                                      (List.length
                                            (r0 ++ [0, IntKind.wrap IntKind.u8 (nI (ByteArray.size (List.getD v0 (Int.toNat v4) (ByteArray.mk #[], ByteArray.mk #[], false, ())).fst))] ++
                                                bytesOfStr (List.getD v0 (Int.toNat v4) (ByteArray.mk #[], ByteArray.mk #[], false, ())).fst ++
                                              [IntKind.wrap IntKind.u8 (nI (ByteArray.size (List.getD v0 (Int.toNat v4) (ByteArray.mk #[], ByteArray.mk #[], false, ())).snd.fst))]) +
                                          ByteArray.size (List.getD v0 (Int.toNat v4) (ByteArray.mk #[], ByteArray.mk #[], false, ())).snd.fst ≤
                                        140737488355328) then
                                  NX
                                    (v0, IntKind.wrap IntKind.i64 (v4 + 1),
                                      r0 ++ [0, IntKind.wrap IntKind.u8 (nI (ByteArray.size (List.getD v0 (Int.toNat v4) (ByteArray.mk #[], ByteArray.mk #[], false, ())).fst))] ++
                                            bytesOfStr (List.getD v0 (Int.toNat v4) (ByteArray.mk #[], ByteArray.mk #[], false, ())).fst ++
                                          [IntKind.wrap IntKind.u8 (nI (ByteArray.size (List.getD v0 (Int.toNat v4) (ByteArray.mk #[], ByteArray.mk #[], false, ())).snd.fst))] ++
                                        bytesOfStr (List.getD v0 (Int.toNat v4) (ByteArray.mk #[], ByteArray.mk #[], false, ())).snd.fst,
                                      ())
                                else none
                              else none
                            else none
                          else none
                        else none
                      else none
                    else none
                  else none
                else none
              else none
            else none
          else none
      else none
    else none
  else X2 (r0, ())
noncomputable def lo_spec_FormBatch_6 : Nat → (List (ByteArray × ByteArray × Bool × Unit)) → (Int) → (List Int) →  Option ((List Int) × Unit)
  | 0, _, _, _ => none
  | m + 1, v0, v4, r0 => tr_spec_FormBatch_6  (fun d => lo_spec_FormBatch_6 m d.1 d.2.1 d.2.2.1) (fun d => some (d)) v0 v4 r0
theorem na_spec_FormBatch_6 {R S : Type}  (NX : ((List (ByteArray × ByteArray × Bool × Unit)) × (Int) × (List Int) × Unit) → Option R) (X2 : ((List Int) × Unit) → Option R) (v0 : List (ByteArray × ByteArray × Bool × Unit)) (v4 : Int) (r0 : List Int) (f : R → Option S) : tr_spec_FormBatch_6  (fun d => (NX d).bind f) (fun d => (X2 d).bind f) v0 v4 r0 = (tr_spec_FormBatch_6  NX X2 v0 v4 r0).bind f := by
  unfold tr_spec_FormBatch_6
  simp only [cond_bind, ite_bind, onSum_bind, Option.bind_assoc, Option.bind_none, Option.bind_some]
noncomputable def de_spec_FormBatch (a0 : List (ByteArray × ByteArray × Bool × Unit)) : Option ((((ByteArray) × Unit) × (Unit))) :=
  bif !m_spec_ValidBatch a0 then some ((ByteArray.mk #[], ()), ()) else Option.bind ((fun d => lo_spec_FormBatch_6 (fu_spec_FormBatch_6 d.1 d.2.1 d.2.2.1) d.1 d.2.1 d.2.2.1) (a0, 0, [], ())) fun val => some ((strOfNums val.fst, ()), ())
theorem eq_spec_FormBatch (a0 : List (ByteArray × ByteArray × Bool × Unit)) : de_spec_FormBatch a0 = some ((m_spec_FormBatch a0, ()), (())) := by
  unfold de_spec_FormBatch m_spec_FormBatch formB
  show (bif !validBatch a0 then _ else _) = _
  cases hv : validBatch a0 with
  | false => rfl
  | true =>
    obtain ⟨hlen, hok⟩ := validBatch_at hv
    have hL := up_loop a0.length BatOk (fun i r => r ++ chgL (a0.getD i zC)) (g := fun m i r => lo_spec_FormBatch_6 m a0 i r) (ok := fun r => (r, ())) (fun m i r hi hr => by
      show lo_spec_FormBatch_6 (m + 1) a0 i r = _
      simp only [lo_spec_FormBatch_6, tr_spec_FormBatch_6]
      have hc := hok i hi
      obtain ⟨k1, k2, k3⟩ := okChg_len hc
      rw [cLt hi, cLe0, wI (show i < 4611686018427387904 by omega), Int.toNat_natCast]
      have hr1 := hr.1
      have eC : List.getD a0 i (ByteArray.mk #[], ByteArray.mk #[], false, ()) = a0.getD i zC := rfl
      rw [eC]
      generalize a0.getD i zC = c at *
      rw [wrap8 _ (show c.1.size < 256 by omega), wrap8 _ (show c.2.1.size < 256 by omega)]
      simp only [List.length_append, List.length_cons, List.length_nil, bytes_len]
      rw [decide_eq_true (show (r.length + (0 + 1 + 1)) * 1 ≤ 140737488355328 by omega), decide_eq_true (show r.length + (0 + 1 + 1) + c.1.size ≤ 140737488355328 by omega), decide_eq_true (show (r.length + (0 + 1 + 1) + c.1.size + (0 + 1)) * 1 ≤ 140737488355328 by omega), decide_eq_true (show r.length + (0 + 1 + 1) + c.1.size + (0 + 1) + c.2.1.size ≤ 140737488355328 by omega)]
      unfold chgL
      simp only [cond_true]
      cases c.2.2.1 <;> simp only [cond_true, cond_false, List.append_assoc]) (fun m r _ => by
      show lo_spec_FormBatch_6 (m + 1) a0 (a0.length : Int) r = _
      simp only [lo_spec_FormBatch_6, tr_spec_FormBatch_6]
      rw [cLtF]
      rfl) (fun i r hi hr => hr.step (hok i hi)) a0.length (fu_spec_FormBatch_6 a0 0 []) 0 [] (by omega) (by simp [fu_spec_FormBatch_6, nI]) ⟨by simp, rfl⟩
    rw [iter_cat chgL zC a0 a0.length 0 [] (by omega), List.nil_append, List.drop_zero] at hL
    refine bi_ hL ?_
    rfl
noncomputable def ou_spec_FormBatch_6 {R : Type} (k : Kt R) : ((List Int) × Unit) → Option R := (fun d => k (.exit 0) (((pa_spec_FormBatch 6).2 2).st d) (((pa_spec_FormBatch 6).2 2).nid))
noncomputable def L_spec_FormBatch {R : Type} : Lt R pa_spec_FormBatch := (addL (pat := pa_spec_FormBatch) 6 (fun d k => (lo_spec_FormBatch_6 (fu_spec_FormBatch_6 d.1 d.2.1 d.2.2.1) d.1 d.2.1 d.2.2.1).bind (ou_spec_FormBatch_6 k)) noL)
theorem rd_spec_FormBatch_6 {R : Type} (nx : (pa_spec_FormBatch 6).1.D → Kt R → Option R) (k : Kt R) (v0 : List (ByteArray × ByteArray × Bool × Unit)) (v4 : Int) (r0 : List Int) : ev Try.prog ⟨ta_spec_FormBatch, 0, 70, pa_spec_FormBatch⟩ L_spec_FormBatch co_spec_FormBatch_6 ((pa_spec_FormBatch 6).1.st (v0, v4, r0, ())) (pa_spec_FormBatch 6).1.nid (roundK 0 (pa_spec_FormBatch 6) nx k) = tr_spec_FormBatch_6  (fun d => nx d k) (fun d => k (.exit 0) (((pa_spec_FormBatch 6).2 2).st d) (((pa_spec_FormBatch 6).2 2).nid)) v0 v4 r0 := by kernel_rfl
theorem lp_spec_FormBatch_6 {R : Type} : ∀ (m : Nat) (d : (pa_spec_FormBatch 6).1.D) (k : Kt R), loopN 0 (pa_spec_FormBatch 6) (fun s nid k => ev Try.prog ⟨ta_spec_FormBatch, 0, 70, pa_spec_FormBatch⟩ L_spec_FormBatch co_spec_FormBatch_6 s nid k) m d k = (lo_spec_FormBatch_6 m d.1 d.2.1 d.2.2.1).bind (ou_spec_FormBatch_6 k)
  | 0, _, _ => rfl
  | m + 1, ⟨v0, v4, r0, ⟨⟩⟩, k => (rd_spec_FormBatch_6 _ k v0 v4 r0).trans ((congrArg (fun F => tr_spec_FormBatch_6  F (fun d => k (.exit 0) (((pa_spec_FormBatch 6).2 2).st d) (((pa_spec_FormBatch 6).2 2).nid)) v0 v4 r0) (funext fun d => lp_spec_FormBatch_6 m d k)).trans (na_spec_FormBatch_6 (f := ou_spec_FormBatch_6 k)  (fun d => lo_spec_FormBatch_6 m d.1 d.2.1 d.2.2.1) (fun d => some (d)) v0 v4 r0))
theorem en_spec_FormBatch (a0 : List (ByteArray × ByteArray × Bool × Unit)) : evalF Try.prog ta_spec_FormBatch pa_spec_FormBatch sg_spec_FormBatch Try.f29 L_spec_FormBatch (a0, ()) = de_spec_FormBatch a0 := by kernel_rfl
theorem si_spec_FormBatch : SigsOk Try.prog ta_spec_FormBatch := SigsOk.of fun f sd h => by
  try dsimp only [Tb.of, ta_spec_FormBatch] at h
  split at h
  · rename_i e; subst e; cases h; exact sn_spec_ValidBatch
  cases h
theorem lk_spec_FormBatch_6 {R : Type} : LoopOk Try.prog R 70 0 pa_spec_FormBatch L_spec_FormBatch co_spec_FormBatch_6 :=
  loop_key (cfg := ⟨ta_spec_FormBatch, 0, 70, pa_spec_FormBatch⟩) (key := 6) (by kernel_rfl) (by kernel_rfl) si_spec_FormBatch rfl rfl (fun d k r h => ⟨fu_spec_FormBatch_6 d.1 d.2.1 d.2.2.1, (lp_spec_FormBatch_6 _ d k).trans h⟩) (fun c hc => by rw [show loopsIn co_spec_FormBatch_6 = [] from by kernel_rfl] at hc; cases hc)
theorem sn_spec_FormBatch : Callable Try.prog 29 ∧ Sound Try.prog 29 sd_spec_FormBatch.sg sd_spec_FormBatch.den :=
  fn_loops (pat := pa_spec_FormBatch) L_spec_FormBatch (by kernel_rfl) si_spec_FormBatch Try.func29 (by kernel_rfl) (by kernel_rfl) (fun c hc => by rw [show loopsIn (bodyOf Try.f29) = [co_spec_FormBatch_6] from by kernel_rfl] at hc; simp only [List.mem_cons, List.not_mem_nil, or_false] at hc; rcases hc with rfl <;> first | exact lk_spec_FormBatch_6) fun x r h => by
    obtain ⟨a0, ⟨⟩⟩ := x; rw [← h]; exact (en_spec_FormBatch a0).trans (eq_spec_FormBatch a0)
def m_spec_l4Piece (s : ByteArray) : ByteArray × ByteArray × Bool := ((pieceS s).1, bif (pieceS s).2.2 then (pieceS s).2.1 else ⟨#[]⟩, (pieceS s).2.2)
def sg_spec_l4Piece : Sig := ⟨[.rd .str], [none], [.rd .str, .rd .str, .rd .bool], [none, none, none]⟩
noncomputable def sd_spec_l4Piece : SD := ⟨sg_spec_l4Piece, fun x => some (((m_spec_l4Piece x.1).1, (m_spec_l4Piece x.1).2.1, (m_spec_l4Piece x.1).2.2, ()), (()))⟩
noncomputable def ta_spec_l4Piece : Tb := Tb.of fun f => none
def pa_spec_l4Piece : Nat → Pat × (Nat → Pat) := fun k => (⟨[], [], []⟩, fun _ => ⟨[], [], []⟩)
noncomputable def de_spec_l4Piece (a0 : ByteArray) : Option ((((ByteArray) × (ByteArray) × (Bool) × Unit) × (Unit))) :=
  bif decide (nI (ByteArray.size a0) < 1) then some ((ByteArray.mk #[], ByteArray.mk #[], false, ()), ())
  else
    bif decide (0 < nI (ByteArray.size a0)) then
      bif decide (nI (ByteArray.size a0) < IntKind.wrap IntKind.i64 (1 + IntKind.wrap IntKind.i64 (byteAt a0 0))) then some ((ByteArray.mk #[], ByteArray.mk #[], false, ()), ())
      else
        bif decide (0 < nI (ByteArray.size a0)) then
          bif decide (1 ≤ IntKind.wrap IntKind.i64 (1 + IntKind.wrap IntKind.i64 (byteAt a0 0))) then
            bif decide (IntKind.wrap IntKind.i64 (1 + IntKind.wrap IntKind.i64 (byteAt a0 0)) ≤ nI (ByteArray.size a0)) then
              bif decide (0 ≤ IntKind.wrap IntKind.i64 (1 + IntKind.wrap IntKind.i64 (byteAt a0 0))) then
                bif decide (IntKind.wrap IntKind.i64 (1 + IntKind.wrap IntKind.i64 (byteAt a0 0)) ≤ nI (ByteArray.size a0)) then
                  some
                    ((cutOf a0 1 (IntKind.wrap IntKind.i64 (1 + IntKind.wrap IntKind.i64 (byteAt a0 0))),
                        cutOf a0 (IntKind.wrap IntKind.i64 (1 + IntKind.wrap IntKind.i64 (byteAt a0 0))) (nI (ByteArray.size a0)), true, ()),
                      ())
                else none
              else none
            else none
          else none
        else none
    else none
theorem eq_spec_l4Piece (a0 : ByteArray) : de_spec_l4Piece a0 = some (((m_spec_l4Piece a0).1, (m_spec_l4Piece a0).2.1, (m_spec_l4Piece a0).2.2, ()), (())) := by
  unfold de_spec_l4Piece m_spec_l4Piece pieceS
  obtain ⟨b0, b1⟩ := byteAt_in a0 0
  have hw : IntKind.wrap IntKind.i64 (1 + IntKind.wrap IntKind.i64 (byteAt a0 0)) = 1 + byteAt a0 0 := by
    rw [wrap_ok (n := byteAt a0 0) (by omega) (by omega), wrap_ok (by omega) (by omega)]
  rw [hw]
  by_cases h0 : (a0.size : Int) < 1
  · rw [if_pos (Or.inl h0), decide_eq_true (show nI a0.size < 1 from h0)]
    rfl
  · rw [decide_eq_false (show ¬ nI a0.size < 1 from h0), decide_eq_true (show 0 < nI a0.size by simp only [nI]; omega)]
    by_cases h1 : (a0.size : Int) < 1 + byteAt a0 0
    · rw [if_pos (Or.inr h1), decide_eq_true (show nI a0.size < 1 + byteAt a0 0 from h1)]
      rfl
    · rw [if_neg (by omega), decide_eq_false (show ¬ nI a0.size < 1 + byteAt a0 0 from h1), decide_eq_true (show 1 ≤ 1 + byteAt a0 0 by omega), decide_eq_true (show 0 ≤ 1 + byteAt a0 0 by omega), decide_eq_true (show 1 + byteAt a0 0 ≤ nI a0.size by simp only [nI]; omega)]
      rfl
theorem en_spec_l4Piece (a0 : ByteArray) : evalF Try.prog ta_spec_l4Piece pa_spec_l4Piece sg_spec_l4Piece Try.f87 noL (a0, ()) = de_spec_l4Piece a0 := by kernel_rfl
theorem si_spec_l4Piece : SigsOk Try.prog ta_spec_l4Piece := SigsOk.of fun f sd h => by
  try dsimp only [Tb.of, ta_spec_l4Piece] at h
  cases h
theorem sn_spec_l4Piece : Callable Try.prog 87 ∧ Sound Try.prog 87 sd_spec_l4Piece.sg sd_spec_l4Piece.den :=
  fn_plain (pat := pa_spec_l4Piece) (by kernel_rfl) si_spec_l4Piece Try.func87 (by kernel_rfl) (by kernel_rfl) (by kernel_rfl) fun x r h => by
    obtain ⟨a0, ⟨⟩⟩ := x; rw [← h]; exact (en_spec_l4Piece a0).trans (eq_spec_l4Piece a0)
def m_spec_ReadBatch (s : ByteArray) : List Chg × Bool := readL s
def fu_spec_ReadBatch_4 (v0 v5 : ByteArray) (r0 : List Chg) : Nat := 22
def sg_spec_ReadBatch : Sig := ⟨[.rd .str], [none], [.own 113 (.pair .str (.pair .str (.pair .bool .unit))), .rd .bool], [none, none]⟩
noncomputable def sd_spec_ReadBatch : SD := ⟨sg_spec_ReadBatch, fun x => some (((m_spec_ReadBatch x.1).1, (m_spec_ReadBatch x.1).2, ()), (()))⟩
noncomputable def ta_spec_ReadBatch : Tb := Tb.of fun f => if f = 29 then some sd_spec_FormBatch else if f = 87 then some sd_spec_l4Piece else none
def pa_spec_ReadBatch : Nat → Pat × (Nat → Pat) := fun k => if k = 4 then (⟨[.row 4 0 113 (.pair .str (.pair .str (.pair .bool .unit)))], [(0, .lf (.d .str)), (4, .lf (.row 0)), (5, .lf (.d .str))], [.row 113 (.pair .str (.pair .str (.pair .bool .unit)))]⟩, fun e => if e = 1 then ⟨[.row 2 0 113 (.pair .str (.pair .str (.pair .bool .unit)))], [(2, .lf (.row 0)), (3, .lf (.d .bool))], [.row 113 (.pair .str (.pair .str (.pair .bool .unit)))]⟩ else if e = 2 then ⟨[.row 4 0 113 (.pair .str (.pair .str (.pair .bool .unit)))], [(0, .lf (.d .str)), (4, .lf (.row 0))], [.row 113 (.pair .str (.pair .str (.pair .bool .unit)))]⟩ else ⟨[], [], []⟩) else (⟨[], [], []⟩, fun _ => ⟨[], [], []⟩)
noncomputable def co_spec_ReadBatch_4 : Code := (loopsIn (bodyOf Try.f33)).getD 0 .skip
noncomputable def tr_spec_ReadBatch_4 {R : Type}  (NX : ((ByteArray) × (ByteArray) × (List (ByteArray × ByteArray × Bool × Unit)) × Unit) → Option R) (X2 : ((ByteArray) × (List (ByteArray × ByteArray × Bool × Unit)) × Unit) → Option R) (X1 : ((Bool) × (List (ByteArray × ByteArray × Bool × Unit)) × Unit) → Option R) (v0 : ByteArray) (v5 : ByteArray) (r0 : List (ByteArray × ByteArray × Bool × Unit)) : Option R :=
  bif decide (nI (ByteArray.size v5) > 0) then
    bif decide (nI (List.length r0) ≤ 20) then
      bif decide (0 < nI (ByteArray.size v5)) then
        bif decide (1 ≤ nI (ByteArray.size v5)) then
          bif !(pieceS (cutOf v5 1 (nI (ByteArray.size v5)))).snd.snd then X1 (false, [], ())
          else
            bif !byteAt v5 0 == 1 then
              bif !(pieceS (bif (pieceS (cutOf v5 1 (nI (ByteArray.size v5)))).snd.snd then (pieceS (cutOf v5 1 (nI (ByteArray.size v5)))).snd.fst else ByteArray.mk #[])).snd.snd then X1 (false, [], ())
              else
                bif
                    decide
                      ((List.length r0 +
                            List.length
                              [((pieceS (cutOf v5 1 (nI (ByteArray.size v5)))).fst,
                                  (pieceS (bif (pieceS (cutOf v5 1 (nI (ByteArray.size v5)))).snd.snd then (pieceS (cutOf v5 1 (nI (ByteArray.size v5)))).snd.fst else ByteArray.mk #[])).fst,
                                  byteAt v5 0 == 1, ())]) *
                          40 ≤
                        140737488355328) then
                  NX
                    (v0,
                      bif (pieceS (bif (pieceS (cutOf v5 1 (nI (ByteArray.size v5)))).snd.snd then (pieceS (cutOf v5 1 (nI (ByteArray.size v5)))).snd.fst else ByteArray.mk #[])).snd.snd then
                        (pieceS (bif (pieceS (cutOf v5 1 (nI (ByteArray.size v5)))).snd.snd then (pieceS (cutOf v5 1 (nI (ByteArray.size v5)))).snd.fst else ByteArray.mk #[])).snd.fst
                      else ByteArray.mk #[],
                      r0 ++
                        [((pieceS (cutOf v5 1 (nI (ByteArray.size v5)))).fst,
                            (pieceS (bif (pieceS (cutOf v5 1 (nI (ByteArray.size v5)))).snd.snd then (pieceS (cutOf v5 1 (nI (ByteArray.size v5)))).snd.fst else ByteArray.mk #[])).fst, byteAt v5 0 == 1,
                            ())],
                      ())
                else none
            else
              bif decide ((List.length r0 + List.length [((pieceS (cutOf v5 1 (nI (ByteArray.size v5)))).fst, ByteArray.mk #[], byteAt v5 0 == 1, ())]) * 40 ≤ 140737488355328) then
                NX
                  (v0, bif (pieceS (cutOf v5 1 (nI (ByteArray.size v5)))).snd.snd then (pieceS (cutOf v5 1 (nI (ByteArray.size v5)))).snd.fst else ByteArray.mk #[],
                    r0 ++ [((pieceS (cutOf v5 1 (nI (ByteArray.size v5)))).fst, ByteArray.mk #[], byteAt v5 0 == 1, ())], ())
              else none
        else none
      else none
    else X2 (v0, r0, ())
  else X2 (v0, r0, ())
noncomputable def lo_spec_ReadBatch_4 : Nat → (ByteArray) → (ByteArray) → (List (ByteArray × ByteArray × Bool × Unit)) →  Option (((ByteArray) × (List (ByteArray × ByteArray × Bool × Unit)) × Unit) ⊕ ((Bool) × (List (ByteArray × ByteArray × Bool × Unit)) × Unit))
  | 0, _, _, _ => none
  | m + 1, v0, v5, r0 => tr_spec_ReadBatch_4  (fun d => lo_spec_ReadBatch_4 m d.1 d.2.1 d.2.2.1) (fun d => some (.inl (d))) (fun d => some (.inr (d))) v0 v5 r0
theorem na_spec_ReadBatch_4 {R S : Type}  (NX : ((ByteArray) × (ByteArray) × (List (ByteArray × ByteArray × Bool × Unit)) × Unit) → Option R) (X2 : ((ByteArray) × (List (ByteArray × ByteArray × Bool × Unit)) × Unit) → Option R) (X1 : ((Bool) × (List (ByteArray × ByteArray × Bool × Unit)) × Unit) → Option R) (v0 : ByteArray) (v5 : ByteArray) (r0 : List (ByteArray × ByteArray × Bool × Unit)) (f : R → Option S) : tr_spec_ReadBatch_4  (fun d => (NX d).bind f) (fun d => (X2 d).bind f) (fun d => (X1 d).bind f) v0 v5 r0 = (tr_spec_ReadBatch_4  NX X2 X1 v0 v5 r0).bind f := by
  unfold tr_spec_ReadBatch_4
  simp only [cond_bind, ite_bind, onSum_bind, Option.bind_assoc, Option.bind_none, Option.bind_some]
noncomputable def de_spec_ReadBatch (a0 : ByteArray) : Option ((((List (ByteArray × ByteArray × Bool × Unit)) × (Bool) × Unit) × (Unit))) :=
  Option.bind ((fun d => lo_spec_ReadBatch_4 (fu_spec_ReadBatch_4 d.1 d.2.1 d.2.2.1) d.1 d.2.1 d.2.2.1) (a0, a0, [], ())) fun val =>
    onSum
      (fun val =>
        bif nI (ByteArray.size val.fst) == 0 then some (([], false, ()), ())
        else bif !ByteArray.toList (m_spec_FormBatch val.snd.fst) == ByteArray.toList val.fst then some (([], false, ()), ()) else some ((val.snd.fst, true, ()), ()))
      (fun val => some ((val.snd.fst, val.fst, ()), ())) val
def outL (s0 : ByteArray) (o : Option (List Chg × ByteArray)) : (ByteArray × List Chg × Unit) ⊕ (Bool × List Chg × Unit) := match o with
  | some (b, t) => .inl (s0, b, ())
  | none => .inr (false, [], ())
theorem rbL_loop (s0 : ByteArray) : ∀ (f m : Nat) (r : List Chg) (s : ByteArray), r.length + f = 22 → f ≤ m → 1 ≤ f → lo_spec_ReadBatch_4 m s0 s r = some (outL s0 (parseB false f r s))
  | 0, _, _, _, _, _, h => by omega
  | f + 1, 0, _, _, _, h, _ => by omega
  | f + 1, m + 1, r, s, hf, hm, _ => by
    simp only [lo_spec_ReadBatch_4, tr_spec_ReadBatch_4, parseB]
    by_cases hs : s.size > 0
    · rw [decide_eq_true (show nI s.size > 0 by simp only [nI]; omega), decide_eq_true hs]
      by_cases hr : r.length ≤ 20
      · rw [decide_eq_true (show nI r.length ≤ 20 by simp only [nI]; omega), decide_eq_true hr, decide_eq_true (show 1 ≤ nI s.size by simp only [nI]; omega)]
        unfold stepB
        generalize pieceS (cutOf s 1 (nI s.size)) = p
        simp only [List.length_singleton, Bool.false_and, cond_true, Bool.and_self, cond_false]
        rw [decide_eq_true (show (r.length + 1) * 40 ≤ 140737488355328 by omega)]
        obtain ⟨k, t, o⟩ := p
        cases o
        · rfl
        · by_cases h2 : byteAt s 0 = 1
          · rw [h2]
            exact rbL_loop s0 f m (r ++ [(k, ByteArray.mk #[], true, ())]) t (by rw [List.length_append, List.length_singleton]; omega) (by omega) (by omega)
          · have h3 : (byteAt s 0 == 1) = false := beq_eq_false_iff_ne.2 h2
            rw [h3]
            simp only [Bool.not_true, Bool.not_false, cond_false, cond_true]
            generalize pieceS t = q
            obtain ⟨v, u, o⟩ := q
            cases o
            · rfl
            · exact rbL_loop s0 f m (r ++ [(k, v, false, ())]) u (by rw [List.length_append, List.length_singleton]; omega) (by omega) (by omega)
      · rw [decide_eq_false (show ¬ nI r.length ≤ 20 by simp only [nI]; omega), decide_eq_false hr]
        rfl
    · rw [decide_eq_false (show ¬ nI s.size > 0 by simp only [nI]; omega), decide_eq_false hs]
      rfl
theorem eq_spec_ReadBatch (a0 : ByteArray) : de_spec_ReadBatch a0 = some (((m_spec_ReadBatch a0).1, (m_spec_ReadBatch a0).2, ()), (())) := by
  unfold de_spec_ReadBatch m_spec_ReadBatch readL
  have hL := rbL_loop a0 22 22 [] a0 rfl (Nat.le_refl _) (by omega)
  refine bi_ hL ?_
  cases parseB false 22 [] a0 with
  | none => rfl
  | some bt =>
    obtain ⟨b, t⟩ := bt
    show (bif nI a0.size == 0 then _ else (bif !(ByteArray.toList (formB b) == ByteArray.toList a0) then _ else _)) = _
    have e : (nI a0.size == 0) = (a0.size == 0) := by
      by_cases q : a0.size = 0
      · rw [q]; rfl
      · rw [beq_eq_false_iff_ne.2 q, beq_eq_false_iff_ne.2 (show nI a0.size ≠ 0 by simp only [nI]; omega)]
    rw [e]
    simp only
    cases (a0.size == 0) <;> cases (ByteArray.toList (formB b) == ByteArray.toList a0) <;> rfl
noncomputable def ou_spec_ReadBatch_4 {R : Type} (k : Kt R) : (((ByteArray) × (List (ByteArray × ByteArray × Bool × Unit)) × Unit) ⊕ ((Bool) × (List (ByteArray × ByteArray × Bool × Unit)) × Unit)) → Option R := (onSum (fun d => k (.exit 0) (((pa_spec_ReadBatch 4).2 2).st d) (((pa_spec_ReadBatch 4).2 2).nid)) (fun d => k .ret (((pa_spec_ReadBatch 4).2 1).st d) (((pa_spec_ReadBatch 4).2 1).nid)))
noncomputable def L_spec_ReadBatch {R : Type} : Lt R pa_spec_ReadBatch := (addL (pat := pa_spec_ReadBatch) 4 (fun d k => (lo_spec_ReadBatch_4 (fu_spec_ReadBatch_4 d.1 d.2.1 d.2.2.1) d.1 d.2.1 d.2.2.1).bind (ou_spec_ReadBatch_4 k)) noL)
theorem rd_spec_ReadBatch_4 {R : Type} (nx : (pa_spec_ReadBatch 4).1.D → Kt R → Option R) (k : Kt R) (v0 : ByteArray) (v5 : ByteArray) (r0 : List (ByteArray × ByteArray × Bool × Unit)) : ev Try.prog ⟨ta_spec_ReadBatch, 0, 70, pa_spec_ReadBatch⟩ L_spec_ReadBatch co_spec_ReadBatch_4 ((pa_spec_ReadBatch 4).1.st (v0, v5, r0, ())) (pa_spec_ReadBatch 4).1.nid (roundK 0 (pa_spec_ReadBatch 4) nx k) = tr_spec_ReadBatch_4  (fun d => nx d k) (fun d => k (.exit 0) (((pa_spec_ReadBatch 4).2 2).st d) (((pa_spec_ReadBatch 4).2 2).nid)) (fun d => k .ret (((pa_spec_ReadBatch 4).2 1).st d) (((pa_spec_ReadBatch 4).2 1).nid)) v0 v5 r0 := by kernel_rfl
theorem lp_spec_ReadBatch_4 {R : Type} : ∀ (m : Nat) (d : (pa_spec_ReadBatch 4).1.D) (k : Kt R), loopN 0 (pa_spec_ReadBatch 4) (fun s nid k => ev Try.prog ⟨ta_spec_ReadBatch, 0, 70, pa_spec_ReadBatch⟩ L_spec_ReadBatch co_spec_ReadBatch_4 s nid k) m d k = (lo_spec_ReadBatch_4 m d.1 d.2.1 d.2.2.1).bind (ou_spec_ReadBatch_4 k)
  | 0, _, _ => rfl
  | m + 1, ⟨v0, v5, r0, ⟨⟩⟩, k => (rd_spec_ReadBatch_4 _ k v0 v5 r0).trans ((congrArg (fun F => tr_spec_ReadBatch_4  F (fun d => k (.exit 0) (((pa_spec_ReadBatch 4).2 2).st d) (((pa_spec_ReadBatch 4).2 2).nid)) (fun d => k .ret (((pa_spec_ReadBatch 4).2 1).st d) (((pa_spec_ReadBatch 4).2 1).nid)) v0 v5 r0) (funext fun d => lp_spec_ReadBatch_4 m d k)).trans (na_spec_ReadBatch_4 (f := ou_spec_ReadBatch_4 k)  (fun d => lo_spec_ReadBatch_4 m d.1 d.2.1 d.2.2.1) (fun d => some (.inl (d))) (fun d => some (.inr (d))) v0 v5 r0))
theorem en_spec_ReadBatch (a0 : ByteArray) : evalF Try.prog ta_spec_ReadBatch pa_spec_ReadBatch sg_spec_ReadBatch Try.f33 L_spec_ReadBatch (a0, ()) = de_spec_ReadBatch a0 := by kernel_rfl
theorem si_spec_ReadBatch : SigsOk Try.prog ta_spec_ReadBatch := SigsOk.of fun f sd h => by
  try dsimp only [Tb.of, ta_spec_ReadBatch] at h
  split at h
  · rename_i e; subst e; cases h; exact sn_spec_FormBatch
  split at h
  · rename_i e; subst e; cases h; exact sn_spec_l4Piece
  cases h
theorem lk_spec_ReadBatch_4 {R : Type} : LoopOk Try.prog R 70 0 pa_spec_ReadBatch L_spec_ReadBatch co_spec_ReadBatch_4 :=
  loop_key (cfg := ⟨ta_spec_ReadBatch, 0, 70, pa_spec_ReadBatch⟩) (key := 4) (by kernel_rfl) (by kernel_rfl) si_spec_ReadBatch rfl rfl (fun d k r h => ⟨fu_spec_ReadBatch_4 d.1 d.2.1 d.2.2.1, (lp_spec_ReadBatch_4 _ d k).trans h⟩) (fun c hc => by rw [show loopsIn co_spec_ReadBatch_4 = [] from by kernel_rfl] at hc; cases hc)
theorem sn_spec_ReadBatch : Callable Try.prog 33 ∧ Sound Try.prog 33 sd_spec_ReadBatch.sg sd_spec_ReadBatch.den :=
  fn_loops (pat := pa_spec_ReadBatch) L_spec_ReadBatch (by kernel_rfl) si_spec_ReadBatch Try.func33 (by kernel_rfl) (by kernel_rfl) (fun c hc => by rw [show loopsIn (bodyOf Try.f33) = [co_spec_ReadBatch_4] from by kernel_rfl] at hc; simp only [List.mem_cons, List.not_mem_nil, or_false] at hc; rcases hc with rfl <;> first | exact lk_spec_ReadBatch_4) fun x r h => by
    obtain ⟨a0, ⟨⟩⟩ := x; rw [← h]; exact (en_spec_ReadBatch a0).trans (eq_spec_ReadBatch a0)
def m_impl_in (v lo hi : Int) : Bool := inB v lo hi
def sg_impl_in : Sig := ⟨[.rd (.int .i64), .rd (.int .i64), .rd (.int .i64)], [none, none, none], [.rd .bool], [none]⟩
noncomputable def sd_impl_in : SD := ⟨sg_impl_in, fun x => some (((m_impl_in x.1 x.2.1 x.2.2.1), ()), (()))⟩
noncomputable def ta_impl_in : Tb := Tb.of fun f => none
def pa_impl_in : Nat → Pat × (Nat → Pat) := fun k => (⟨[], [], []⟩, fun _ => ⟨[], [], []⟩)
noncomputable def de_impl_in (a0 : Int) (a1 : Int) (a2 : Int) : Option ((((Bool) × Unit) × (Unit))) :=
  bif decide (a0 ≥ a1) then some ((decide (a0 ≤ a2), ()), ()) else some ((false, ()), ())
theorem eq_impl_in (a0 a1 a2 : Int) : de_impl_in a0 a1 a2 = some ((m_impl_in a0 a1 a2, ()), ()) := by
  unfold de_impl_in m_impl_in inB
  by_cases h : a0 ≥ a1
  · have : decide (a1 ≤ a0) = true := by simpa using h
    simp [h, this]
  · have : decide (a1 ≤ a0) = false := by simpa using h
    simp [h, this]
theorem en_impl_in (a0 : Int) (a1 : Int) (a2 : Int) : evalF Try.prog ta_impl_in pa_impl_in sg_impl_in Try.f76 noL (a0, a1, a2, ()) = de_impl_in a0 a1 a2 := by kernel_rfl
theorem si_impl_in : SigsOk Try.prog ta_impl_in := SigsOk.of fun f sd h => by
  try dsimp only [Tb.of, ta_impl_in] at h
  cases h
theorem sn_impl_in : Callable Try.prog 76 ∧ Sound Try.prog 76 sd_impl_in.sg sd_impl_in.den :=
  fn_plain (pat := pa_impl_in) (by kernel_rfl) si_impl_in Try.func76 (by kernel_rfl) (by kernel_rfl) (by kernel_rfl) fun x r h => by
    obtain ⟨a0, a1, a2, ⟨⟩⟩ := x; rw [← h]; exact (en_impl_in a0 a1 a2).trans (eq_impl_in a0 a1 a2)
def m_impl_goodKey (k : ByteArray) : Bool := keyOk k
def sg_impl_goodKey : Sig := ⟨[.rd .str], [none], [.rd .bool], [none]⟩
noncomputable def sd_impl_goodKey : SD := ⟨sg_impl_goodKey, fun x => some (((m_impl_goodKey x.1), ()), (()))⟩
noncomputable def ta_impl_goodKey : Tb := Tb.of fun f => if f = 76 then some sd_impl_in else none
def pa_impl_goodKey : Nat → Pat × (Nat → Pat) := fun k => (⟨[], [], []⟩, fun _ => ⟨[], [], []⟩)
noncomputable def de_impl_goodKey (a0 : ByteArray) : Option ((((Bool) × Unit) × (Unit))) :=
  some ((m_impl_in (nI (ByteArray.size a0)) 1 20, ()), ())
theorem eq_impl_goodKey (a0 : ByteArray) : de_impl_goodKey a0 = some ((m_impl_goodKey a0, ()), ()) := rfl
theorem en_impl_goodKey (a0 : ByteArray) : evalF Try.prog ta_impl_goodKey pa_impl_goodKey sg_impl_goodKey Try.f69 noL (a0, ()) = de_impl_goodKey a0 := by kernel_rfl
theorem si_impl_goodKey : SigsOk Try.prog ta_impl_goodKey := SigsOk.of fun f sd h => by
  try dsimp only [Tb.of, ta_impl_goodKey] at h
  split at h
  · rename_i e; subst e; cases h; exact sn_impl_in
  cases h
theorem sn_impl_goodKey : Callable Try.prog 69 ∧ Sound Try.prog 69 sd_impl_goodKey.sg sd_impl_goodKey.den :=
  fn_plain (pat := pa_impl_goodKey) (by kernel_rfl) si_impl_goodKey Try.func69 (by kernel_rfl) (by kernel_rfl) (by kernel_rfl) fun x r h => by
    obtain ⟨a0, ⟨⟩⟩ := x; rw [← h]; exact (en_impl_goodKey a0).trans (eq_impl_goodKey a0)
def m_impl_ValidBatch (b : List Chg) : Bool := validBatch b
def sg_impl_ValidBatch : Sig := ⟨[.rd (.sl (.pair .str (.pair .str (.pair .bool .unit))))], [none], [.rd .bool], [none]⟩
noncomputable def sd_impl_ValidBatch : SD := ⟨sg_impl_ValidBatch, fun x => some (((m_impl_ValidBatch x.1), ()), (()))⟩
noncomputable def ta_impl_ValidBatch : Tb := Tb.of fun f => if f = 69 then some sd_impl_goodKey else if f = 76 then some sd_impl_in else none
def pa_impl_ValidBatch : Nat → Pat × (Nat → Pat) := fun k => if k = 5 then (⟨[.sl 9 0 (.pair .str (.pair .str (.pair .bool .unit)))], [(9, .lf (.d (.sl (.pair .str (.pair .str (.pair .bool .unit)))))), (10, .lf (.d (.int .i64))), (11, .lf (.d (.int .i64)))], []⟩, fun e => if e = 1 then ⟨[], [(2, .lf (.d .bool))], []⟩ else if e = 2 then ⟨[], [], []⟩ else ⟨[], [], []⟩) else (⟨[], [], []⟩, fun _ => ⟨[], [], []⟩)
noncomputable def co_impl_ValidBatch_5 : Code := (loopsIn (bodyOf Try.f82)).getD 0 .skip
def fu_impl_ValidBatch_5 (v9 : List (ByteArray × ByteArray × Bool × Unit)) (v10 : Int) (v11 : Int) : Nat := (v10 - v11).toNat + 1
noncomputable def tr_impl_ValidBatch_5 {R : Type}  (NX : ((List (ByteArray × ByteArray × Bool × Unit)) × (Int) × (Int) × Unit) → Option R) (X2 : (Unit) → Option R) (X1 : ((Bool) × Unit) → Option R) (v9 : List (ByteArray × ByteArray × Bool × Unit)) (v10 : Int) (v11 : Int) : Option R :=
  bif decide (v11 < v10) then
    bif decide (0 ≤ v11) then
      bif decide (v11 < nI (List.length v9)) then
        bif !m_impl_goodKey (List.getD v9 (Int.toNat v11) (ByteArray.mk #[], ByteArray.mk #[], false, ())).fst then X1 (false, ())
        else
          bif decide (nI (ByteArray.size (List.getD v9 (Int.toNat v11) (ByteArray.mk #[], ByteArray.mk #[], false, ())).snd.fst) > 100) then X1 (false, ())
          else
            bif (List.getD v9 (Int.toNat v11) (ByteArray.mk #[], ByteArray.mk #[], false, ())).snd.snd.fst then
              bif !ByteArray.toList (List.getD v9 (Int.toNat v11) (ByteArray.mk #[], ByteArray.mk #[], false, ())).snd.fst == ByteArray.toList (ByteArray.mk #[]) then X1 (false, ())
              else NX (v9, v10, IntKind.wrap IntKind.i64 (v11 + 1), ())
            else NX (v9, v10, IntKind.wrap IntKind.i64 (v11 + 1), ())
      else none
    else none
  else X2 PUnit.unit
noncomputable def lo_impl_ValidBatch_5 : Nat → (List (ByteArray × ByteArray × Bool × Unit)) → (Int) → (Int) →  Option ((Unit) ⊕ ((Bool) × Unit))
  | 0, _, _, _ => none
  | m + 1, v9, v10, v11 => tr_impl_ValidBatch_5  (fun d => lo_impl_ValidBatch_5 m d.1 d.2.1 d.2.2.1) (fun d => some (.inl (d))) (fun d => some (.inr (d))) v9 v10 v11
theorem na_impl_ValidBatch_5 {R S : Type}  (NX : ((List (ByteArray × ByteArray × Bool × Unit)) × (Int) × (Int) × Unit) → Option R) (X2 : (Unit) → Option R) (X1 : ((Bool) × Unit) → Option R) (v9 : List (ByteArray × ByteArray × Bool × Unit)) (v10 : Int) (v11 : Int) (f : R → Option S) : tr_impl_ValidBatch_5  (fun d => (NX d).bind f) (fun d => (X2 d).bind f) (fun d => (X1 d).bind f) v9 v10 v11 = (tr_impl_ValidBatch_5  NX X2 X1 v9 v10 v11).bind f := by
  unfold tr_impl_ValidBatch_5
  simp only [cond_bind, ite_bind, onSum_bind, Option.bind_assoc, Option.bind_none, Option.bind_some]
noncomputable def de_impl_ValidBatch (a0 : List (ByteArray × ByteArray × Bool × Unit)) : Option ((((Bool) × Unit) × (Unit))) :=
  bif !m_impl_in (nI (List.length a0)) 1 20 then some ((false, ()), ())
  else Option.bind ((fun d => lo_impl_ValidBatch_5 (fu_impl_ValidBatch_5 d.1 d.2.1 d.2.2.1) d.1 d.2.1 d.2.2.1) (a0, nI (List.length a0), 0, ())) fun val => onSum (fun val => some ((true, ()), ())) (fun val => some ((val.fst, ()), ())) val
theorem eq_impl_ValidBatch (a0 : List (ByteArray × ByteArray × Bool × Unit)) : de_impl_ValidBatch a0 = some (((m_impl_ValidBatch a0), ()), (())) := by
  unfold de_impl_ValidBatch m_impl_ValidBatch validBatch
  have tl : ByteArray.toList (ByteArray.mk #[]) = [] := by decide +kernel
  show (bif !inB (a0.length : Int) 1 20 then _ else _) = _
  cases hin : inB (a0.length : Int) 1 20 with
  | false => rfl
  | true =>
    have hlen : a0.length ≤ 20 := by have := (inB_r hin).2; omega
    have hL := all_loop (n := a0.length) (fun i => okChg (a0.getD i zC)) (g := fun m i => lo_impl_ValidBatch_5 m a0 (nI a0.length) i) (ok := .inl ()) (bad := .inr (false, ())) (fun m i hi => by
      show lo_impl_ValidBatch_5 (m + 1) a0 (nI a0.length) i = _
      simp only [lo_impl_ValidBatch_5, tr_impl_ValidBatch_5]
      rw [tl, cLt hi, cLe0, wI (show i < 4611686018427387904 by omega), Int.toNat_natCast]
      have g1 : decide (nI (ByteArray.size (List.getD a0 i (ByteArray.mk #[], ByteArray.mk #[], false, ())).2.1) > 100) = !decide ((a0.getD i zC).2.1.size ≤ 100) := gt100 _ 100
      rw [g1]
      show (bif !keyOk (a0.getD i zC).1 then _ else (bif _ then _ else (bif (a0.getD i zC).2.2.1 then (bif !((a0.getD i zC).2.1.toList == []) then _ else _) else _))) = _
      unfold okChg
      cases keyOk (a0.getD i zC).1 <;> cases decide ((a0.getD i zC).2.1.size ≤ 100) <;> cases (a0.getD i zC).2.2.1 <;> cases ((a0.getD i zC).2.1.toList == []) <;> rfl) (fun m => by
      show lo_impl_ValidBatch_5 (m + 1) a0 (nI a0.length) (a0.length : Int) = _
      simp only [lo_impl_ValidBatch_5, tr_impl_ValidBatch_5]
      rw [cLtF]
      rfl) (fu_impl_ValidBatch_5 a0 (nI a0.length) 0) 0 (by omega) (by simp [fu_impl_ValidBatch_5, nI])
    refine bi_ hL ?_
    rw [Nat.sub_zero]
    cases (List.range' 0 a0.length).all (fun i => okChg (a0.getD i zC)) <;> rfl
noncomputable def ou_impl_ValidBatch_5 {R : Type} (k : Kt R) : ((Unit) ⊕ ((Bool) × Unit)) → Option R := (onSum (fun d => k (.exit 0) (((pa_impl_ValidBatch 5).2 2).st d) (((pa_impl_ValidBatch 5).2 2).nid)) (fun d => k .ret (((pa_impl_ValidBatch 5).2 1).st d) (((pa_impl_ValidBatch 5).2 1).nid)))
noncomputable def L_impl_ValidBatch {R : Type} : Lt R pa_impl_ValidBatch := (addL (pat := pa_impl_ValidBatch) 5 (fun d k => (lo_impl_ValidBatch_5 (fu_impl_ValidBatch_5 d.1 d.2.1 d.2.2.1) d.1 d.2.1 d.2.2.1).bind (ou_impl_ValidBatch_5 k)) noL)
theorem rd_impl_ValidBatch_5 {R : Type} (nx : (pa_impl_ValidBatch 5).1.D → Kt R → Option R) (k : Kt R) (v9 : List (ByteArray × ByteArray × Bool × Unit)) (v10 : Int) (v11 : Int) : ev Try.prog ⟨ta_impl_ValidBatch, 0, 35, pa_impl_ValidBatch⟩ L_impl_ValidBatch co_impl_ValidBatch_5 ((pa_impl_ValidBatch 5).1.st (v9, v10, v11, ())) (pa_impl_ValidBatch 5).1.nid (roundK 0 (pa_impl_ValidBatch 5) nx k) = tr_impl_ValidBatch_5  (fun d => nx d k) (fun d => k (.exit 0) (((pa_impl_ValidBatch 5).2 2).st d) (((pa_impl_ValidBatch 5).2 2).nid)) (fun d => k .ret (((pa_impl_ValidBatch 5).2 1).st d) (((pa_impl_ValidBatch 5).2 1).nid)) v9 v10 v11 := by kernel_rfl
theorem lp_impl_ValidBatch_5 {R : Type} : ∀ (m : Nat) (d : (pa_impl_ValidBatch 5).1.D) (k : Kt R), loopN 0 (pa_impl_ValidBatch 5) (fun s nid k => ev Try.prog ⟨ta_impl_ValidBatch, 0, 35, pa_impl_ValidBatch⟩ L_impl_ValidBatch co_impl_ValidBatch_5 s nid k) m d k = (lo_impl_ValidBatch_5 m d.1 d.2.1 d.2.2.1).bind (ou_impl_ValidBatch_5 k)
  | 0, _, _ => rfl
  | m + 1, ⟨v9, v10, v11, ⟨⟩⟩, k => (rd_impl_ValidBatch_5 _ k v9 v10 v11).trans ((congrArg (fun F => tr_impl_ValidBatch_5  F (fun d => k (.exit 0) (((pa_impl_ValidBatch 5).2 2).st d) (((pa_impl_ValidBatch 5).2 2).nid)) (fun d => k .ret (((pa_impl_ValidBatch 5).2 1).st d) (((pa_impl_ValidBatch 5).2 1).nid)) v9 v10 v11) (funext fun d => lp_impl_ValidBatch_5 m d k)).trans (na_impl_ValidBatch_5 (f := ou_impl_ValidBatch_5 k)  (fun d => lo_impl_ValidBatch_5 m d.1 d.2.1 d.2.2.1) (fun d => some (.inl (d))) (fun d => some (.inr (d))) v9 v10 v11))
theorem en_impl_ValidBatch (a0 : List (ByteArray × ByteArray × Bool × Unit)) : evalF Try.prog ta_impl_ValidBatch pa_impl_ValidBatch sg_impl_ValidBatch Try.f82 L_impl_ValidBatch (a0, ()) = de_impl_ValidBatch a0 := by kernel_rfl
theorem si_impl_ValidBatch : SigsOk Try.prog ta_impl_ValidBatch := SigsOk.of fun f sd h => by
  try dsimp only [Tb.of, ta_impl_ValidBatch] at h
  split at h
  · rename_i e; subst e; cases h; exact sn_impl_goodKey
  split at h
  · rename_i e; subst e; cases h; exact sn_impl_in
  cases h
theorem lk_impl_ValidBatch_5 {R : Type} : LoopOk Try.prog R 35 0 pa_impl_ValidBatch L_impl_ValidBatch co_impl_ValidBatch_5 :=
  loop_key (cfg := ⟨ta_impl_ValidBatch, 0, 35, pa_impl_ValidBatch⟩) (key := 5) (by kernel_rfl) (by kernel_rfl) si_impl_ValidBatch rfl rfl (fun d k r h => ⟨fu_impl_ValidBatch_5 d.1 d.2.1 d.2.2.1, (lp_impl_ValidBatch_5 _ d k).trans h⟩) (fun c hc => by rw [show loopsIn co_impl_ValidBatch_5 = [] from by kernel_rfl] at hc; cases hc)
theorem sn_impl_ValidBatch : Callable Try.prog 82 ∧ Sound Try.prog 82 sd_impl_ValidBatch.sg sd_impl_ValidBatch.den :=
  fn_loops (pat := pa_impl_ValidBatch) L_impl_ValidBatch (by kernel_rfl) si_impl_ValidBatch Try.func82 (by kernel_rfl) (by kernel_rfl) (fun c hc => by rw [show loopsIn (bodyOf Try.f82) = [co_impl_ValidBatch_5] from by kernel_rfl] at hc; simp only [List.mem_cons, List.not_mem_nil, or_false] at hc; rcases hc with rfl <;> first | exact lk_impl_ValidBatch_5) fun x r h => by
    obtain ⟨a0, ⟨⟩⟩ := x; rw [← h]; exact (en_impl_ValidBatch a0).trans (eq_impl_ValidBatch a0)
def m_impl_ReadBatch_1 (s : ByteArray) : (ByteArray × Bool) × ByteArray := (((pieceS s).1, (pieceS s).2.2), (pieceS s).2.1)
def sg_impl_ReadBatch_1 : Sig := ⟨[.bx 9 .str], [none], [.rd .str, .rd .bool], [none, none]⟩
noncomputable def sd_impl_ReadBatch_1 : SD := ⟨sg_impl_ReadBatch_1, fun x => some (((m_impl_ReadBatch_1 x.1).1.1, (m_impl_ReadBatch_1 x.1).1.2, ()), ((m_impl_ReadBatch_1 x.1).2, ()))⟩
noncomputable def ta_impl_ReadBatch_1 : Tb := Tb.of fun f => none
def pa_impl_ReadBatch_1 : Nat → Pat × (Nat → Pat) := fun k => (⟨[], [], []⟩, fun _ => ⟨[], [], []⟩)
noncomputable def de_impl_ReadBatch_1 (a0 : ByteArray) : Option ((((ByteArray) × (Bool) × Unit) × ((ByteArray) × Unit))) :=
  bif decide (nI (ByteArray.size a0) < 1) then some ((ByteArray.mk #[], false, ()), a0, ())
  else
    bif decide (0 < nI (ByteArray.size a0)) then
      bif decide (nI (ByteArray.size a0) < IntKind.wrap IntKind.i64 (1 + IntKind.wrap IntKind.i64 (byteAt a0 0))) then some ((ByteArray.mk #[], false, ()), a0, ())
      else
        bif decide (0 < nI (ByteArray.size a0)) then
          bif decide (1 ≤ IntKind.wrap IntKind.i64 (1 + IntKind.wrap IntKind.i64 (byteAt a0 0))) then
            bif decide (IntKind.wrap IntKind.i64 (1 + IntKind.wrap IntKind.i64 (byteAt a0 0)) ≤ nI (ByteArray.size a0)) then
              bif decide (0 < nI (ByteArray.size a0)) then
                bif decide (0 ≤ IntKind.wrap IntKind.i64 (1 + IntKind.wrap IntKind.i64 (byteAt a0 0))) then
                  bif decide (IntKind.wrap IntKind.i64 (1 + IntKind.wrap IntKind.i64 (byteAt a0 0)) ≤ nI (ByteArray.size a0)) then
                    some
                      ((cutOf a0 1 (IntKind.wrap IntKind.i64 (1 + IntKind.wrap IntKind.i64 (byteAt a0 0))), true, ()),
                        cutOf a0 (IntKind.wrap IntKind.i64 (1 + IntKind.wrap IntKind.i64 (byteAt a0 0))) (nI (ByteArray.size a0)), ())
                  else none
                else none
              else none
            else none
          else none
        else none
    else none
theorem eq_impl_ReadBatch_1 (a0 : ByteArray) : de_impl_ReadBatch_1 a0 = some (((m_impl_ReadBatch_1 a0).1.1, (m_impl_ReadBatch_1 a0).1.2, ()), ((m_impl_ReadBatch_1 a0).2, ())) := by
  unfold de_impl_ReadBatch_1 m_impl_ReadBatch_1 pieceS
  obtain ⟨b0, b1⟩ := byteAt_in a0 0
  have hw : IntKind.wrap IntKind.i64 (1 + IntKind.wrap IntKind.i64 (byteAt a0 0)) = 1 + byteAt a0 0 := by
    rw [wrap_ok (n := byteAt a0 0) (by omega) (by omega), wrap_ok (by omega) (by omega)]
  rw [hw]
  by_cases h0 : (a0.size : Int) < 1
  · rw [if_pos (Or.inl h0), decide_eq_true (show nI a0.size < 1 from h0)]
    rfl
  · rw [decide_eq_false (show ¬ nI a0.size < 1 from h0), decide_eq_true (show 0 < nI a0.size by simp only [nI]; omega)]
    by_cases h1 : (a0.size : Int) < 1 + byteAt a0 0
    · rw [if_pos (Or.inr h1), decide_eq_true (show nI a0.size < 1 + byteAt a0 0 from h1)]
      rfl
    · rw [if_neg (by omega), decide_eq_false (show ¬ nI a0.size < 1 + byteAt a0 0 from h1), decide_eq_true (show 1 ≤ 1 + byteAt a0 0 by omega), decide_eq_true (show 0 ≤ 1 + byteAt a0 0 by omega), decide_eq_true (show 1 + byteAt a0 0 ≤ nI a0.size by simp only [nI]; omega)]
      rfl
theorem en_impl_ReadBatch_1 (a0 : ByteArray) : evalF Try.prog ta_impl_ReadBatch_1 pa_impl_ReadBatch_1 sg_impl_ReadBatch_1 Try.f88 noL (a0, ()) = de_impl_ReadBatch_1 a0 := by kernel_rfl
theorem si_impl_ReadBatch_1 : SigsOk Try.prog ta_impl_ReadBatch_1 := SigsOk.of fun f sd h => by
  try dsimp only [Tb.of, ta_impl_ReadBatch_1] at h
  cases h
theorem sn_impl_ReadBatch_1 : Callable Try.prog 88 ∧ Sound Try.prog 88 sd_impl_ReadBatch_1.sg sd_impl_ReadBatch_1.den :=
  fn_plain (pat := pa_impl_ReadBatch_1) (by kernel_rfl) si_impl_ReadBatch_1 Try.func88 (by kernel_rfl) (by kernel_rfl) (by kernel_rfl) fun x r h => by
    obtain ⟨a0, ⟨⟩⟩ := x; rw [← h]; exact (en_impl_ReadBatch_1 a0).trans (eq_impl_ReadBatch_1 a0)
def m_impl_ReadBatch (s : ByteArray) : List Chg × Bool := readB s
def fu_impl_ReadBatch_5 (r0 : List Chg) (b1 : ByteArray) : Nat := 22
def sg_impl_ReadBatch : Sig := ⟨[.rd .str], [none], [.own 113 (.pair .str (.pair .str (.pair .bool .unit))), .rd .bool], [none, none]⟩
noncomputable def sd_impl_ReadBatch : SD := ⟨sg_impl_ReadBatch, fun x => some (((m_impl_ReadBatch x.1).1, (m_impl_ReadBatch x.1).2, ()), (()))⟩
noncomputable def ta_impl_ReadBatch : Tb := Tb.of fun f => if f = 82 then some sd_impl_ValidBatch else if f = 88 then some sd_impl_ReadBatch_1 else none
def pa_impl_ReadBatch : Nat → Pat × (Nat → Pat) := fun k => if k = 5 then (⟨[.row 4 0 113 (.pair .str (.pair .str (.pair .bool .unit)))], [(4, .lf (.row 0)), (5, .lf (.ptr 1 0)), (6, .fn 88 [.ptr 1 0])], [.row 113 (.pair .str (.pair .str (.pair .bool .unit))), .box 9 [.d .str]]⟩, fun e => if e = 1 then ⟨[.row 2 0 113 (.pair .str (.pair .str (.pair .bool .unit)))], [(2, .lf (.row 0)), (3, .lf (.d .bool))], [.row 113 (.pair .str (.pair .str (.pair .bool .unit)))]⟩ else if e = 2 then ⟨[.row 4 0 113 (.pair .str (.pair .str (.pair .bool .unit)))], [(4, .lf (.row 0)), (5, .lf (.ptr 1 0))], [.row 113 (.pair .str (.pair .str (.pair .bool .unit))), .box 9 [.d .str]]⟩ else ⟨[], [], []⟩) else (⟨[], [], []⟩, fun _ => ⟨[], [], []⟩)
noncomputable def co_impl_ReadBatch_5 : Code := (loopsIn (bodyOf Try.f34)).getD 0 .skip
noncomputable def tr_impl_ReadBatch_5 {R : Type}  (NX : ((List (ByteArray × ByteArray × Bool × Unit)) × (ByteArray) × Unit) → Option R) (X2 : ((List (ByteArray × ByteArray × Bool × Unit)) × (ByteArray) × Unit) → Option R) (X1 : ((Bool) × (List (ByteArray × ByteArray × Bool × Unit)) × Unit) → Option R) (r0 : List (ByteArray × ByteArray × Bool × Unit)) (b1 : ByteArray) : Option R :=
  bif decide (nI (ByteArray.size b1) > 0) then
    bif decide (nI (List.length r0) ≤ 20) then
      bif decide (0 < nI (ByteArray.size b1)) then
        bif decide (1 ≤ nI (ByteArray.size b1)) then
          bif decide (byteAt b1 0 > 1) then X1 (false, [], ())
          else
            bif !(pieceS (cutOf b1 1 (nI (ByteArray.size b1)))).snd.snd then X1 (false, [], ())
            else
              bif byteAt b1 0 == 0 then
                bif !(pieceS (pieceS (cutOf b1 1 (nI (ByteArray.size b1)))).snd.fst).snd.snd then X1 (false, [], ())
                else
                  bif
                      decide
                        ((List.length r0 +
                              List.length [((pieceS (cutOf b1 1 (nI (ByteArray.size b1)))).fst, (pieceS (pieceS (cutOf b1 1 (nI (ByteArray.size b1)))).snd.fst).fst, byteAt b1 0 == 1, ())]) *
                            40 ≤
                          140737488355328) then
                    NX
                      (r0 ++ [((pieceS (cutOf b1 1 (nI (ByteArray.size b1)))).fst, (pieceS (pieceS (cutOf b1 1 (nI (ByteArray.size b1)))).snd.fst).fst, byteAt b1 0 == 1, ())],
                        (pieceS (pieceS (cutOf b1 1 (nI (ByteArray.size b1)))).snd.fst).snd.fst, ())
                  else none
              else
                bif decide ((List.length r0 + List.length [((pieceS (cutOf b1 1 (nI (ByteArray.size b1)))).fst, ByteArray.mk #[], byteAt b1 0 == 1, ())]) * 40 ≤ 140737488355328) then
                  NX (r0 ++ [((pieceS (cutOf b1 1 (nI (ByteArray.size b1)))).fst, ByteArray.mk #[], byteAt b1 0 == 1, ())], (pieceS (cutOf b1 1 (nI (ByteArray.size b1)))).snd.fst, ())
                else none
        else none
      else none
    else X2 (r0, b1, ())
  else X2 (r0, b1, ())
noncomputable def lo_impl_ReadBatch_5 : Nat → (List (ByteArray × ByteArray × Bool × Unit)) → (ByteArray) →  Option (((List (ByteArray × ByteArray × Bool × Unit)) × (ByteArray) × Unit) ⊕ ((Bool) × (List (ByteArray × ByteArray × Bool × Unit)) × Unit))
  | 0, _, _ => none
  | m + 1, r0, b1 => tr_impl_ReadBatch_5  (fun d => lo_impl_ReadBatch_5 m d.1 d.2.1) (fun d => some (.inl (d))) (fun d => some (.inr (d))) r0 b1
theorem na_impl_ReadBatch_5 {R S : Type}  (NX : ((List (ByteArray × ByteArray × Bool × Unit)) × (ByteArray) × Unit) → Option R) (X2 : ((List (ByteArray × ByteArray × Bool × Unit)) × (ByteArray) × Unit) → Option R) (X1 : ((Bool) × (List (ByteArray × ByteArray × Bool × Unit)) × Unit) → Option R) (r0 : List (ByteArray × ByteArray × Bool × Unit)) (b1 : ByteArray) (f : R → Option S) : tr_impl_ReadBatch_5  (fun d => (NX d).bind f) (fun d => (X2 d).bind f) (fun d => (X1 d).bind f) r0 b1 = (tr_impl_ReadBatch_5  NX X2 X1 r0 b1).bind f := by
  unfold tr_impl_ReadBatch_5
  simp only [cond_bind, ite_bind, onSum_bind, Option.bind_assoc, Option.bind_none, Option.bind_some]
noncomputable def de_impl_ReadBatch (a0 : ByteArray) : Option ((((List (ByteArray × ByteArray × Bool × Unit)) × (Bool) × Unit) × (Unit))) :=
  Option.bind ((fun d => lo_impl_ReadBatch_5 (fu_impl_ReadBatch_5 d.1 d.2.1) d.1 d.2.1) ([], a0, ())) fun val =>
    onSum
      (fun val =>
        bif decide (nI (ByteArray.size val.snd.fst) > 0) then some (([], false, ()), ()) else bif !m_impl_ValidBatch val.fst then some (([], false, ()), ()) else some ((val.fst, true, ()), ()))
      (fun val => some ((val.snd.fst, val.fst, ()), ())) val
def outI (o : Option (List Chg × ByteArray)) : (List Chg × ByteArray × Unit) ⊕ (Bool × List Chg × Unit) := match o with
  | some (b, t) => .inl (b, t, ())
  | none => .inr (false, [], ())
theorem rbI_loop : ∀ (f m : Nat) (r : List Chg) (s : ByteArray), r.length + f = 22 → f ≤ m → 1 ≤ f → lo_impl_ReadBatch_5 m r s = some (outI (parseB true f r s))
  | 0, _, _, _, _, _, h => by omega
  | f + 1, 0, _, _, _, h, _ => by omega
  | f + 1, m + 1, r, s, hf, hm, _ => by
    simp only [lo_impl_ReadBatch_5, tr_impl_ReadBatch_5, parseB]
    by_cases hs : s.size > 0
    · rw [decide_eq_true (show nI s.size > 0 by simp only [nI]; omega), decide_eq_true hs]
      by_cases hr : r.length ≤ 20
      · rw [decide_eq_true (show nI r.length ≤ 20 by simp only [nI]; omega), decide_eq_true hr, decide_eq_true (show 1 ≤ nI s.size by simp only [nI]; omega)]
        unfold stepB
        obtain ⟨b0, b1⟩ := byteAt_in s 0
        generalize pieceS (cutOf s 1 (nI s.size)) = p
        simp only [List.length_singleton, Bool.true_and, cond_true, Bool.and_self]
        rw [decide_eq_true (show (r.length + 1) * 40 ≤ 140737488355328 by omega)]
        by_cases h1 : byteAt s 0 > 1
        · rw [decide_eq_true h1]; rfl
        · rw [decide_eq_false h1]
          obtain ⟨k, t, o⟩ := p
          cases o
          · rfl
          · by_cases h2 : byteAt s 0 = 0
            · rw [h2]
              simp only [Bool.not_true, cond_false, cond_true]
              generalize pieceS t = q
              obtain ⟨v, u, o⟩ := q
              cases o
              · rfl
              · exact rbI_loop f m (r ++ [(k, v, false, ())]) u (by rw [List.length_append, List.length_singleton]; omega) (by omega) (by omega)
            · have h3 : byteAt s 0 = 1 := by omega
              rw [h3]
              exact rbI_loop f m (r ++ [(k, ByteArray.mk #[], true, ())]) t (by rw [List.length_append, List.length_singleton]; omega) (by omega) (by omega)
      · rw [decide_eq_false (show ¬ nI r.length ≤ 20 by simp only [nI]; omega), decide_eq_false hr]
        rfl
    · rw [decide_eq_false (show ¬ nI s.size > 0 by simp only [nI]; omega), decide_eq_false hs]
      rfl
theorem eq_impl_ReadBatch (a0 : ByteArray) : de_impl_ReadBatch a0 = some (((m_impl_ReadBatch a0).1, (m_impl_ReadBatch a0).2, ()), (())) := by
  unfold de_impl_ReadBatch m_impl_ReadBatch readB
  have hL := rbI_loop 22 22 [] a0 rfl (Nat.le_refl _) (by omega)
  refine bi_ hL ?_
  cases parseB true 22 [] a0 with
  | none => rfl
  | some bt =>
    obtain ⟨b, t⟩ := bt
    show (bif decide (nI t.size > 0) then _ else (bif !validBatch b then _ else _)) = _
    have e : decide (nI t.size > 0) = decide (t.size > 0) := decide_eq_decide.2 (by simp only [nI]; omega)
    rw [e]
    simp only
    cases decide (t.size > 0) <;> cases validBatch b <;> rfl
noncomputable def ou_impl_ReadBatch_5 {R : Type} (k : Kt R) : (((List (ByteArray × ByteArray × Bool × Unit)) × (ByteArray) × Unit) ⊕ ((Bool) × (List (ByteArray × ByteArray × Bool × Unit)) × Unit)) → Option R := (onSum (fun d => k (.exit 0) (((pa_impl_ReadBatch 5).2 2).st d) (((pa_impl_ReadBatch 5).2 2).nid)) (fun d => k .ret (((pa_impl_ReadBatch 5).2 1).st d) (((pa_impl_ReadBatch 5).2 1).nid)))
noncomputable def L_impl_ReadBatch {R : Type} : Lt R pa_impl_ReadBatch := (addL (pat := pa_impl_ReadBatch) 5 (fun d k => (lo_impl_ReadBatch_5 (fu_impl_ReadBatch_5 d.1 d.2.1) d.1 d.2.1).bind (ou_impl_ReadBatch_5 k)) noL)
theorem rd_impl_ReadBatch_5 {R : Type} (nx : (pa_impl_ReadBatch 5).1.D → Kt R → Option R) (k : Kt R) (r0 : List (ByteArray × ByteArray × Bool × Unit)) (b1 : ByteArray) : ev Try.prog ⟨ta_impl_ReadBatch, 0, 63, pa_impl_ReadBatch⟩ L_impl_ReadBatch co_impl_ReadBatch_5 ((pa_impl_ReadBatch 5).1.st (r0, b1, ())) (pa_impl_ReadBatch 5).1.nid (roundK 0 (pa_impl_ReadBatch 5) nx k) = tr_impl_ReadBatch_5  (fun d => nx d k) (fun d => k (.exit 0) (((pa_impl_ReadBatch 5).2 2).st d) (((pa_impl_ReadBatch 5).2 2).nid)) (fun d => k .ret (((pa_impl_ReadBatch 5).2 1).st d) (((pa_impl_ReadBatch 5).2 1).nid)) r0 b1 := by kernel_rfl
theorem lp_impl_ReadBatch_5 {R : Type} : ∀ (m : Nat) (d : (pa_impl_ReadBatch 5).1.D) (k : Kt R), loopN 0 (pa_impl_ReadBatch 5) (fun s nid k => ev Try.prog ⟨ta_impl_ReadBatch, 0, 63, pa_impl_ReadBatch⟩ L_impl_ReadBatch co_impl_ReadBatch_5 s nid k) m d k = (lo_impl_ReadBatch_5 m d.1 d.2.1).bind (ou_impl_ReadBatch_5 k)
  | 0, _, _ => rfl
  | m + 1, ⟨r0, b1, ⟨⟩⟩, k => (rd_impl_ReadBatch_5 _ k r0 b1).trans ((congrArg (fun F => tr_impl_ReadBatch_5  F (fun d => k (.exit 0) (((pa_impl_ReadBatch 5).2 2).st d) (((pa_impl_ReadBatch 5).2 2).nid)) (fun d => k .ret (((pa_impl_ReadBatch 5).2 1).st d) (((pa_impl_ReadBatch 5).2 1).nid)) r0 b1) (funext fun d => lp_impl_ReadBatch_5 m d k)).trans (na_impl_ReadBatch_5 (f := ou_impl_ReadBatch_5 k)  (fun d => lo_impl_ReadBatch_5 m d.1 d.2.1) (fun d => some (.inl (d))) (fun d => some (.inr (d))) r0 b1))
theorem en_impl_ReadBatch (a0 : ByteArray) : evalF Try.prog ta_impl_ReadBatch pa_impl_ReadBatch sg_impl_ReadBatch Try.f34 L_impl_ReadBatch (a0, ()) = de_impl_ReadBatch a0 := by kernel_rfl
theorem si_impl_ReadBatch : SigsOk Try.prog ta_impl_ReadBatch := SigsOk.of fun f sd h => by
  try dsimp only [Tb.of, ta_impl_ReadBatch] at h
  split at h
  · rename_i e; subst e; cases h; exact sn_impl_ValidBatch
  split at h
  · rename_i e; subst e; cases h; exact sn_impl_ReadBatch_1
  cases h
theorem lk_impl_ReadBatch_5 {R : Type} : LoopOk Try.prog R 63 0 pa_impl_ReadBatch L_impl_ReadBatch co_impl_ReadBatch_5 :=
  loop_key (cfg := ⟨ta_impl_ReadBatch, 0, 63, pa_impl_ReadBatch⟩) (key := 5) (by kernel_rfl) (by kernel_rfl) si_impl_ReadBatch rfl rfl (fun d k r h => ⟨fu_impl_ReadBatch_5 d.1 d.2.1, (lp_impl_ReadBatch_5 _ d k).trans h⟩) (fun c hc => by rw [show loopsIn co_impl_ReadBatch_5 = [] from by kernel_rfl] at hc; cases hc)
theorem sn_impl_ReadBatch : Callable Try.prog 34 ∧ Sound Try.prog 34 sd_impl_ReadBatch.sg sd_impl_ReadBatch.den :=
  fn_loops (pat := pa_impl_ReadBatch) L_impl_ReadBatch (by kernel_rfl) si_impl_ReadBatch Try.func34 (by kernel_rfl) (by kernel_rfl) (fun c hc => by rw [show loopsIn (bodyOf Try.f34) = [co_impl_ReadBatch_5] from by kernel_rfl] at hc; simp only [List.mem_cons, List.not_mem_nil, or_false] at hc; rcases hc with rfl <;> first | exact lk_impl_ReadBatch_5) fun x r h => by
    obtain ⟨a0, ⟨⟩⟩ := x; rw [← h]; exact (en_impl_ReadBatch a0).trans (eq_impl_ReadBatch a0)
def m_laws_markText (k : Int) : Option ByteArray := if k ≤ 36028797018963968 then some (mkT k) else none
def fu_laws_markText_5 (v0 : Int) (v3 : ByteArray) : Nat := 21
def sg_laws_markText : Sig := ⟨[.rd (.int .i64)], [none], [.rd .str], [none]⟩
noncomputable def sd_laws_markText : SD := ⟨sg_laws_markText, fun x => (m_laws_markText x.1).bind fun r => some ((r, ()), (()))⟩
noncomputable def ta_laws_markText : Tb := Tb.of fun f => none
def pa_laws_markText : Nat → Pat × (Nat → Pat) := fun k => if k = 5 then (⟨[], [(0, .lf (.d (.int .i64))), (3, .lf (.d .str))], []⟩, fun e => if e = 2 then ⟨[], [(3, .lf (.d .str))], []⟩ else ⟨[], [], []⟩) else (⟨[], [], []⟩, fun _ => ⟨[], [], []⟩)
noncomputable def co_laws_markText_5 : Code := (loopsIn (bodyOf Try.f89)).getD 0 .skip
noncomputable def tr_laws_markText_5 {R : Type}  (NX : ((Int) × (ByteArray) × Unit) → Option R) (X2 : ((ByteArray) × Unit) → Option R) (v0 : Int) (v3 : ByteArray) : Option R :=
  bif decide (v0 > 0) then
    bif decide (ByteArray.size (strOfNums [IntKind.wrap IntKind.u8 (IntKind.wrap IntKind.i64 (48 + Int.tmod v0 10))]) + ByteArray.size v3 ≤ 9223372036854775807) then
      NX (IntKind.wrap IntKind.i64 (Int.tdiv v0 10), strOfNums [IntKind.wrap IntKind.u8 (IntKind.wrap IntKind.i64 (48 + Int.tmod v0 10))] ++ v3, ())
    else none
  else X2 (v3, ())
noncomputable def lo_laws_markText_5 : Nat → (Int) → (ByteArray) →  Option ((ByteArray) × Unit)
  | 0, _, _ => none
  | m + 1, v0, v3 => tr_laws_markText_5  (fun d => lo_laws_markText_5 m d.1 d.2.1) (fun d => some (d)) v0 v3
theorem na_laws_markText_5 {R S : Type}  (NX : ((Int) × (ByteArray) × Unit) → Option R) (X2 : ((ByteArray) × Unit) → Option R) (v0 : Int) (v3 : ByteArray) (f : R → Option S) : tr_laws_markText_5  (fun d => (NX d).bind f) (fun d => (X2 d).bind f) v0 v3 = (tr_laws_markText_5  NX X2 v0 v3).bind f := by
  unfold tr_laws_markText_5
  simp only [cond_bind, ite_bind, onSum_bind, Option.bind_assoc, Option.bind_none, Option.bind_some]
noncomputable def de_laws_markText (a0 : Int) : Option ((((ByteArray) × Unit) × (Unit))) :=
  bif decide (a0 ≤ 0) then some ((ByteArray.mk #[109, 48], ()), ())
  else
    Option.bind ((fun d => lo_laws_markText_5 (fu_laws_markText_5 d.1 d.2.1) d.1 d.2.1) (a0, ByteArray.mk #[], ())) fun val =>
      bif decide (ByteArray.size (ByteArray.mk #[109]) + ByteArray.size val.fst ≤ 9223372036854775807) then some ((ByteArray.mk #[109] ++ val.fst, ()), ()) else none
theorem digit_byte {k : Int} (h : 0 ≤ k) : IntKind.wrap .u8 (IntKind.wrap .i64 (48 + Int.tmod k 10)) = 48 + k % 10 := by
  rw [Int.tmod_eq_emod_of_nonneg h]
  have h1 : 0 ≤ k % 10 := Int.emod_nonneg _ (by omega)
  have h2 : k % 10 < 10 := Int.emod_lt_of_pos _ (by omega)
  have e1 : IntKind.wrap .i64 (48 + k % 10) = 48 + k % 10 := wrap_ok (by omega) (by omega)
  rw [e1]
  simp [IntKind.wrap, IntKind.bits, IntKind.signed]
  omega
theorem lo_laws_markText : ∀ (m : Nat) (k : Int) (out : ByteArray), 0 ≤ k → k ≤ 36028797018963968 → k < 10 ^ m → out.size + m ≤ 100 → lo_laws_markText_5 (m + 1) k out = some (digsGo m k out, ())
  | 0, k, out, h0, hb, h1, _ => by
    simp only [lo_laws_markText_5, tr_laws_markText_5]
    have : ¬ k > 0 := by simp at h1; omega
    rw [decide_eq_false this]
    rfl
  | m + 1, k, out, h0, hb, h1, h2 => by
    rw [lo_laws_markText_5]
    simp only [tr_laws_markText_5, digsGo]
    by_cases h : k > 0
    · have e : IntKind.wrap .i64 (Int.tdiv k 10) = k / 10 := by
        rw [Int.tdiv_eq_ediv_of_nonneg h0]
        exact wrap_ok (by omega) (by omega)
      have hs : ByteArray.size (strOfNums [48 + k % 10]) = 1 := strOfNums_size _
      have h3 : k / 10 < 10 ^ m := Int.ediv_lt_of_lt_mul (by omega) (by rw [Int.pow_succ] at h1; exact h1)
      have c : ByteArray.size (strOfNums [48 + k % 10]) + ByteArray.size out ≤ 9223372036854775807 := by rw [hs]; omega
      have ih := lo_laws_markText m (k / 10) (strOfNums [48 + k % 10] ++ out) (by omega) (by omega) h3 (by rw [ByteArray.size_append, hs]; omega)
      rw [digit_byte h0, decide_eq_true h, if_pos h, e, decide_eq_true c]
      exact ih
    · rw [decide_eq_false h, if_neg h]
      rfl
theorem digsGo_size : ∀ (m : Nat) (k : Int) (out : ByteArray), (digsGo m k out).size ≤ out.size + m
  | 0, k, out => Nat.le_refl _
  | m + 1, k, out => by
    simp only [digsGo]
    split
    · have := digsGo_size m (k / 10) (strOfNums [48 + k % 10] ++ out)
      rw [ByteArray.size_append, strOfNums_size] at this
      simp at this
      omega
    · omega
theorem eq_laws_markText (a0 : Int) r (h : m_laws_markText a0 = some r) : de_laws_markText a0 = some ((r, ()), (())) := by
  unfold m_laws_markText at h
  split at h
  · rename_i hc
    cases h
    unfold de_laws_markText mkT
    by_cases q : a0 ≤ 0
    · rw [decide_eq_true q, if_pos q]; rfl
    · rw [decide_eq_false q, if_neg q]
      have hL := lo_laws_markText 20 a0 ⟨#[]⟩ (by omega) hc (by omega) (by decide)
      have hL' : lo_laws_markText_5 (fu_laws_markText_5 a0 ⟨#[]⟩) a0 ⟨#[]⟩ = _ := hL
      show (lo_laws_markText_5 (fu_laws_markText_5 a0 ⟨#[]⟩) a0 ⟨#[]⟩).bind _ = _
      rw [hL']
      have := digsGo_size 20 a0 ⟨#[]⟩
      have h0 : ByteArray.size ⟨#[]⟩ = 0 := rfl
      have h1 : ByteArray.size ⟨#[109]⟩ = 1 := rfl
      have c : ByteArray.size ⟨#[109]⟩ + ByteArray.size (digsGo 20 a0 ⟨#[]⟩) ≤ 9223372036854775807 := by omega
      show (bif decide (ByteArray.size ⟨#[109]⟩ + ByteArray.size (digsGo 20 a0 ⟨#[]⟩) ≤ 9223372036854775807) then _ else _) = _
      rw [decide_eq_true c]
      rfl
  · cases h
noncomputable def ou_laws_markText_5 {R : Type} (k : Kt R) : ((ByteArray) × Unit) → Option R := (fun d => k (.exit 0) (((pa_laws_markText 5).2 2).st d) (((pa_laws_markText 5).2 2).nid))
noncomputable def L_laws_markText {R : Type} : Lt R pa_laws_markText := (addL (pat := pa_laws_markText) 5 (fun d k => (lo_laws_markText_5 (fu_laws_markText_5 d.1 d.2.1) d.1 d.2.1).bind (ou_laws_markText_5 k)) noL)
theorem rd_laws_markText_5 {R : Type} (nx : (pa_laws_markText 5).1.D → Kt R → Option R) (k : Kt R) (v0 : Int) (v3 : ByteArray) : ev Try.prog ⟨ta_laws_markText, 0, 20, pa_laws_markText⟩ L_laws_markText co_laws_markText_5 ((pa_laws_markText 5).1.st (v0, v3, ())) (pa_laws_markText 5).1.nid (roundK 0 (pa_laws_markText 5) nx k) = tr_laws_markText_5  (fun d => nx d k) (fun d => k (.exit 0) (((pa_laws_markText 5).2 2).st d) (((pa_laws_markText 5).2 2).nid)) v0 v3 := by kernel_rfl
theorem lp_laws_markText_5 {R : Type} : ∀ (m : Nat) (d : (pa_laws_markText 5).1.D) (k : Kt R), loopN 0 (pa_laws_markText 5) (fun s nid k => ev Try.prog ⟨ta_laws_markText, 0, 20, pa_laws_markText⟩ L_laws_markText co_laws_markText_5 s nid k) m d k = (lo_laws_markText_5 m d.1 d.2.1).bind (ou_laws_markText_5 k)
  | 0, _, _ => rfl
  | m + 1, ⟨v0, v3, ⟨⟩⟩, k => (rd_laws_markText_5 _ k v0 v3).trans ((congrArg (fun F => tr_laws_markText_5  F (fun d => k (.exit 0) (((pa_laws_markText 5).2 2).st d) (((pa_laws_markText 5).2 2).nid)) v0 v3) (funext fun d => lp_laws_markText_5 m d k)).trans (na_laws_markText_5 (f := ou_laws_markText_5 k)  (fun d => lo_laws_markText_5 m d.1 d.2.1) (fun d => some (d)) v0 v3))
theorem en_laws_markText (a0 : Int) : evalF Try.prog ta_laws_markText pa_laws_markText sg_laws_markText Try.f89 L_laws_markText (a0, ()) = de_laws_markText a0 := by kernel_rfl
theorem si_laws_markText : SigsOk Try.prog ta_laws_markText := SigsOk.of fun f sd h => by
  try dsimp only [Tb.of, ta_laws_markText] at h
  cases h
theorem lk_laws_markText_5 {R : Type} : LoopOk Try.prog R 20 0 pa_laws_markText L_laws_markText co_laws_markText_5 :=
  loop_key (cfg := ⟨ta_laws_markText, 0, 20, pa_laws_markText⟩) (key := 5) (by kernel_rfl) (by kernel_rfl) si_laws_markText rfl rfl (fun d k r h => ⟨fu_laws_markText_5 d.1 d.2.1, (lp_laws_markText_5 _ d k).trans h⟩) (fun c hc => by rw [show loopsIn co_laws_markText_5 = [] from by kernel_rfl] at hc; cases hc)
theorem sn_laws_markText : Callable Try.prog 89 ∧ Sound Try.prog 89 sd_laws_markText.sg sd_laws_markText.den :=
  fn_loops (pat := pa_laws_markText) L_laws_markText (by kernel_rfl) si_laws_markText Try.func89 (by kernel_rfl) (by kernel_rfl) (fun c hc => by rw [show loopsIn (bodyOf Try.f89) = [co_laws_markText_5] from by kernel_rfl] at hc; simp only [List.mem_cons, List.not_mem_nil, or_false] at hc; rcases hc with rfl <;> first | exact lk_laws_markText_5) fun x r h => by
    obtain ⟨a0, ⟨⟩⟩ := x; obtain ⟨y, h1, h2⟩ := Option.bind_eq_some_iff.1 (show (m_laws_markText a0).bind (fun r => some ((r, ()), (()))) = some r from h); cases h2; exact (en_laws_markText a0).trans (eq_laws_markText a0 _ h1)
def m_laws_markChangeS (a : List (ByteArray × ByteArray × Bool × Unit)) (k : Int) : Option (Int × (List (ByteArray × ByteArray × Bool × Unit))) := markM (.pair .str (.pair .str (.pair .bool .unit))) a k
def sg_laws_markChangeS : Sig := ⟨[.mu 113 (.pair .str (.pair .str (.pair .bool .unit))), .rd (.int .i64)], [none, none], [.rd (.int .i64)], [none]⟩
noncomputable def sd_laws_markChangeS : SD := ⟨sg_laws_markChangeS, fun x => (m_laws_markChangeS x.1 x.2.1).bind fun r => some ((r.1, ()), (r.2, ()))⟩
noncomputable def ta_laws_markChangeS : Tb := Tb.of fun f => if f = 89 then some sd_laws_markText else none
def pa_laws_markChangeS : Nat → Pat × (Nat → Pat) := fun k => if k = 3 then (⟨[], [(0, .lf (.row 0)), (1, .lf (.d (.int .i64))), (5, .lf (.d (.int .i64)))], [.row 113 (.pair .str (.pair .str (.pair .bool .unit)))]⟩, fun e => if e = 2 then ⟨[], [(1, .lf (.d (.int .i64)))], [.row 113 (.pair .str (.pair .str (.pair .bool .unit)))]⟩ else ⟨[], [], []⟩) else (⟨[], [], []⟩, fun _ => ⟨[], [], []⟩)
noncomputable def co_laws_markChangeS_3 : Code := (loopsIn (bodyOf Try.f35)).getD 0 .skip
def fu_laws_markChangeS_3 (v1 : Int) (v5 : Int) (r0 : List (ByteArray × ByteArray × Bool × Unit)) : Nat := ((r0.length : Int) - v5).toNat + 1
noncomputable def tr_laws_markChangeS_3 {R : Type}  (NX : ((Int) × (Int) × (List (ByteArray × ByteArray × Bool × Unit)) × Unit) → Option R) (X2 : ((Int) × (List (ByteArray × ByteArray × Bool × Unit)) × Unit) → Option R) (v1 : Int) (v5 : Int) (r0 : List (ByteArray × ByteArray × Bool × Unit)) : Option R :=
  bif decide (v5 < nI (List.length r0)) then
    Option.bind (Option.bind (m_laws_markText v1) fun val => some ((val, ()), ())) fun val =>
      bif decide (0 ≤ v5) then
        bif decide (v5 < nI (List.length r0)) then
          bif decide (Int.toNat v5 < List.length r0) then
            Option.bind (Option.bind (m_laws_markText (IntKind.wrap IntKind.i64 (v1 + 1))) fun val => some ((val, ()), ())) fun val_1 =>
              bif decide (0 ≤ v5) then
                bif
                    decide
                      (v5 <
                        nI
                          (List.length
                            (List.set r0 (Int.toNat v5)
                              (val.fst.fst, (List.getD r0 (Int.toNat v5) (ByteArray.mk #[], ByteArray.mk #[], false, ())).snd.fst,
                                (List.getD r0 (Int.toNat v5) (ByteArray.mk #[], ByteArray.mk #[], false, ())).snd.snd.fst, ())))) then
                  bif
                      decide
                        (Int.toNat v5 <
                          List.length
                            (List.set r0 (Int.toNat v5)
                              (val.fst.fst, (List.getD r0 (Int.toNat v5) (ByteArray.mk #[], ByteArray.mk #[], false, ())).snd.fst,
                                (List.getD r0 (Int.toNat v5) (ByteArray.mk #[], ByteArray.mk #[], false, ())).snd.snd.fst, ()))) then
                    bif decide (0 ≤ v5) then
                      bif
                          decide
                            (v5 <
                              nI
                                (List.length
                                  (List.set
                                    (List.set r0 (Int.toNat v5)
                                      (val.fst.fst, (List.getD r0 (Int.toNat v5) (ByteArray.mk #[], ByteArray.mk #[], false, ())).snd.fst,
                                        (List.getD r0 (Int.toNat v5) (ByteArray.mk #[], ByteArray.mk #[], false, ())).snd.snd.fst, ()))
                                    (Int.toNat v5)
                                    ((List.getD
                                          (List.set r0 (Int.toNat v5)
                                            (val.fst.fst, (List.getD r0 (Int.toNat v5) (ByteArray.mk #[], ByteArray.mk #[], false, ())).snd.fst,
                                              (List.getD r0 (Int.toNat v5) (ByteArray.mk #[], ByteArray.mk #[], false, ())).snd.snd.fst, ()))
                                          (Int.toNat v5) (ByteArray.mk #[], ByteArray.mk #[], false, ())).fst,
                                      val_1.fst.fst,
                                      (List.getD
                                              (List.set r0 (Int.toNat v5)
                                                (val.fst.fst, (List.getD r0 (Int.toNat v5) (ByteArray.mk #[], ByteArray.mk #[], false, ())).snd.fst,
                                                  (List.getD r0 (Int.toNat v5) (ByteArray.mk #[], ByteArray.mk #[], false, ())).snd.snd.fst, ()))
                                              (Int.toNat v5) (ByteArray.mk #[], ByteArray.mk #[], false, ())).snd.snd.fst,
                                      ())))) then
                        bif
                            decide
                              (Int.toNat v5 <
                                List.length
                                  (List.set
                                    (List.set r0 (Int.toNat v5)
                                      (val.fst.fst, (List.getD r0 (Int.toNat v5) (ByteArray.mk #[], ByteArray.mk #[], false, ())).snd.fst,
                                        (List.getD r0 (Int.toNat v5) (ByteArray.mk #[], ByteArray.mk #[], false, ())).snd.snd.fst, ()))
                                    (Int.toNat v5)
                                    ((List.getD
                                          (List.set r0 (Int.toNat v5)
                                            (val.fst.fst, (List.getD r0 (Int.toNat v5) (ByteArray.mk #[], ByteArray.mk #[], false, ())).snd.fst,
                                              (List.getD r0 (Int.toNat v5) (ByteArray.mk #[], ByteArray.mk #[], false, ())).snd.snd.fst, ()))
                                          (Int.toNat v5) (ByteArray.mk #[], ByteArray.mk #[], false, ())).fst,
                                      val_1.fst.fst,
                                      (List.getD
                                              (List.set r0 (Int.toNat v5)
                                                (val.fst.fst, (List.getD r0 (Int.toNat v5) (ByteArray.mk #[], ByteArray.mk #[], false, ())).snd.fst,
                                                  (List.getD r0 (Int.toNat v5) (ByteArray.mk #[], ByteArray.mk #[], false, ())).snd.snd.fst, ()))
                                              (Int.toNat v5) (ByteArray.mk #[], ByteArray.mk #[], false, ())).snd.snd.fst,
                                      ()))) then
                          NX
                            (IntKind.wrap IntKind.i64 (IntKind.wrap IntKind.i64 (IntKind.wrap IntKind.i64 (v1 + 1) + 1) + 1), IntKind.wrap IntKind.i64 (v5 + 1),
                              List.set
                                (List.set
                                  (List.set r0 (Int.toNat v5)
                                    (val.fst.fst, (List.getD r0 (Int.toNat v5) (ByteArray.mk #[], ByteArray.mk #[], false, ())).snd.fst,
                                      (List.getD r0 (Int.toNat v5) (ByteArray.mk #[], ByteArray.mk #[], false, ())).snd.snd.fst, ()))
                                  (Int.toNat v5)
                                  ((List.getD
                                        (List.set r0 (Int.toNat v5)
                                          (val.fst.fst, (List.getD r0 (Int.toNat v5) (ByteArray.mk #[], ByteArray.mk #[], false, ())).snd.fst,
                                            (List.getD r0 (Int.toNat v5) (ByteArray.mk #[], ByteArray.mk #[], false, ())).snd.snd.fst, ()))
                                        (Int.toNat v5) (ByteArray.mk #[], ByteArray.mk #[], false, ())).fst,
                                    val_1.fst.fst,
                                    (List.getD
                                            (List.set r0 (Int.toNat v5)
                                              (val.fst.fst, (List.getD r0 (Int.toNat v5) (ByteArray.mk #[], ByteArray.mk #[], false, ())).snd.fst,
                                                (List.getD r0 (Int.toNat v5) (ByteArray.mk #[], ByteArray.mk #[], false, ())).snd.snd.fst, ()))
                                            (Int.toNat v5) (ByteArray.mk #[], ByteArray.mk #[], false, ())).snd.snd.fst,
                                    ()))
                                (Int.toNat v5)
                                ((List.getD
                                      (List.set
                                        (List.set r0 (Int.toNat v5)
                                          (val.fst.fst, (List.getD r0 (Int.toNat v5) (ByteArray.mk #[], ByteArray.mk #[], false, ())).snd.fst,
                                            (List.getD r0 (Int.toNat v5) (ByteArray.mk #[], ByteArray.mk #[], false, ())).snd.snd.fst, ()))
                                        (Int.toNat v5)
                                        ((List.getD
                                              (List.set r0 (Int.toNat v5)
                                                (val.fst.fst, (List.getD r0 (Int.toNat v5) (ByteArray.mk #[], ByteArray.mk #[], false, ())).snd.fst,
                                                  (List.getD r0 (Int.toNat v5) (ByteArray.mk #[], ByteArray.mk #[], false, ())).snd.snd.fst, ()))
                                              (Int.toNat v5) (ByteArray.mk #[], ByteArray.mk #[], false, ())).fst,
                                          val_1.fst.fst,
                                          (List.getD
                                                  (List.set r0 (Int.toNat v5)
                                                    (val.fst.fst, (List.getD r0 (Int.toNat v5) (ByteArray.mk #[], ByteArray.mk #[], false, ())).snd.fst,
                                                      (List.getD r0 (Int.toNat v5) (ByteArray.mk #[], ByteArray.mk #[], false, ())).snd.snd.fst, ()))
                                                  (Int.toNat v5) (ByteArray.mk #[], ByteArray.mk #[], false, ())).snd.snd.fst,
                                          ()))
                                      (Int.toNat v5) (ByteArray.mk #[], ByteArray.mk #[], false, ())).fst,
                                  (List.getD
                                        (List.set
                                          (List.set r0 (Int.toNat v5)
                                            (val.fst.fst, (List.getD r0 (Int.toNat v5) (ByteArray.mk #[], ByteArray.mk #[], false, ())).snd.fst,
                                              (List.getD r0 (Int.toNat v5) (ByteArray.mk #[], ByteArray.mk #[], false, ())).snd.snd.fst, ()))
                                          (Int.toNat v5)
                                          ((List.getD
                                                (List.set r0 (Int.toNat v5)
                                                  (val.fst.fst, (List.getD r0 (Int.toNat v5) (ByteArray.mk #[], ByteArray.mk #[], false, ())).snd.fst,
                                                    (List.getD r0 (Int.toNat v5) (ByteArray.mk #[], ByteArray.mk #[], false, ())).snd.snd.fst, ()))
                                                (Int.toNat v5) (ByteArray.mk #[], ByteArray.mk #[], false, ())).fst,
                                            val_1.fst.fst,
                                            (List.getD
                                                    (List.set r0 (Int.toNat v5)
                                                      (val.fst.fst, (List.getD r0 (Int.toNat v5) (ByteArray.mk #[], ByteArray.mk #[], false, ())).snd.fst,
                                                        (List.getD r0 (Int.toNat v5) (ByteArray.mk #[], ByteArray.mk #[], false, ())).snd.snd.fst, ()))
                                                    (Int.toNat v5) (ByteArray.mk #[], ByteArray.mk #[], false, ())).snd.snd.fst,
                                            ()))
                                        (Int.toNat v5) (ByteArray.mk #[], ByteArray.mk #[], false, ())).snd.fst,
                                  Int.tmod (IntKind.wrap IntKind.i64 (IntKind.wrap IntKind.i64 (v1 + 1) + 1)) 3 == 0, ()),
                              ())
                        else none
                      else none
                    else none
                  else none
                else none
              else none
          else none
        else none
      else none
  else X2 (v1, r0, ())
noncomputable def lo_laws_markChangeS_3 : Nat → (Int) → (Int) → (List (ByteArray × ByteArray × Bool × Unit)) →  Option ((Int) × (List (ByteArray × ByteArray × Bool × Unit)) × Unit)
  | 0, _, _, _ => none
  | m + 1, v1, v5, r0 => tr_laws_markChangeS_3  (fun d => lo_laws_markChangeS_3 m d.1 d.2.1 d.2.2.1) (fun d => some (d)) v1 v5 r0
theorem na_laws_markChangeS_3 {R S : Type}  (NX : ((Int) × (Int) × (List (ByteArray × ByteArray × Bool × Unit)) × Unit) → Option R) (X2 : ((Int) × (List (ByteArray × ByteArray × Bool × Unit)) × Unit) → Option R) (v1 : Int) (v5 : Int) (r0 : List (ByteArray × ByteArray × Bool × Unit)) (f : R → Option S) : tr_laws_markChangeS_3  (fun d => (NX d).bind f) (fun d => (X2 d).bind f) v1 v5 r0 = (tr_laws_markChangeS_3  NX X2 v1 v5 r0).bind f := by
  unfold tr_laws_markChangeS_3
  simp only [cond_bind, ite_bind, onSum_bind, Option.bind_assoc, Option.bind_none, Option.bind_some]
noncomputable def de_laws_markChangeS (a0 : List (ByteArray × ByteArray × Bool × Unit)) (a1 : Int) : Option ((((Int) × Unit) × ((List (ByteArray × ByteArray × Bool × Unit)) × Unit))) :=
  Option.bind ((fun d => lo_laws_markChangeS_3 (fu_laws_markChangeS_3 d.1 d.2.1 d.2.2.1) d.1 d.2.1 d.2.2.1) (a1, 0, a0, ())) fun val => some ((val.fst, ()), val.snd.fst, ())
theorem eq_laws_markChangeS (a0 : List (ByteArray × ByteArray × Bool × Unit)) (a1 : Int) r (h : m_laws_markChangeS a0 a1 = some r) : de_laws_markChangeS a0 a1 = some ((r.1, ()), (r.2, ())) := by
  obtain ⟨g0, g1, hl0, rfl⟩ := markM_some (t := (.pair .str (.pair .str (.pair .bool .unit)))) h
  have hl : a0.length ≤ 1125899906842624 := hl0
  have hEE : (fun k : Int => (show ByteArray × ByteArray × Bool × Unit from (mkE (.pair .str (.pair .str (.pair .bool .unit))) k).1)) = (fun k : Int => (mkT (k), mkT (k + 1), decide ((k + 2) % 3 = 0), ())) := funext fun k => by
    show (mkT (k), mkT (k + 1), decide ((k + 1 + 1) % 3 = 0), ()) = (mkT (k), mkT (k + 1), decide ((k + 2) % 3 = 0), ())
    try simp only [Int.add_assoc, Int.add_zero]
    try rfl
  show _ = some ((a1 + (a0.length : Int) * 3, ()), (gL (fun k : Int => (show ByteArray × ByteArray × Bool × Unit from (mkE (.pair .str (.pair .str (.pair .bool .unit))) k).1)) 3 a0.length a1, ()))
  rw [hEE]
  unfold de_laws_markChangeS
  have hL := mark_loop (fun k : Int => (mkT (k), mkT (k + 1), decide ((k + 2) % 3 = 0), ())) 3 (n := a0.length) (K := 36028797018963000) (g := fun m k i r => lo_laws_markChangeS_3 m k i r) (ok := fun k r => (k, r, ())) (fun m i k r hi hr h1 hK => by
    show lo_laws_markChangeS_3 (m + 1) k i r = _
    have hK1 : k + 3 ≤ 36028797018963000 := by
      have : (1 : Int) ≤ (a0.length - i : Nat) := by omega
      omega
    rw [show lo_laws_markChangeS_3 (m + 1) k i r = lo_laws_markChangeS_3 (m + 1) (k + 0) i r from by rw [Int.add_zero]]
    have k0 : k = k + 0 := (Int.add_zero k).symm
    have t0 : m_laws_markText (k + 0) = some (mkT (k + 0)) := if_pos (by omega)
    have t1 : m_laws_markText (k + 1) = some (mkT (k + 1)) := if_pos (by omega)
    have w0 : IntKind.wrap IntKind.i64 (k + 0 + 1) = k + 1 := by rw [wrap_ok (by omega) (by omega)]; omega
    have w1 : IntKind.wrap IntKind.i64 (k + 1 + 1) = k + 2 := by rw [wrap_ok (by omega) (by omega)]; omega
    have w2 : IntKind.wrap IntKind.i64 (k + 2 + 1) = k + 3 := by rw [wrap_ok (by omega) (by omega)]; omega
    have u2 : (Int.tmod (k + 2) 3 == 0) = decide ((k + 2) % 3 = 0) := tmod3 (by omega)
    have hir : i < r.length := by omega
    simp only [lo_laws_markChangeS_3, tr_laws_markChangeS_3]
    simp only [t0, t1,  Option.bind_some, w0, w1, w2, u2,  List.length_set, List.set_set, cLt hir, cLe0, cLtN hir, wI (show i < 4611686018427387904 by omega), cond_true, Int.toNat_natCast, getD_set hir]
    first | rfl | (rw [Int.add_zero]; rfl) | (simp only [Int.add_zero]; rfl)) (fun m k r hr => by
    show lo_laws_markChangeS_3 (m + 1) k a0.length r = _
    simp only [lo_laws_markChangeS_3, tr_laws_markChangeS_3, hr]
    rw [cLtF]
    rfl) (fu_laws_markChangeS_3 a1 0 a0) 0 a1 a0 (by omega) (by simp [fu_laws_markChangeS_3]) rfl g0 (by omega)
  have hL' : lo_laws_markChangeS_3 (fu_laws_markChangeS_3 a1 0 a0) a1 0 a0 = _ := hL
  show (lo_laws_markChangeS_3 (fu_laws_markChangeS_3 a1 0 a0) a1 0 a0).bind _ = _
  rw [hL']
  rfl
noncomputable def ou_laws_markChangeS_3 {R : Type} (k : Kt R) : ((Int) × (List (ByteArray × ByteArray × Bool × Unit)) × Unit) → Option R := (fun d => k (.exit 0) (((pa_laws_markChangeS 3).2 2).st d) (((pa_laws_markChangeS 3).2 2).nid))
noncomputable def L_laws_markChangeS {R : Type} : Lt R pa_laws_markChangeS := (addL (pat := pa_laws_markChangeS) 3 (fun d k => (lo_laws_markChangeS_3 (fu_laws_markChangeS_3 d.1 d.2.1 d.2.2.1) d.1 d.2.1 d.2.2.1).bind (ou_laws_markChangeS_3 k)) noL)
theorem rd_laws_markChangeS_3 {R : Type} (nx : (pa_laws_markChangeS 3).1.D → Kt R → Option R) (k : Kt R) (v1 : Int) (v5 : Int) (r0 : List (ByteArray × ByteArray × Bool × Unit)) : ev Try.prog ⟨ta_laws_markChangeS, 1, 38, pa_laws_markChangeS⟩ L_laws_markChangeS co_laws_markChangeS_3 ((pa_laws_markChangeS 3).1.st (v1, v5, r0, ())) (pa_laws_markChangeS 3).1.nid (roundK 1 (pa_laws_markChangeS 3) nx k) = tr_laws_markChangeS_3  (fun d => nx d k) (fun d => k (.exit 0) (((pa_laws_markChangeS 3).2 2).st d) (((pa_laws_markChangeS 3).2 2).nid)) v1 v5 r0 := by kernel_rfl
theorem lp_laws_markChangeS_3 {R : Type} : ∀ (m : Nat) (d : (pa_laws_markChangeS 3).1.D) (k : Kt R), loopN 1 (pa_laws_markChangeS 3) (fun s nid k => ev Try.prog ⟨ta_laws_markChangeS, 1, 38, pa_laws_markChangeS⟩ L_laws_markChangeS co_laws_markChangeS_3 s nid k) m d k = (lo_laws_markChangeS_3 m d.1 d.2.1 d.2.2.1).bind (ou_laws_markChangeS_3 k)
  | 0, _, _ => rfl
  | m + 1, ⟨v1, v5, r0, ⟨⟩⟩, k => (rd_laws_markChangeS_3 _ k v1 v5 r0).trans ((congrArg (fun F => tr_laws_markChangeS_3  F (fun d => k (.exit 0) (((pa_laws_markChangeS 3).2 2).st d) (((pa_laws_markChangeS 3).2 2).nid)) v1 v5 r0) (funext fun d => lp_laws_markChangeS_3 m d k)).trans (na_laws_markChangeS_3 (f := ou_laws_markChangeS_3 k)  (fun d => lo_laws_markChangeS_3 m d.1 d.2.1 d.2.2.1) (fun d => some (d)) v1 v5 r0))
theorem en_laws_markChangeS (a0 : List (ByteArray × ByteArray × Bool × Unit)) (a1 : Int) : evalF Try.prog ta_laws_markChangeS pa_laws_markChangeS sg_laws_markChangeS Try.f35 L_laws_markChangeS (a0, a1, ()) = de_laws_markChangeS a0 a1 := by kernel_rfl
theorem si_laws_markChangeS : SigsOk Try.prog ta_laws_markChangeS := SigsOk.of fun f sd h => by
  try dsimp only [Tb.of, ta_laws_markChangeS] at h
  split at h
  · rename_i e; subst e; cases h; exact sn_laws_markText
  cases h
theorem lk_laws_markChangeS_3 {R : Type} : LoopOk Try.prog R 38 1 pa_laws_markChangeS L_laws_markChangeS co_laws_markChangeS_3 :=
  loop_key (cfg := ⟨ta_laws_markChangeS, 1, 38, pa_laws_markChangeS⟩) (key := 3) (by kernel_rfl) (by kernel_rfl) si_laws_markChangeS rfl rfl (fun d k r h => ⟨fu_laws_markChangeS_3 d.1 d.2.1 d.2.2.1, (lp_laws_markChangeS_3 _ d k).trans h⟩) (fun c hc => by rw [show loopsIn co_laws_markChangeS_3 = [] from by kernel_rfl] at hc; cases hc)
theorem sn_laws_markChangeS : Callable Try.prog 35 ∧ Sound Try.prog 35 sd_laws_markChangeS.sg sd_laws_markChangeS.den :=
  fn_loops (pat := pa_laws_markChangeS) L_laws_markChangeS (by kernel_rfl) si_laws_markChangeS Try.func35 (by kernel_rfl) (by kernel_rfl) (fun c hc => by rw [show loopsIn (bodyOf Try.f35) = [co_laws_markChangeS_3] from by kernel_rfl] at hc; simp only [List.mem_cons, List.not_mem_nil, or_false] at hc; rcases hc with rfl <;> first | exact lk_laws_markChangeS_3) fun x r h => by
    obtain ⟨a0, a1, ⟨⟩⟩ := x; obtain ⟨y, h1, h2⟩ := Option.bind_eq_some_iff.1 (show (m_laws_markChangeS a0 a1).bind (fun r => some ((r.1, ()), (r.2, ()))) = some r from h); cases h2; exact (en_laws_markChangeS a0 a1).trans (eq_laws_markChangeS a0 a1 _ h1)
def m_laws_heldChangeS (a : List (ByteArray × ByteArray × Bool × Unit)) (k : Int) : Option Int := heldM (.pair .str (.pair .str (.pair .bool .unit))) a k
def sg_laws_heldChangeS : Sig := ⟨[.rd (.sl (.pair .str (.pair .str (.pair .bool .unit)))), .rd (.int .i64)], [none, none], [.rd (.int .i64)], [none]⟩
noncomputable def sd_laws_heldChangeS : SD := ⟨sg_laws_heldChangeS, fun x => (m_laws_heldChangeS x.1 x.2.1).bind fun r => some ((r, ()), (()))⟩
noncomputable def ta_laws_heldChangeS : Tb := Tb.of fun f => if f = 89 then some sd_laws_markText else none
def pa_laws_heldChangeS : Nat → Pat × (Nat → Pat) := fun k => if k = 3 then (⟨[.sl 0 0 (.pair .str (.pair .str (.pair .bool .unit)))], [(0, .lf (.d (.sl (.pair .str (.pair .str (.pair .bool .unit)))))), (1, .lf (.d (.int .i64))), (5, .lf (.d (.int .i64)))], []⟩, fun e => if e = 1 then ⟨[], [(4, .lf (.d (.int .i64)))], []⟩ else if e = 2 then ⟨[], [(1, .lf (.d (.int .i64)))], []⟩ else ⟨[], [], []⟩) else (⟨[], [], []⟩, fun _ => ⟨[], [], []⟩)
noncomputable def co_laws_heldChangeS_3 : Code := (loopsIn (bodyOf Try.f36)).getD 0 .skip
def fu_laws_heldChangeS_3 (v0 : List (ByteArray × ByteArray × Bool × Unit)) (v1 : Int) (v5 : Int) : Nat := ((v0.length : Int) - v5).toNat + 1
noncomputable def tr_laws_heldChangeS_3 {R : Type}  (NX : ((List (ByteArray × ByteArray × Bool × Unit)) × (Int) × (Int) × Unit) → Option R) (X2 : ((Int) × Unit) → Option R) (X1 : ((Int) × Unit) → Option R) (v0 : List (ByteArray × ByteArray × Bool × Unit)) (v1 : Int) (v5 : Int) : Option R :=
  bif decide (v5 < nI (List.length v0)) then
    bif decide (0 ≤ v5) then
      bif decide (v5 < nI (List.length v0)) then
        Option.bind (Option.bind (m_laws_markText v1) fun val => some ((val, ()), ())) fun val =>
          bif !ByteArray.toList (List.getD v0 (Int.toNat v5) (ByteArray.mk #[], ByteArray.mk #[], false, ())).fst == ByteArray.toList val.fst.fst then X1 (-1, ())
          else
            bif decide (0 ≤ v5) then
              bif decide (v5 < nI (List.length v0)) then
                Option.bind (Option.bind (m_laws_markText (IntKind.wrap IntKind.i64 (v1 + 1))) fun val => some ((val, ()), ())) fun val =>
                  bif !ByteArray.toList (List.getD v0 (Int.toNat v5) (ByteArray.mk #[], ByteArray.mk #[], false, ())).snd.fst == ByteArray.toList val.fst.fst then X1 (-1, ())
                  else
                    bif decide (0 ≤ v5) then
                      bif decide (v5 < nI (List.length v0)) then
                        bif
                            !(List.getD v0 (Int.toNat v5) (ByteArray.mk #[], ByteArray.mk #[], false, ())).snd.snd.fst ==
                                (Int.tmod (IntKind.wrap IntKind.i64 (IntKind.wrap IntKind.i64 (v1 + 1) + 1)) 3 == 0) then
                          X1 (-1, ())
                        else NX (v0, IntKind.wrap IntKind.i64 (IntKind.wrap IntKind.i64 (IntKind.wrap IntKind.i64 (v1 + 1) + 1) + 1), IntKind.wrap IntKind.i64 (v5 + 1), ())
                      else none
                    else none
              else none
            else none
      else none
    else none
  else X2 (v1, ())
noncomputable def lo_laws_heldChangeS_3 : Nat → (List (ByteArray × ByteArray × Bool × Unit)) → (Int) → (Int) →  Option (((Int) × Unit) ⊕ ((Int) × Unit))
  | 0, _, _, _ => none
  | m + 1, v0, v1, v5 => tr_laws_heldChangeS_3  (fun d => lo_laws_heldChangeS_3 m d.1 d.2.1 d.2.2.1) (fun d => some (.inl (d))) (fun d => some (.inr (d))) v0 v1 v5
theorem na_laws_heldChangeS_3 {R S : Type}  (NX : ((List (ByteArray × ByteArray × Bool × Unit)) × (Int) × (Int) × Unit) → Option R) (X2 : ((Int) × Unit) → Option R) (X1 : ((Int) × Unit) → Option R) (v0 : List (ByteArray × ByteArray × Bool × Unit)) (v1 : Int) (v5 : Int) (f : R → Option S) : tr_laws_heldChangeS_3  (fun d => (NX d).bind f) (fun d => (X2 d).bind f) (fun d => (X1 d).bind f) v0 v1 v5 = (tr_laws_heldChangeS_3  NX X2 X1 v0 v1 v5).bind f := by
  unfold tr_laws_heldChangeS_3
  simp only [cond_bind, ite_bind, onSum_bind, Option.bind_assoc, Option.bind_none, Option.bind_some]
noncomputable def de_laws_heldChangeS (a0 : List (ByteArray × ByteArray × Bool × Unit)) (a1 : Int) : Option ((((Int) × Unit) × (Unit))) :=
  Option.bind ((fun d => lo_laws_heldChangeS_3 (fu_laws_heldChangeS_3 d.1 d.2.1 d.2.2.1) d.1 d.2.1 d.2.2.1) (a0, a1, 0, ())) fun val => onSum (fun val => some ((val.fst, ()), ())) (fun val => some ((val.fst, ()), ())) val
theorem eq_laws_heldChangeS (a0 : List (ByteArray × ByteArray × Bool × Unit)) (a1 : Int) r (h : m_laws_heldChangeS a0 a1 = some r) : de_laws_heldChangeS a0 a1 = some ((r, ()), (())) := by
  obtain ⟨g0, g1, hl0, rfl⟩ := heldM_some (t := (.pair .str (.pair .str (.pair .bool .unit)))) h
  have hl : a0.length ≤ 1125899906842624 := hl0
  have hEE : (fun k : Int => (show ByteArray × ByteArray × Bool × Unit from (mkE (.pair .str (.pair .str (.pair .bool .unit))) k).1)) = (fun k : Int => (mkT (k), mkT (k + 1), decide ((k + 2) % 3 = 0), ())) := funext fun k => by
    show (mkT (k), mkT (k + 1), decide ((k + 1 + 1) % 3 = 0), ()) = (mkT (k), mkT (k + 1), decide ((k + 2) % 3 = 0), ())
    try simp only [Int.add_assoc, Int.add_zero]
    try rfl
  show _ = some ((if eqL (α := ByteArray × ByteArray × Bool × Unit) (fun x y : ByteArray × ByteArray × Bool × Unit => eqB (.pair .str (.pair .str (.pair .bool .unit))) x y) a0 (gL (fun k : Int => (show ByteArray × ByteArray × Bool × Unit from (mkE (.pair .str (.pair .str (.pair .bool .unit))) k).1)) 3 a0.length a1) = true then a1 + (a0.length : Int) * 3 else -1, ()), ())
  rw [hEE]
  unfold de_laws_heldChangeS
  have hL := held_loop (xs := a0) ((ByteArray.mk #[]), (ByteArray.mk #[]), false, ()) (fun x y : ByteArray × ByteArray × Bool × Unit => eqB (.pair .str (.pair .str (.pair .bool .unit))) x y) (fun k : Int => (mkT (k), mkT (k + 1), decide ((k + 2) % 3 = 0), ())) 3 (K := 36028797018963000) (g := fun m k i => lo_laws_heldChangeS_3 m a0 k i) (ok := fun k => .inl (k, ())) (bad := .inr (-1, ())) (fun m i k hi h1 hK => by
    show lo_laws_heldChangeS_3 (m + 1) a0 k i = bif (fun x y : ByteArray × ByteArray × Bool × Unit => eqB (.pair .str (.pair .str (.pair .bool .unit))) x y) (List.getD (α := ByteArray × ByteArray × Bool × Unit) a0 i ((ByteArray.mk #[]), (ByteArray.mk #[]), false, ())) ((fun k : Int => (mkT (k), mkT (k + 1), decide ((k + 2) % 3 = 0), ())) k) then lo_laws_heldChangeS_3 m a0 (k + 3) ((i + 1 : Nat) : Int) else _
    have hK1 : k + 3 ≤ 36028797018963000 := by
      have : (1 : Int) ≤ (a0.length - i : Nat) := by omega
      omega
    have hE : (fun x y : ByteArray × ByteArray × Bool × Unit => eqB (.pair .str (.pair .str (.pair .bool .unit))) x y) (List.getD (α := ByteArray × ByteArray × Bool × Unit) a0 i ((ByteArray.mk #[]), (ByteArray.mk #[]), false, ())) ((fun k : Int => (mkT (k), mkT (k + 1), decide ((k + 2) % 3 = 0), ())) k) = (eqS (List.getD (α := ByteArray × ByteArray × Bool × Unit) a0 i ((ByteArray.mk #[]), (ByteArray.mk #[]), false, ())).1 (mkT (k + 0)) && (eqS (List.getD (α := ByteArray × ByteArray × Bool × Unit) a0 i ((ByteArray.mk #[]), (ByteArray.mk #[]), false, ())).2.1 (mkT (k + 1)) && (eqO (List.getD (α := ByteArray × ByteArray × Bool × Unit) a0 i ((ByteArray.mk #[]), (ByteArray.mk #[]), false, ())).2.2.1 (decide ((k + 2) % 3 = 0)) && true))) := by
      try simp only [Int.add_zero]
      try rfl
    rw [hE, show lo_laws_heldChangeS_3 (m + 1) a0 k i = lo_laws_heldChangeS_3 (m + 1) a0 (k + 0) i from by rw [Int.add_zero]]
    have k0 : k = k + 0 := (Int.add_zero k).symm
    have t0 : m_laws_markText (k + 0) = some (mkT (k + 0)) := if_pos (by omega)
    have t1 : m_laws_markText (k + 1) = some (mkT (k + 1)) := if_pos (by omega)
    have w0 : IntKind.wrap IntKind.i64 (k + 0 + 1) = k + 1 := by rw [wrap_ok (by omega) (by omega)]; omega
    have w1 : IntKind.wrap IntKind.i64 (k + 1 + 1) = k + 2 := by rw [wrap_ok (by omega) (by omega)]; omega
    have w2 : IntKind.wrap IntKind.i64 (k + 2 + 1) = k + 3 := by rw [wrap_ok (by omega) (by omega)]; omega
    have u2 : (Int.tmod (k + 2) 3 == 0) = decide ((k + 2) % 3 = 0) := tmod3 (by omega)
    have v0 : (!(ByteArray.toList (List.getD (α := ByteArray × ByteArray × Bool × Unit) a0 i ((ByteArray.mk #[]), (ByteArray.mk #[]), false, ())).1 == ByteArray.toList (mkT (k + 0)))) = !eqS (List.getD (α := ByteArray × ByteArray × Bool × Unit) a0 i ((ByteArray.mk #[]), (ByteArray.mk #[]), false, ())).1 (mkT (k + 0)) := rfl
    have v1 : (!(ByteArray.toList (List.getD (α := ByteArray × ByteArray × Bool × Unit) a0 i ((ByteArray.mk #[]), (ByteArray.mk #[]), false, ())).2.1 == ByteArray.toList (mkT (k + 1)))) = !eqS (List.getD (α := ByteArray × ByteArray × Bool × Unit) a0 i ((ByteArray.mk #[]), (ByteArray.mk #[]), false, ())).2.1 (mkT (k + 1)) := rfl
    have v2 : (!((List.getD (α := ByteArray × ByteArray × Bool × Unit) a0 i ((ByteArray.mk #[]), (ByteArray.mk #[]), false, ())).2.2.1 == decide ((k + 2) % 3 = 0))) = !eqO (List.getD (α := ByteArray × ByteArray × Bool × Unit) a0 i ((ByteArray.mk #[]), (ByteArray.mk #[]), false, ())).2.2.1 (decide ((k + 2) % 3 = 0)) := rfl
    simp only [lo_laws_heldChangeS_3, tr_laws_heldChangeS_3]
    simp only [t0, t1,  Option.bind_some, w0, w1, w2, u2,  cLt hi, cLe0, wI (show i < 4611686018427387904 by omega), cond_true, Int.toNat_natCast, v0, v1, v2]
    generalize eqS (List.getD (α := ByteArray × ByteArray × Bool × Unit) a0 i ((ByteArray.mk #[]), (ByteArray.mk #[]), false, ())).1 (mkT (k + 0)) = p0
    generalize eqS (List.getD (α := ByteArray × ByteArray × Bool × Unit) a0 i ((ByteArray.mk #[]), (ByteArray.mk #[]), false, ())).2.1 (mkT (k + 1)) = p1
    generalize eqO (List.getD (α := ByteArray × ByteArray × Bool × Unit) a0 i ((ByteArray.mk #[]), (ByteArray.mk #[]), false, ())).2.2.1 (decide ((k + 2) % 3 = 0)) = p2
    cases p0 <;> cases p1 <;> cases p2 <;> rfl) (fun m k => by
    show lo_laws_heldChangeS_3 (m + 1) a0 k a0.length = _
    simp only [lo_laws_heldChangeS_3, tr_laws_heldChangeS_3]
    rw [cLtF]
    rfl) (fu_laws_heldChangeS_3 a0 a1 0) 0 a1 (by omega) (by simp [fu_laws_heldChangeS_3]) g0 (by omega)
  have hL' : lo_laws_heldChangeS_3 (fu_laws_heldChangeS_3 a0 a1 0) a0 a1 0 = _ := hL
  show (lo_laws_heldChangeS_3 (fu_laws_heldChangeS_3 a0 a1 0) a0 a1 0).bind _ = some ((if eqL (α := ByteArray × ByteArray × Bool × Unit) (fun x y : ByteArray × ByteArray × Bool × Unit => eqB (.pair .str (.pair .str (.pair .bool .unit))) x y) a0 (gL (fun k : Int => (mkT (k), mkT (k + 1), decide ((k + 2) % 3 = 0), ())) 3 a0.length a1) = true then a1 + (a0.length : Int) * 3 else -1, ()), ())
  rw [hL', List.drop_zero]
  cases eqL (α := ByteArray × ByteArray × Bool × Unit) (fun x y : ByteArray × ByteArray × Bool × Unit => eqB (.pair .str (.pair .str (.pair .bool .unit))) x y) a0 (gL (fun k : Int => (mkT (k), mkT (k + 1), decide ((k + 2) % 3 = 0), ())) 3 a0.length a1) <;> rfl
noncomputable def ou_laws_heldChangeS_3 {R : Type} (k : Kt R) : (((Int) × Unit) ⊕ ((Int) × Unit)) → Option R := (onSum (fun d => k (.exit 0) (((pa_laws_heldChangeS 3).2 2).st d) (((pa_laws_heldChangeS 3).2 2).nid)) (fun d => k .ret (((pa_laws_heldChangeS 3).2 1).st d) (((pa_laws_heldChangeS 3).2 1).nid)))
noncomputable def L_laws_heldChangeS {R : Type} : Lt R pa_laws_heldChangeS := (addL (pat := pa_laws_heldChangeS) 3 (fun d k => (lo_laws_heldChangeS_3 (fu_laws_heldChangeS_3 d.1 d.2.1 d.2.2.1) d.1 d.2.1 d.2.2.1).bind (ou_laws_heldChangeS_3 k)) noL)
theorem rd_laws_heldChangeS_3 {R : Type} (nx : (pa_laws_heldChangeS 3).1.D → Kt R → Option R) (k : Kt R) (v0 : List (ByteArray × ByteArray × Bool × Unit)) (v1 : Int) (v5 : Int) : ev Try.prog ⟨ta_laws_heldChangeS, 0, 44, pa_laws_heldChangeS⟩ L_laws_heldChangeS co_laws_heldChangeS_3 ((pa_laws_heldChangeS 3).1.st (v0, v1, v5, ())) (pa_laws_heldChangeS 3).1.nid (roundK 0 (pa_laws_heldChangeS 3) nx k) = tr_laws_heldChangeS_3  (fun d => nx d k) (fun d => k (.exit 0) (((pa_laws_heldChangeS 3).2 2).st d) (((pa_laws_heldChangeS 3).2 2).nid)) (fun d => k .ret (((pa_laws_heldChangeS 3).2 1).st d) (((pa_laws_heldChangeS 3).2 1).nid)) v0 v1 v5 := by kernel_rfl
theorem lp_laws_heldChangeS_3 {R : Type} : ∀ (m : Nat) (d : (pa_laws_heldChangeS 3).1.D) (k : Kt R), loopN 0 (pa_laws_heldChangeS 3) (fun s nid k => ev Try.prog ⟨ta_laws_heldChangeS, 0, 44, pa_laws_heldChangeS⟩ L_laws_heldChangeS co_laws_heldChangeS_3 s nid k) m d k = (lo_laws_heldChangeS_3 m d.1 d.2.1 d.2.2.1).bind (ou_laws_heldChangeS_3 k)
  | 0, _, _ => rfl
  | m + 1, ⟨v0, v1, v5, ⟨⟩⟩, k => (rd_laws_heldChangeS_3 _ k v0 v1 v5).trans ((congrArg (fun F => tr_laws_heldChangeS_3  F (fun d => k (.exit 0) (((pa_laws_heldChangeS 3).2 2).st d) (((pa_laws_heldChangeS 3).2 2).nid)) (fun d => k .ret (((pa_laws_heldChangeS 3).2 1).st d) (((pa_laws_heldChangeS 3).2 1).nid)) v0 v1 v5) (funext fun d => lp_laws_heldChangeS_3 m d k)).trans (na_laws_heldChangeS_3 (f := ou_laws_heldChangeS_3 k)  (fun d => lo_laws_heldChangeS_3 m d.1 d.2.1 d.2.2.1) (fun d => some (.inl (d))) (fun d => some (.inr (d))) v0 v1 v5))
theorem en_laws_heldChangeS (a0 : List (ByteArray × ByteArray × Bool × Unit)) (a1 : Int) : evalF Try.prog ta_laws_heldChangeS pa_laws_heldChangeS sg_laws_heldChangeS Try.f36 L_laws_heldChangeS (a0, a1, ()) = de_laws_heldChangeS a0 a1 := by kernel_rfl
theorem si_laws_heldChangeS : SigsOk Try.prog ta_laws_heldChangeS := SigsOk.of fun f sd h => by
  try dsimp only [Tb.of, ta_laws_heldChangeS] at h
  split at h
  · rename_i e; subst e; cases h; exact sn_laws_markText
  cases h
theorem lk_laws_heldChangeS_3 {R : Type} : LoopOk Try.prog R 44 0 pa_laws_heldChangeS L_laws_heldChangeS co_laws_heldChangeS_3 :=
  loop_key (cfg := ⟨ta_laws_heldChangeS, 0, 44, pa_laws_heldChangeS⟩) (key := 3) (by kernel_rfl) (by kernel_rfl) si_laws_heldChangeS rfl rfl (fun d k r h => ⟨fu_laws_heldChangeS_3 d.1 d.2.1 d.2.2.1, (lp_laws_heldChangeS_3 _ d k).trans h⟩) (fun c hc => by rw [show loopsIn co_laws_heldChangeS_3 = [] from by kernel_rfl] at hc; cases hc)
theorem sn_laws_heldChangeS : Callable Try.prog 36 ∧ Sound Try.prog 36 sd_laws_heldChangeS.sg sd_laws_heldChangeS.den :=
  fn_loops (pat := pa_laws_heldChangeS) L_laws_heldChangeS (by kernel_rfl) si_laws_heldChangeS Try.func36 (by kernel_rfl) (by kernel_rfl) (fun c hc => by rw [show loopsIn (bodyOf Try.f36) = [co_laws_heldChangeS_3] from by kernel_rfl] at hc; simp only [List.mem_cons, List.not_mem_nil, or_false] at hc; rcases hc with rfl <;> first | exact lk_laws_heldChangeS_3) fun x r h => by
    obtain ⟨a0, a1, ⟨⟩⟩ := x; obtain ⟨y, h1, h2⟩ := Option.bind_eq_some_iff.1 (show (m_laws_heldChangeS a0 a1).bind (fun r => some ((r, ()), (()))) = some r from h); cases h2; exact (en_laws_heldChangeS a0 a1).trans (eq_laws_heldChangeS a0 a1 _ h1)
def sg_laws_FnExactReadBatch : Sig := ⟨[.rd .str], [none], [.rd .bool], [none]⟩
noncomputable def ta_laws_FnExactReadBatch : Tb := Tb.of fun f => if f = 32 then some sd_laws_eqChangeS else if f = 33 then some sd_spec_ReadBatch else if f = 34 then some sd_impl_ReadBatch else if f = 35 then some sd_laws_markChangeS else if f = 36 then some sd_laws_heldChangeS else none
def pa_laws_FnExactReadBatch : Nat → Pat × (Nat → Pat) := fun k => (⟨[], [], []⟩, fun _ => ⟨[], [], []⟩)
noncomputable def de_laws_FnExactReadBatch (a0 : ByteArray) : Option ((((Bool) × Unit) × (Unit))) :=
  bif decide (nI (ByteArray.size a0) > 1048576) then some ((true, ()), ())
  else
    Option.bind (Option.bind (m_laws_eqChangeS (m_impl_ReadBatch a0).fst (m_spec_ReadBatch a0).fst) fun val => some ((val, ()), ())) fun val =>
      bif !val.fst.fst then some ((false, ()), ())
      else
        bif !(m_impl_ReadBatch a0).snd == (m_spec_ReadBatch a0).snd then some ((false, ()), ())
        else
          Option.bind (Option.bind (m_laws_markChangeS (m_impl_ReadBatch a0).fst 1) fun val => some ((val.fst, ()), val.snd, ())) fun val =>
            Option.bind (Option.bind (m_laws_heldChangeS val.snd.fst 1) fun val => some ((val, ()), ())) fun val_1 =>
              bif decide (val_1.fst.fst < 0) then some ((false, ()), ())
              else
                bif val_1.fst.fst != val.fst.fst then some ((false, ()), ())
                else
                  Option.bind (Option.bind (m_laws_eqChangeS (m_impl_ReadBatch a0).fst (m_spec_ReadBatch a0).fst) fun val => some ((val, ()), ())) fun val_2 =>
                    bif !val_2.fst.fst then some ((false, ()), ())
                    else
                      bif !(m_impl_ReadBatch a0).snd == (m_spec_ReadBatch a0).snd then some ((false, ()), ())
                      else
                        Option.bind (Option.bind (m_laws_heldChangeS val.snd.fst 1) fun val => some ((val, ()), ())) fun val_3 =>
                          bif decide (val_3.fst.fst < 0) then some ((false, ()), ()) else bif val_3.fst.fst != val.fst.fst then some ((false, ()), ()) else some ((true, ()), ())
noncomputable def sd_laws_FnExactReadBatch : SD := ⟨sg_laws_FnExactReadBatch, fun x => de_laws_FnExactReadBatch x.1⟩
theorem law_FnExactReadBatch (a0 : ByteArray) (h0 : FineD .str a0) : de_laws_FnExactReadBatch a0 = some ((true, ()), ()) := by
  have hf0 := fine_of h0
  unfold de_laws_FnExactReadBatch
  by_cases p0 : nI (ByteArray.size a0) > 1048576
  · rw [decide_eq_true p0]; rfl
  · rw [decide_eq_false p0]
    simp only [cond_false]
    have gw : m_spec_ReadBatch a0 = m_impl_ReadBatch a0 := read_same _
    have gg0 : goodB (.sl (.pair .str (.pair .str (.pair .bool .unit)))) ((m_impl_ReadBatch a0).fst) = true := readB_good _
    simp only [Option.bind_some, cond_false, gw]
    generalize m_impl_ReadBatch a0 = g at *
    have v0 : m_laws_eqChangeS g.fst g.fst = some true := eqM_self (t := (.sl (.pair .str (.pair .str (.pair .bool .unit))))) (x := g.fst) (good_fine gg0)
    have Lz0 := gg0
    simp only [smallB, goodB, Bool.and_eq_true, decide_eq_true_eq, and_true, true_and] at Lz0
    obtain ⟨kz0_0, yz0_0, mz0_0, bz0_0, cz0_0, dz0_0⟩ : ∃ (k2 : Int) (ys : List (ByteArray × ByteArray × Bool × Unit)), markM (.pair .str (.pair .str (.pair .bool .unit))) g.fst 1 = (some (k2, ys) : Option (Int × List (ByteArray × ByteArray × Bool × Unit))) ∧ 1 ≤ k2 ∧ k2 ≤ 1 + 1073741824 * ((3 : Nat) : Int) ∧ heldM (.pair .str (.pair .str (.pair .bool .unit))) ys 1 = some k2 := mk_ex (t := (.pair .str (.pair .str (.pair .bool .unit)))) (xs := g.fst) (k := 1) 3 rfl (by omega) (by omega) (by omega)
    have mkz0 : m_laws_markChangeS g.fst 1 = some (kz0_0, yz0_0) := mz0_0
    have nnz0_0 : ¬ kz0_0 < 0 := by omega
    have hdz0 : m_laws_heldChangeS yz0_0 1 = some kz0_0 := dz0_0
    have nkz : decide (kz0_0 < 0) = false := decide_eq_false (by omega)
    simp only [v0, mkz0, hdz0, nkz, Option.bind_some, cond_false, cond_true, beq_self_eq_true, bne_self_eq_false, Bool.not_true, Bool.or_self, Bool.false_or]
theorem en_laws_FnExactReadBatch (a0 : ByteArray) : evalF Try.prog ta_laws_FnExactReadBatch pa_laws_FnExactReadBatch sg_laws_FnExactReadBatch Try.f7 noL (a0, ()) = de_laws_FnExactReadBatch a0 := by kernel_rfl
theorem si_laws_FnExactReadBatch : SigsOk Try.prog ta_laws_FnExactReadBatch := SigsOk.of fun f sd h => by
  try dsimp only [Tb.of, ta_laws_FnExactReadBatch] at h
  split at h
  · rename_i e; subst e; cases h; exact sn_laws_eqChangeS
  split at h
  · rename_i e; subst e; cases h; exact sn_spec_ReadBatch
  split at h
  · rename_i e; subst e; cases h; exact sn_impl_ReadBatch
  split at h
  · rename_i e; subst e; cases h; exact sn_laws_markChangeS
  split at h
  · rename_i e; subst e; cases h; exact sn_laws_heldChangeS
  cases h
theorem sn_laws_FnExactReadBatch : Callable Try.prog 7 ∧ Sound Try.prog 7 sd_laws_FnExactReadBatch.sg sd_laws_FnExactReadBatch.den :=
  fn_plain (pat := pa_laws_FnExactReadBatch) (by kernel_rfl) si_laws_FnExactReadBatch Try.func7 (by kernel_rfl) (by kernel_rfl) (by kernel_rfl) fun x r h => by
    obtain ⟨a0, ⟨⟩⟩ := x; exact (en_laws_FnExactReadBatch a0).trans h
end Go.Proofs.Ytmhjcfgkheihdaa.V
