/- What the functions that FnExactRootPage reaches come to: part 1. No condition. -/
import Derived.Test.YtmhjcfgkheihdaaQBase
import Derived.Test.YtmhjcfgkheihdaaTLay
import Derived.Test.YtmhjcfgkheihdaaProg
import Derived.KernelRfl
namespace Go.Proofs.Ytmhjcfgkheihdaa.V
open Go Go.Proofs.Ytmhjcfgkheihdaa.R Go.Proofs
set_option maxRecDepth 100000
set_option linter.unusedVariables false
set_option linter.unusedSimpArgs false
def sg_spec_l1Width : Sig := ⟨[.rd (.int .i64)], [none], [.rd .bool], [none]⟩
noncomputable def ta_spec_l1Width : Tb := Tb.of fun f => none
def pa_spec_l1Width : Nat → Pat × (Nat → Pat) := fun k => (⟨[], [], []⟩, fun _ => ⟨[], [], []⟩)
noncomputable def de_spec_l1Width (a0 : Int) : Option ((((Bool) × Unit) × (Unit))) :=
  bif decide (a0 ≥ 1) then some ((decide (a0 ≤ 8), ()), ()) else some ((false, ()), ())
noncomputable def sd_spec_l1Width : SD := ⟨sg_spec_l1Width, fun x => de_spec_l1Width x.1⟩
theorem en_spec_l1Width (a0 : Int) : evalF Try.prog ta_spec_l1Width pa_spec_l1Width sg_spec_l1Width Try.f108 noL (a0, ()) = de_spec_l1Width a0 := by kernel_rfl
theorem si_spec_l1Width : SigsOk Try.prog ta_spec_l1Width := SigsOk.of fun f sd h => by
  try dsimp only [Tb.of, ta_spec_l1Width] at h
  cases h
theorem sn_spec_l1Width : Callable Try.prog 108 ∧ Sound Try.prog 108 sd_spec_l1Width.sg sd_spec_l1Width.den :=
  fn_plain (pat := pa_spec_l1Width) (by kernel_rfl) si_spec_l1Width Try.func108 (by kernel_rfl) (by kernel_rfl) (by kernel_rfl) fun x r h => by
    obtain ⟨a0, ⟨⟩⟩ := x; exact (en_spec_l1Width a0).trans h
def sg_spec_l1Part : Sig := ⟨[.rd (.int .i64)], [none], [.rd (.int .i64)], [none]⟩
noncomputable def ta_spec_l1Part : Tb := Tb.of fun f => none
def pa_spec_l1Part : Nat → Pat × (Nat → Pat) := fun k => (⟨[], [], []⟩, fun _ => ⟨[], [], []⟩)
noncomputable def de_spec_l1Part (a0 : Int) : Option ((((Int) × Unit) × (Unit))) :=
  some ((IntKind.wrap IntKind.i64 (IntKind.wrap IntKind.i64 (64 - a0) - 8), ()), ())
noncomputable def sd_spec_l1Part : SD := ⟨sg_spec_l1Part, fun x => de_spec_l1Part x.1⟩
theorem en_spec_l1Part (a0 : Int) : evalF Try.prog ta_spec_l1Part pa_spec_l1Part sg_spec_l1Part Try.f109 noL (a0, ()) = de_spec_l1Part a0 := by kernel_rfl
theorem si_spec_l1Part : SigsOk Try.prog ta_spec_l1Part := SigsOk.of fun f sd h => by
  try dsimp only [Tb.of, ta_spec_l1Part] at h
  cases h
theorem sn_spec_l1Part : Callable Try.prog 109 ∧ Sound Try.prog 109 sd_spec_l1Part.sg sd_spec_l1Part.den :=
  fn_plain (pat := pa_spec_l1Part) (by kernel_rfl) si_spec_l1Part Try.func109 (by kernel_rfl) (by kernel_rfl) (by kernel_rfl) fun x r h => by
    obtain ⟨a0, ⟨⟩⟩ := x; exact (en_spec_l1Part a0).trans h
def m_spec_l1Ok (p : Pg) (w : Int) : Bool := pageOk p w
def sg_spec_l1Ok : Sig := ⟨[.rd (.pair (.int .i64) (.pair (.int .i64) (.pair (.int .i64) (.pair .str .unit)))), .rd (.int .i64)], [some 4, none], [.rd .bool], [none]⟩
noncomputable def sd_spec_l1Ok : SD := ⟨sg_spec_l1Ok, fun x => some (((m_spec_l1Ok x.1 x.2.1), ()), (()))⟩
noncomputable def ta_spec_l1Ok : Tb := Tb.of fun f => if f = 108 then some sd_spec_l1Width else if f = 109 then some sd_spec_l1Part else none
def pa_spec_l1Ok : Nat → Pat × (Nat → Pat) := fun k => (⟨[], [], []⟩, fun _ => ⟨[], [], []⟩)
noncomputable def de_spec_l1Ok (a0 : Int × Int × Int × ByteArray × Unit) (a1 : Int) : Option ((((Bool) × Unit) × (Unit))) :=
  Option.bind (bif decide (a1 ≥ 1) then some ((decide (a1 ≤ 8), ()), ()) else some ((false, ()), ())) fun val =>
    bif !val.fst.fst then some ((false, ()), ())
    else
      bif decide (a0.fst < 1) then some ((false, ()), ())
      else
        bif decide (a0.fst > 4) then some ((false, ()), ())
        else
          bif decide (a0.snd.fst < 1) then some ((false, ()), ())
          else
            bif decide (a0.snd.fst > 60000) then some ((false, ()), ())
            else
              bif decide (a0.snd.snd.fst < 1) then some ((false, ()), ())
              else
                bif decide (a0.snd.snd.fst > 1000000000) then some ((false, ()), ())
                else
                  bif decide (nI (ByteArray.size a0.snd.snd.snd.fst) ≤ IntKind.wrap IntKind.i64 (IntKind.wrap IntKind.i64 (64 - a1) - 8)) then
                    bif a0.fst != 3 then some ((true, ()), ()) else some ((ByteArray.toList a0.snd.snd.snd.fst == ByteArray.toList (ByteArray.mk #[]), ()), ())
                  else some ((false, ()), ())
theorem eq_spec_l1Ok (a0 : Int × Int × Int × ByteArray × Unit) (a1 : Int) : de_spec_l1Ok a0 a1 = some (((m_spec_l1Ok a0 a1), ()), (())) := by
  unfold de_spec_l1Ok m_spec_l1Ok pageOk
  have tl : ByteArray.toList (ByteArray.mk #[]) = [] := by decide +kernel
  rw [tl]
  refine bi_ (wid a1) ?_
  show (bif !inB a1 1 8 then _ else _) = _
  cases hw : inB a1 1 8 with
  | false => rfl
  | true =>
    have k1 := of_decide_eq_true (and2 hw).1
    have k2 := of_decide_eq_true (and2 hw).2
    rw [wrap_ok (n := 64 - a1) (by omega) (by omega), wrap_ok (by omega) (by omega), show 64 - a1 - 8 = 56 - a1 by omega]
    have e : ∀ (x lo hi : Int) {ρ : Type} (f t : ρ), (bif decide (x < lo) then f else bif decide (x > hi) then f else t) = bif inB x lo hi then t else f := by
      intro x lo hi ρ f t
      unfold inB
      by_cases h1 : x < lo
      · rw [decide_eq_true h1, decide_eq_false (show ¬ lo ≤ x by omega)]; rfl
      · rw [decide_eq_false h1, decide_eq_true (show lo ≤ x by omega)]
        by_cases h2 : x > hi
        · rw [decide_eq_true h2, decide_eq_false (show ¬ x ≤ hi by omega)]; rfl
        · rw [decide_eq_false h2, decide_eq_true (show x ≤ hi by omega)]; rfl
    rw [e a0.1, e a0.2.1, e a0.2.2.1]
    cases inB a0.1 1 4 <;> cases inB a0.2.1 1 60000 <;> cases inB a0.2.2.1 1 1000000000 <;> try rfl
    show (bif decide ((ByteArray.size a0.2.2.2.1 : Int) ≤ 56 - a1) then _ else _) = _
    cases decide ((ByteArray.size a0.2.2.2.1 : Int) ≤ 56 - a1) <;> cases (a0.1 != 3) <;> rfl
theorem en_spec_l1Ok (a0 : Int × Int × Int × ByteArray × Unit) (a1 : Int) : evalF Try.prog ta_spec_l1Ok pa_spec_l1Ok sg_spec_l1Ok Try.f94 noL (a0, a1, ()) = de_spec_l1Ok a0 a1 := by kernel_rfl
theorem si_spec_l1Ok : SigsOk Try.prog ta_spec_l1Ok := SigsOk.of fun f sd h => by
  try dsimp only [Tb.of, ta_spec_l1Ok] at h
  split at h
  · rename_i e; subst e; cases h; exact sn_spec_l1Width
  split at h
  · rename_i e; subst e; cases h; exact sn_spec_l1Part
  cases h
theorem sn_spec_l1Ok : Callable Try.prog 94 ∧ Sound Try.prog 94 sd_spec_l1Ok.sg sd_spec_l1Ok.den :=
  fn_plain (pat := pa_spec_l1Ok) (by kernel_rfl) si_spec_l1Ok Try.func94 (by kernel_rfl) (by kernel_rfl) (by kernel_rfl) fun x r h => by
    obtain ⟨a0, a1, ⟨⟩⟩ := x; rw [← h]; exact (en_spec_l1Ok a0 a1).trans (eq_spec_l1Ok a0 a1)
theorem mx_spec_l1Number : ∃ f : Int → Int → Option ByteArray, f = fun v n => if 0 ≤ v ∧ v < 9223372036854775808 ∧ 0 ≤ n ∧ n ≤ 1000 then some (beS v n.toNat) else none := ⟨_, rfl⟩
noncomputable def m_spec_l1Number (v n : Int) : Option ByteArray := Classical.choose mx_spec_l1Number v n
theorem me_spec_l1Number (v n : Int) : m_spec_l1Number v n = if 0 ≤ v ∧ v < 9223372036854775808 ∧ 0 ≤ n ∧ n ≤ 1000 then some (beS v n.toNat) else none := by
  unfold m_spec_l1Number
  rw [Classical.choose_spec mx_spec_l1Number]
def fu_spec_l1Number_4 (v0 v1 : Int) (v5 : ByteArray) (v6 : Int) : Nat := (v1 - v6).toNat + 1
def sg_spec_l1Number : Sig := ⟨[.rd (.int .i64), .rd (.int .i64)], [none, none], [.rd .str], [none]⟩
noncomputable def sd_spec_l1Number : SD := ⟨sg_spec_l1Number, fun x => (m_spec_l1Number x.1 x.2.1).bind fun r => some ((r, ()), (()))⟩
noncomputable def ta_spec_l1Number : Tb := Tb.of fun f => none
def pa_spec_l1Number : Nat → Pat × (Nat → Pat) := fun k => if k = 4 then (⟨[], [(0, .lf (.d (.int .i64))), (1, .lf (.d (.int .i64))), (5, .lf (.d .str)), (6, .lf (.d (.int .i64)))], []⟩, fun e => if e = 2 then ⟨[], [(5, .lf (.d .str))], []⟩ else ⟨[], [], []⟩) else (⟨[], [], []⟩, fun _ => ⟨[], [], []⟩)
noncomputable def co_spec_l1Number_4 : Code := (loopsIn (bodyOf Try.f95)).getD 0 .skip
noncomputable def tr_spec_l1Number_4 {R : Type}  (NX : ((Int) × (Int) × (ByteArray) × (Int) × Unit) → Option R) (X2 : ((ByteArray) × Unit) → Option R) (v0 : Int) (v1 : Int) (v5 : ByteArray) (v6 : Int) : Option R :=
  bif decide (v6 < v1) then
    bif decide (ByteArray.size (strOfNums [IntKind.wrap IntKind.u8 (Int.tmod v0 256)]) + ByteArray.size v5 ≤ 9223372036854775807) then
      NX (IntKind.wrap IntKind.i64 (Int.tdiv v0 256), v1, strOfNums [IntKind.wrap IntKind.u8 (Int.tmod v0 256)] ++ v5, IntKind.wrap IntKind.i64 (v6 + 1), ())
    else none
  else X2 (v5, ())
noncomputable def lo_spec_l1Number_4 : Nat → (Int) → (Int) → (ByteArray) → (Int) →  Option ((ByteArray) × Unit)
  | 0, _, _, _, _ => none
  | m + 1, v0, v1, v5, v6 => tr_spec_l1Number_4  (fun d => lo_spec_l1Number_4 m d.1 d.2.1 d.2.2.1 d.2.2.2.1) (fun d => some (d)) v0 v1 v5 v6
theorem na_spec_l1Number_4 {R S : Type}  (NX : ((Int) × (Int) × (ByteArray) × (Int) × Unit) → Option R) (X2 : ((ByteArray) × Unit) → Option R) (v0 : Int) (v1 : Int) (v5 : ByteArray) (v6 : Int) (f : R → Option S) : tr_spec_l1Number_4  (fun d => (NX d).bind f) (fun d => (X2 d).bind f) v0 v1 v5 v6 = (tr_spec_l1Number_4  NX X2 v0 v1 v5 v6).bind f := by
  unfold tr_spec_l1Number_4
  simp only [cond_bind, ite_bind, onSum_bind, Option.bind_assoc, Option.bind_none, Option.bind_some]
noncomputable def de_spec_l1Number (a0 : Int) (a1 : Int) : Option ((((ByteArray) × Unit) × (Unit))) :=
  Option.bind ((fun d => lo_spec_l1Number_4 (fu_spec_l1Number_4 d.1 d.2.1 d.2.2.1 d.2.2.2.1) d.1 d.2.1 d.2.2.1 d.2.2.2.1) (a0, a1, ByteArray.mk #[], 0, ())) fun val => some ((val.fst, ()), ())
theorem l1Number_loop : ∀ (k m i : Nat) (v : Int) (out : ByteArray), i + k ≤ 1000 → k < m → out.size = i → 0 ≤ v → v < 9223372036854775808 → lo_spec_l1Number_4 m v ((i + k : Nat) : Int) out i = some (beS v k ++ out, ())
  | 0, m + 1, i, v, out, hi, hm, ho, h0, h1 => by
    simp only [lo_spec_l1Number_4, tr_spec_l1Number_4]
    rw [decide_eq_false (by omega), beS_zero]
    rfl
  | k + 1, m + 1, i, v, out, hi, hm, ho, h0, h1 => by
    simp only [lo_spec_l1Number_4, tr_spec_l1Number_4]
    have e1 : IntKind.wrap IntKind.u8 (Int.tmod v 256) = v % 256 := by
      rw [Int.tmod_eq_emod_of_nonneg h0]
      show v % 256 % 256 = v % 256
      omega
    have e2 : IntKind.wrap IntKind.i64 (Int.tdiv v 256) = v / 256 := by
      rw [Int.tdiv_eq_ediv_of_nonneg h0]
      exact wrap_ok (by omega) (by omega)
    rw [decide_eq_true (show (i : Int) < ((i + (k + 1) : Nat) : Int) by omega), e1, e2, decide_eq_true (show ByteArray.size (strOfNums [v % 256]) + ByteArray.size out ≤ 9223372036854775807 by rw [ho, size_strOfNums]; simp; omega), wI (show i < 4611686018427387904 by omega)]
    have hL := l1Number_loop k m (i + 1) (v / 256) (strOfNums [v % 256] ++ out) (by omega) (by omega) (by rw [ByteArray.size_append, ho, size_strOfNums]; simp; omega) (by omega) (by omega)
    rw [show i + 1 + k = i + (k + 1) by omega] at hL
    refine hL.trans ?_
    rw [← ByteArray.append_assoc, ← beS_succ]
theorem eq_spec_l1Number (a0 : Int) (a1 : Int) r (h : m_spec_l1Number a0 a1 = some r) : de_spec_l1Number a0 a1 = some ((r, ()), (())) := by
  rw [me_spec_l1Number] at h
  split at h
  · rename_i hc
    cases h
    obtain ⟨n, rfl⟩ : ∃ n : Nat, a1 = (n : Int) := ⟨a1.toNat, by omega⟩
    unfold de_spec_l1Number
    have hL := l1Number_loop n (fu_spec_l1Number_4 a0 n (ByteArray.mk #[]) 0) 0 a0 (ByteArray.mk #[]) (by omega) (by simp only [fu_spec_l1Number_4]; omega) rfl hc.1 hc.2.1
    rw [Nat.zero_add] at hL
    rw [app_z] at hL
    exact bi_ hL rfl
  · cases h
noncomputable def ou_spec_l1Number_4 {R : Type} (k : Kt R) : ((ByteArray) × Unit) → Option R := (fun d => k (.exit 0) (((pa_spec_l1Number 4).2 2).st d) (((pa_spec_l1Number 4).2 2).nid))
noncomputable def L_spec_l1Number {R : Type} : Lt R pa_spec_l1Number := (addL (pat := pa_spec_l1Number) 4 (fun d k => (lo_spec_l1Number_4 (fu_spec_l1Number_4 d.1 d.2.1 d.2.2.1 d.2.2.2.1) d.1 d.2.1 d.2.2.1 d.2.2.2.1).bind (ou_spec_l1Number_4 k)) noL)
theorem rd_spec_l1Number_4 {R : Type} (nx : (pa_spec_l1Number 4).1.D → Kt R → Option R) (k : Kt R) (v0 : Int) (v1 : Int) (v5 : ByteArray) (v6 : Int) : ev Try.prog ⟨ta_spec_l1Number, 0, 22, pa_spec_l1Number⟩ L_spec_l1Number co_spec_l1Number_4 ((pa_spec_l1Number 4).1.st (v0, v1, v5, v6, ())) (pa_spec_l1Number 4).1.nid (roundK 0 (pa_spec_l1Number 4) nx k) = tr_spec_l1Number_4  (fun d => nx d k) (fun d => k (.exit 0) (((pa_spec_l1Number 4).2 2).st d) (((pa_spec_l1Number 4).2 2).nid)) v0 v1 v5 v6 := by kernel_rfl
theorem lp_spec_l1Number_4 {R : Type} : ∀ (m : Nat) (d : (pa_spec_l1Number 4).1.D) (k : Kt R), loopN 0 (pa_spec_l1Number 4) (fun s nid k => ev Try.prog ⟨ta_spec_l1Number, 0, 22, pa_spec_l1Number⟩ L_spec_l1Number co_spec_l1Number_4 s nid k) m d k = (lo_spec_l1Number_4 m d.1 d.2.1 d.2.2.1 d.2.2.2.1).bind (ou_spec_l1Number_4 k)
  | 0, _, _ => rfl
  | m + 1, ⟨v0, v1, v5, v6, ⟨⟩⟩, k => (rd_spec_l1Number_4 _ k v0 v1 v5 v6).trans ((congrArg (fun F => tr_spec_l1Number_4  F (fun d => k (.exit 0) (((pa_spec_l1Number 4).2 2).st d) (((pa_spec_l1Number 4).2 2).nid)) v0 v1 v5 v6) (funext fun d => lp_spec_l1Number_4 m d k)).trans (na_spec_l1Number_4 (f := ou_spec_l1Number_4 k)  (fun d => lo_spec_l1Number_4 m d.1 d.2.1 d.2.2.1 d.2.2.2.1) (fun d => some (d)) v0 v1 v5 v6))
theorem en_spec_l1Number (a0 : Int) (a1 : Int) : evalF Try.prog ta_spec_l1Number pa_spec_l1Number sg_spec_l1Number Try.f95 L_spec_l1Number (a0, a1, ()) = de_spec_l1Number a0 a1 := by kernel_rfl
theorem si_spec_l1Number : SigsOk Try.prog ta_spec_l1Number := SigsOk.of fun f sd h => by
  try dsimp only [Tb.of, ta_spec_l1Number] at h
  cases h
theorem lk_spec_l1Number_4 {R : Type} : LoopOk Try.prog R 22 0 pa_spec_l1Number L_spec_l1Number co_spec_l1Number_4 :=
  loop_key (cfg := ⟨ta_spec_l1Number, 0, 22, pa_spec_l1Number⟩) (key := 4) (by kernel_rfl) (by kernel_rfl) si_spec_l1Number rfl rfl (fun d k r h => ⟨fu_spec_l1Number_4 d.1 d.2.1 d.2.2.1 d.2.2.2.1, (lp_spec_l1Number_4 _ d k).trans h⟩) (fun c hc => by rw [show loopsIn co_spec_l1Number_4 = [] from by kernel_rfl] at hc; cases hc)
theorem sn_spec_l1Number : Callable Try.prog 95 ∧ Sound Try.prog 95 sd_spec_l1Number.sg sd_spec_l1Number.den :=
  fn_loops (pat := pa_spec_l1Number) L_spec_l1Number (by kernel_rfl) si_spec_l1Number Try.func95 (by kernel_rfl) (by kernel_rfl) (fun c hc => by rw [show loopsIn (bodyOf Try.f95) = [co_spec_l1Number_4] from by kernel_rfl] at hc; simp only [List.mem_cons, List.not_mem_nil, or_false] at hc; rcases hc with rfl <;> first | exact lk_spec_l1Number_4) fun x r h => by
    obtain ⟨a0, a1, ⟨⟩⟩ := x; obtain ⟨y, h1, h2⟩ := Option.bind_eq_some_iff.1 (show (m_spec_l1Number a0 a1).bind (fun r => some ((r, ()), (()))) = some r from h); cases h2; exact (en_spec_l1Number a0 a1).trans (eq_spec_l1Number a0 a1 _ h1)
def m_spec_Sum (s : ByteArray) (w : Int) : Option ByteArray := if s.size < 4611686018427387904 then some (sumS s w) else none
def fu_spec_Sum_6 (v0 : ByteArray) (v1 v5 v6 : Int) : Nat := (nI v0.size - v6).toNat + 1
def fu_spec_Sum_11 (v1 v5 : Int) (v7 : ByteArray) (v8 : Int) : Nat := (v1 - v8).toNat + 1
def sg_spec_Sum : Sig := ⟨[.rd .str, .rd (.int .i64)], [none, none], [.rd .str], [none]⟩
noncomputable def sd_spec_Sum : SD := ⟨sg_spec_Sum, fun x => (m_spec_Sum x.1 x.2.1).bind fun r => some ((r, ()), (()))⟩
noncomputable def ta_spec_Sum : Tb := Tb.of fun f => if f = 108 then some sd_spec_l1Width else none
def pa_spec_Sum : Nat → Pat × (Nat → Pat) := fun k => if k = 6 then (⟨[], [(0, .lf (.d .str)), (1, .lf (.d (.int .i64))), (5, .lf (.d (.int .u64))), (6, .lf (.d (.int .i64)))], []⟩, fun e => if e = 2 then ⟨[], [(1, .lf (.d (.int .i64))), (5, .lf (.d (.int .u64)))], []⟩ else ⟨[], [], []⟩) else if k = 11 then (⟨[], [(1, .lf (.d (.int .i64))), (5, .lf (.d (.int .u64))), (7, .lf (.d .str)), (8, .lf (.d (.int .i64)))], []⟩, fun e => if e = 4 then ⟨[], [(7, .lf (.d .str))], []⟩ else ⟨[], [], []⟩) else (⟨[], [], []⟩, fun _ => ⟨[], [], []⟩)
noncomputable def co_spec_Sum_6 : Code := (loopsIn (bodyOf Try.f96)).getD 0 .skip
noncomputable def co_spec_Sum_11 : Code := (loopsIn (bodyOf Try.f96)).getD 1 .skip
noncomputable def tr_spec_Sum_11 {R : Type}  (NX : ((Int) × (Int) × (ByteArray) × (Int) × Unit) → Option R) (X4 : ((ByteArray) × Unit) → Option R) (v1 : Int) (v5 : Int) (v7 : ByteArray) (v8 : Int) : Option R :=
  bif decide (v8 < v1) then
    bif decide (ByteArray.size (strOfNums [IntKind.wrap IntKind.u8 (Int.tmod v5 256)]) + ByteArray.size v7 ≤ 9223372036854775807) then
      NX (v1, IntKind.wrap IntKind.u64 (Int.tdiv v5 256), strOfNums [IntKind.wrap IntKind.u8 (Int.tmod v5 256)] ++ v7, IntKind.wrap IntKind.i64 (v8 + 1), ())
    else none
  else X4 (v7, ())
noncomputable def lo_spec_Sum_11 : Nat → (Int) → (Int) → (ByteArray) → (Int) →  Option ((ByteArray) × Unit)
  | 0, _, _, _, _ => none
  | m + 1, v1, v5, v7, v8 => tr_spec_Sum_11  (fun d => lo_spec_Sum_11 m d.1 d.2.1 d.2.2.1 d.2.2.2.1) (fun d => some (d)) v1 v5 v7 v8
theorem na_spec_Sum_11 {R S : Type}  (NX : ((Int) × (Int) × (ByteArray) × (Int) × Unit) → Option R) (X4 : ((ByteArray) × Unit) → Option R) (v1 : Int) (v5 : Int) (v7 : ByteArray) (v8 : Int) (f : R → Option S) : tr_spec_Sum_11  (fun d => (NX d).bind f) (fun d => (X4 d).bind f) v1 v5 v7 v8 = (tr_spec_Sum_11  NX X4 v1 v5 v7 v8).bind f := by
  unfold tr_spec_Sum_11
  simp only [cond_bind, ite_bind, onSum_bind, Option.bind_assoc, Option.bind_none, Option.bind_some]
noncomputable def tr_spec_Sum_6 {R : Type}  (NX : ((ByteArray) × (Int) × (Int) × (Int) × Unit) → Option R) (X2 : ((Int) × (Int) × Unit) → Option R) (v0 : ByteArray) (v1 : Int) (v5 : Int) (v6 : Int) : Option R :=
  bif decide (v6 < nI (ByteArray.size v0)) then
    bif decide (0 ≤ v6) then
      bif decide (v6 < nI (ByteArray.size v0)) then
        NX
          (v0, v1, IntKind.wrap IntKind.u64 (IntKind.wrap IntKind.u64 (nI (BitVec.toNat (BitVec.ofInt 64 v5 ^^^ BitVec.ofInt 64 (IntKind.wrap IntKind.u64 (byteAt v0 v6))))) * 1099511628211),
            IntKind.wrap IntKind.i64 (v6 + 1), ())
      else none
    else none
  else X2 (v1, v5, ())
noncomputable def lo_spec_Sum_6 : Nat → (ByteArray) → (Int) → (Int) → (Int) →  Option ((Int) × (Int) × Unit)
  | 0, _, _, _, _ => none
  | m + 1, v0, v1, v5, v6 => tr_spec_Sum_6  (fun d => lo_spec_Sum_6 m d.1 d.2.1 d.2.2.1 d.2.2.2.1) (fun d => some (d)) v0 v1 v5 v6
theorem na_spec_Sum_6 {R S : Type}  (NX : ((ByteArray) × (Int) × (Int) × (Int) × Unit) → Option R) (X2 : ((Int) × (Int) × Unit) → Option R) (v0 : ByteArray) (v1 : Int) (v5 : Int) (v6 : Int) (f : R → Option S) : tr_spec_Sum_6  (fun d => (NX d).bind f) (fun d => (X2 d).bind f) v0 v1 v5 v6 = (tr_spec_Sum_6  NX X2 v0 v1 v5 v6).bind f := by
  unfold tr_spec_Sum_6
  simp only [cond_bind, ite_bind, onSum_bind, Option.bind_assoc, Option.bind_none, Option.bind_some]
noncomputable def de_spec_Sum (a0 : ByteArray) (a1 : Int) : Option ((((ByteArray) × Unit) × (Unit))) :=
  Option.bind (bif decide (a1 ≥ 1) then some ((decide (a1 ≤ 8), ()), ()) else some ((false, ()), ())) fun val =>
    bif !val.fst.fst then some ((ByteArray.mk #[], ()), ())
    else Option.bind ((fun d => lo_spec_Sum_6 (fu_spec_Sum_6 d.1 d.2.1 d.2.2.1 d.2.2.2.1) d.1 d.2.1 d.2.2.1 d.2.2.2.1) (a0, a1, 14695981039346656037, 0, ())) fun val => Option.bind ((fun d => lo_spec_Sum_11 (fu_spec_Sum_11 d.1 d.2.1 d.2.2.1 d.2.2.2.1) d.1 d.2.1 d.2.2.1 d.2.2.2.1) (val.fst, val.snd.fst, ByteArray.mk #[], 0, ())) fun val => some ((val.fst, ()), ())
theorem spSum_loop : ∀ (k m i : Nat) (v : Int) (out : ByteArray), i + k ≤ 1000 → k < m → out.size = i → U64 v → lo_spec_Sum_11 m ((i + k : Nat) : Int) v out i = some (beS v k ++ out, ())
  | 0, m + 1, i, v, out, hi, hm, ho, hv => by
    simp only [lo_spec_Sum_11, tr_spec_Sum_11]
    rw [decide_eq_false (by omega), beS_zero]
    rfl
  | k + 1, m + 1, i, v, out, hi, hm, ho, hv => by
    have h0 := hv.1
    have h1 := hv.2
    simp only [lo_spec_Sum_11, tr_spec_Sum_11]
    have e1 : IntKind.wrap IntKind.u8 (Int.tmod v 256) = v % 256 := by
      rw [Int.tmod_eq_emod_of_nonneg h0]
      show v % 256 % 256 = v % 256
      omega
    have e2 : IntKind.wrap IntKind.u64 (Int.tdiv v 256) = v / 256 := by
      rw [Int.tdiv_eq_ediv_of_nonneg h0, wrapU]
      omega
    rw [decide_eq_true (show (i : Int) < ((i + (k + 1) : Nat) : Int) by omega), e1, e2, decide_eq_true (show ByteArray.size (strOfNums [v % 256]) + ByteArray.size out ≤ 9223372036854775807 by rw [ho, size_strOfNums]; simp; omega), wI (show i < 4611686018427387904 by omega)]
    have hL := spSum_loop k m (i + 1) (v / 256) (strOfNums [v % 256] ++ out) (by omega) (by omega) (by rw [ByteArray.size_append, ho, size_strOfNums]; simp; omega) ⟨by omega, by omega⟩
    rw [show i + 1 + k = i + (k + 1) by omega] at hL
    refine hL.trans ?_
    rw [← ByteArray.append_assoc, ← beS_succ]
theorem eq_spec_Sum (a0 : ByteArray) (a1 : Int) r (h : m_spec_Sum a0 a1 = some r) : de_spec_Sum a0 a1 = some ((r, ()), (())) := by
  unfold m_spec_Sum at h
  split at h
  rotate_left
  · cases h
  rename_i hsz
  cases h
  unfold de_spec_Sum sumS
  generalize hC : (14695981039346656037 : Int) = C
  have h0 : U64 C := by rw [← hC]; exact ⟨by decide, by decide⟩
  refine bi_ (wid a1) ?_
  show (bif !inB a1 1 8 then _ else _) = _
  cases hw : inB a1 1 8 with
  | false => rfl
  | true =>
    have k1 := of_decide_eq_true (and2 hw).1
    have k2 := of_decide_eq_true (and2 hw).2
    · simp only [Bool.not_true, cond_false, cond_true]
      have hL := up_loop a0.size (fun _ _ => True) (fun i h => hashStep h (byteAt a0 i)) (g := fun m i h => lo_spec_Sum_6 m a0 a1 h i) (ok := fun h => (a1, h, ())) (fun m i h hi _ => by
        show lo_spec_Sum_6 (m + 1) a0 a1 h i = _
        simp only [lo_spec_Sum_6, tr_spec_Sum_6]
        have c1 : (i : Int) < nI a0.size := by simp only [nI]; omega
        rw [decide_eq_true c1, cLe0, wI (show i < 4611686018427387904 by omega)]
        rfl) (fun m h _ => by
        show lo_spec_Sum_6 (m + 1) a0 a1 h a0.size = _
        simp only [lo_spec_Sum_6, tr_spec_Sum_6]
        rw [decide_eq_false (show ¬ ((a0.size : Int) < nI a0.size) by simp only [nI]; omega)]
        rfl) (fun _ _ _ _ => trivial) a0.size (fu_spec_Sum_6 a0 a1 C 0) 0 C (by omega) (by simp only [fu_spec_Sum_6, nI]; omega) trivial
      rw [show ((0 : Nat) : Int) = 0 from rfl] at hL
      refine bi_ hL ?_
      obtain ⟨n, rfl⟩ : ∃ n : Nat, a1 = (n : Int) := ⟨a1.toNat, by omega⟩
      have hM := spSum_loop n (fu_spec_Sum_11 n (hashGo a0 a0.size 0 C) (ByteArray.mk #[]) 0) 0 (hashGo a0 a0.size 0 C) (ByteArray.mk #[]) (by omega) (by simp only [fu_spec_Sum_11]; omega) rfl (hash_in a0 _ _ h0)
      rw [Nat.zero_add, app_z] at hM
      exact bi_ hM rfl
noncomputable def ou_spec_Sum_6 {R : Type} (k : Kt R) : ((Int) × (Int) × Unit) → Option R := (fun d => k (.exit 0) (((pa_spec_Sum 6).2 2).st d) (((pa_spec_Sum 6).2 2).nid))
noncomputable def ou_spec_Sum_11 {R : Type} (k : Kt R) : ((ByteArray) × Unit) → Option R := (fun d => k (.exit 2) (((pa_spec_Sum 11).2 4).st d) (((pa_spec_Sum 11).2 4).nid))
noncomputable def L_spec_Sum {R : Type} : Lt R pa_spec_Sum := (addL (pat := pa_spec_Sum) 6 (fun d k => (lo_spec_Sum_6 (fu_spec_Sum_6 d.1 d.2.1 d.2.2.1 d.2.2.2.1) d.1 d.2.1 d.2.2.1 d.2.2.2.1).bind (ou_spec_Sum_6 k)) (addL (pat := pa_spec_Sum) 11 (fun d k => (lo_spec_Sum_11 (fu_spec_Sum_11 d.1 d.2.1 d.2.2.1 d.2.2.2.1) d.1 d.2.1 d.2.2.1 d.2.2.2.1).bind (ou_spec_Sum_11 k)) noL))
theorem rd_spec_Sum_11 {R : Type} (nx : (pa_spec_Sum 11).1.D → Kt R → Option R) (k : Kt R) (v1 : Int) (v5 : Int) (v7 : ByteArray) (v8 : Int) : ev Try.prog ⟨ta_spec_Sum, 0, 40, pa_spec_Sum⟩ L_spec_Sum co_spec_Sum_11 ((pa_spec_Sum 11).1.st (v1, v5, v7, v8, ())) (pa_spec_Sum 11).1.nid (roundK 0 (pa_spec_Sum 11) nx k) = tr_spec_Sum_11  (fun d => nx d k) (fun d => k (.exit 2) (((pa_spec_Sum 11).2 4).st d) (((pa_spec_Sum 11).2 4).nid)) v1 v5 v7 v8 := by kernel_rfl
theorem lp_spec_Sum_11 {R : Type} : ∀ (m : Nat) (d : (pa_spec_Sum 11).1.D) (k : Kt R), loopN 0 (pa_spec_Sum 11) (fun s nid k => ev Try.prog ⟨ta_spec_Sum, 0, 40, pa_spec_Sum⟩ L_spec_Sum co_spec_Sum_11 s nid k) m d k = (lo_spec_Sum_11 m d.1 d.2.1 d.2.2.1 d.2.2.2.1).bind (ou_spec_Sum_11 k)
  | 0, _, _ => rfl
  | m + 1, ⟨v1, v5, v7, v8, ⟨⟩⟩, k => (rd_spec_Sum_11 _ k v1 v5 v7 v8).trans ((congrArg (fun F => tr_spec_Sum_11  F (fun d => k (.exit 2) (((pa_spec_Sum 11).2 4).st d) (((pa_spec_Sum 11).2 4).nid)) v1 v5 v7 v8) (funext fun d => lp_spec_Sum_11 m d k)).trans (na_spec_Sum_11 (f := ou_spec_Sum_11 k)  (fun d => lo_spec_Sum_11 m d.1 d.2.1 d.2.2.1 d.2.2.2.1) (fun d => some (d)) v1 v5 v7 v8))
theorem rd_spec_Sum_6 {R : Type} (nx : (pa_spec_Sum 6).1.D → Kt R → Option R) (k : Kt R) (v0 : ByteArray) (v1 : Int) (v5 : Int) (v6 : Int) : ev Try.prog ⟨ta_spec_Sum, 0, 40, pa_spec_Sum⟩ L_spec_Sum co_spec_Sum_6 ((pa_spec_Sum 6).1.st (v0, v1, v5, v6, ())) (pa_spec_Sum 6).1.nid (roundK 0 (pa_spec_Sum 6) nx k) = tr_spec_Sum_6  (fun d => nx d k) (fun d => k (.exit 0) (((pa_spec_Sum 6).2 2).st d) (((pa_spec_Sum 6).2 2).nid)) v0 v1 v5 v6 := by kernel_rfl
theorem lp_spec_Sum_6 {R : Type} : ∀ (m : Nat) (d : (pa_spec_Sum 6).1.D) (k : Kt R), loopN 0 (pa_spec_Sum 6) (fun s nid k => ev Try.prog ⟨ta_spec_Sum, 0, 40, pa_spec_Sum⟩ L_spec_Sum co_spec_Sum_6 s nid k) m d k = (lo_spec_Sum_6 m d.1 d.2.1 d.2.2.1 d.2.2.2.1).bind (ou_spec_Sum_6 k)
  | 0, _, _ => rfl
  | m + 1, ⟨v0, v1, v5, v6, ⟨⟩⟩, k => (rd_spec_Sum_6 _ k v0 v1 v5 v6).trans ((congrArg (fun F => tr_spec_Sum_6  F (fun d => k (.exit 0) (((pa_spec_Sum 6).2 2).st d) (((pa_spec_Sum 6).2 2).nid)) v0 v1 v5 v6) (funext fun d => lp_spec_Sum_6 m d k)).trans (na_spec_Sum_6 (f := ou_spec_Sum_6 k)  (fun d => lo_spec_Sum_6 m d.1 d.2.1 d.2.2.1 d.2.2.2.1) (fun d => some (d)) v0 v1 v5 v6))
theorem en_spec_Sum (a0 : ByteArray) (a1 : Int) : evalF Try.prog ta_spec_Sum pa_spec_Sum sg_spec_Sum Try.f96 L_spec_Sum (a0, a1, ()) = de_spec_Sum a0 a1 := by kernel_rfl
theorem si_spec_Sum : SigsOk Try.prog ta_spec_Sum := SigsOk.of fun f sd h => by
  try dsimp only [Tb.of, ta_spec_Sum] at h
  split at h
  · rename_i e; subst e; cases h; exact sn_spec_l1Width
  cases h
theorem lk_spec_Sum_11 {R : Type} : LoopOk Try.prog R 40 0 pa_spec_Sum L_spec_Sum co_spec_Sum_11 :=
  loop_key (cfg := ⟨ta_spec_Sum, 0, 40, pa_spec_Sum⟩) (key := 11) (by kernel_rfl) (by kernel_rfl) si_spec_Sum rfl rfl (fun d k r h => ⟨fu_spec_Sum_11 d.1 d.2.1 d.2.2.1 d.2.2.2.1, (lp_spec_Sum_11 _ d k).trans h⟩) (fun c hc => by rw [show loopsIn co_spec_Sum_11 = [] from by kernel_rfl] at hc; cases hc)
theorem lk_spec_Sum_6 {R : Type} : LoopOk Try.prog R 40 0 pa_spec_Sum L_spec_Sum co_spec_Sum_6 :=
  loop_key (cfg := ⟨ta_spec_Sum, 0, 40, pa_spec_Sum⟩) (key := 6) (by kernel_rfl) (by kernel_rfl) si_spec_Sum rfl rfl (fun d k r h => ⟨fu_spec_Sum_6 d.1 d.2.1 d.2.2.1 d.2.2.2.1, (lp_spec_Sum_6 _ d k).trans h⟩) (fun c hc => by rw [show loopsIn co_spec_Sum_6 = [] from by kernel_rfl] at hc; cases hc)
theorem sn_spec_Sum : Callable Try.prog 96 ∧ Sound Try.prog 96 sd_spec_Sum.sg sd_spec_Sum.den :=
  fn_loops (pat := pa_spec_Sum) L_spec_Sum (by kernel_rfl) si_spec_Sum Try.func96 (by kernel_rfl) (by kernel_rfl) (fun c hc => by rw [show loopsIn (bodyOf Try.f96) = [co_spec_Sum_6, co_spec_Sum_11] from by kernel_rfl] at hc; simp only [List.mem_cons, List.not_mem_nil, or_false] at hc; rcases hc with rfl | rfl <;> first | exact lk_spec_Sum_6 | exact lk_spec_Sum_11) fun x r h => by
    obtain ⟨a0, a1, ⟨⟩⟩ := x; obtain ⟨y, h1, h2⟩ := Option.bind_eq_some_iff.1 (show (m_spec_Sum a0 a1).bind (fun r => some ((r, ()), (()))) = some r from h); cases h2; exact (en_spec_Sum a0 a1).trans (eq_spec_Sum a0 a1 _ h1)
def m_spec_FormPage (p : Pg) (w : Int) : ByteArray := pageS p w
def fu_spec_FormPage_5 (v1 : Int) (v5 : ByteArray) : Nat := (64 - v1 - nI v5.size).toNat + 1
def sg_spec_FormPage : Sig := ⟨[.rd (.pair (.int .i64) (.pair (.int .i64) (.pair (.int .i64) (.pair .str .unit)))), .rd (.int .i64)], [some 4, none], [.rd .str], [none]⟩
noncomputable def sd_spec_FormPage : SD := ⟨sg_spec_FormPage, fun x => some (((m_spec_FormPage x.1 x.2.1), ()), (()))⟩
noncomputable def ta_spec_FormPage : Tb := Tb.of fun f => if f = 94 then some sd_spec_l1Ok else if f = 95 then some sd_spec_l1Number else if f = 96 then some sd_spec_Sum else none
def pa_spec_FormPage : Nat → Pat × (Nat → Pat) := fun k => if k = 5 then (⟨[], [(1, .lf (.d (.int .i64))), (5, .lf (.d .str))], []⟩, fun e => if e = 2 then ⟨[], [(1, .lf (.d (.int .i64))), (5, .lf (.d .str))], []⟩ else ⟨[], [], []⟩) else (⟨[], [], []⟩, fun _ => ⟨[], [], []⟩)
noncomputable def co_spec_FormPage_5 : Code := (loopsIn (bodyOf Try.f46)).getD 0 .skip
noncomputable def tr_spec_FormPage_5 {R : Type}  (NX : ((Int) × (ByteArray) × Unit) → Option R) (X2 : ((Int) × (ByteArray) × Unit) → Option R) (v1 : Int) (v5 : ByteArray) : Option R :=
  bif decide (IntKind.wrap IntKind.i64 (nI (ByteArray.size v5) + v1) < 64) then
    bif decide (ByteArray.size v5 + ByteArray.size (ByteArray.mk #[0]) ≤ 9223372036854775807) then NX (v1, v5 ++ ByteArray.mk #[0], ()) else none
  else X2 (v1, v5, ())
noncomputable def lo_spec_FormPage_5 : Nat → (Int) → (ByteArray) →  Option ((Int) × (ByteArray) × Unit)
  | 0, _, _ => none
  | m + 1, v1, v5 => tr_spec_FormPage_5  (fun d => lo_spec_FormPage_5 m d.1 d.2.1) (fun d => some (d)) v1 v5
theorem na_spec_FormPage_5 {R S : Type}  (NX : ((Int) × (ByteArray) × Unit) → Option R) (X2 : ((Int) × (ByteArray) × Unit) → Option R) (v1 : Int) (v5 : ByteArray) (f : R → Option S) : tr_spec_FormPage_5  (fun d => (NX d).bind f) (fun d => (X2 d).bind f) v1 v5 = (tr_spec_FormPage_5  NX X2 v1 v5).bind f := by
  unfold tr_spec_FormPage_5
  simp only [cond_bind, ite_bind, onSum_bind, Option.bind_assoc, Option.bind_none, Option.bind_some]
noncomputable def de_spec_FormPage (a0 : Int × Int × Int × ByteArray × Unit) (a1 : Int) : Option ((((ByteArray) × Unit) × (Unit))) :=
  bif !m_spec_l1Ok (a0.fst, a0.snd.fst, a0.snd.snd.fst, a0.snd.snd.snd.fst, ()) a1 then some ((ByteArray.mk #[], ()), ())
  else
    Option.bind (Option.bind (m_spec_l1Number a0.fst 1) fun val => some ((val, ()), ())) fun val =>
      Option.bind (Option.bind (m_spec_l1Number a0.snd.fst 2) fun val => some ((val, ()), ())) fun val_1 =>
        bif decide (ByteArray.size val.fst.fst + ByteArray.size val_1.fst.fst ≤ 9223372036854775807) then
          Option.bind (Option.bind (m_spec_l1Number a0.snd.snd.fst 4) fun val => some ((val, ()), ())) fun val_2 =>
            bif decide (ByteArray.size (val.fst.fst ++ val_1.fst.fst) + ByteArray.size val_2.fst.fst ≤ 9223372036854775807) then
              Option.bind (Option.bind (m_spec_l1Number (nI (ByteArray.size a0.snd.snd.snd.fst)) 1) fun val => some ((val, ()), ())) fun val_3 =>
                bif decide (ByteArray.size (val.fst.fst ++ val_1.fst.fst ++ val_2.fst.fst) + ByteArray.size val_3.fst.fst ≤ 9223372036854775807) then
                  bif decide (ByteArray.size (val.fst.fst ++ val_1.fst.fst ++ val_2.fst.fst ++ val_3.fst.fst) + ByteArray.size a0.snd.snd.snd.fst ≤ 9223372036854775807) then
                    Option.bind ((fun d => lo_spec_FormPage_5 (fu_spec_FormPage_5 d.1 d.2.1) d.1 d.2.1) (a1, val.fst.fst ++ val_1.fst.fst ++ val_2.fst.fst ++ val_3.fst.fst ++ a0.snd.snd.snd.fst, ())) fun val =>
                      Option.bind (Option.bind (m_spec_Sum val.snd.fst val.fst) fun val => some ((val, ()), ())) fun val_4 =>
                        bif decide (ByteArray.size val_4.fst.fst + ByteArray.size val.snd.fst ≤ 9223372036854775807) then some ((val_4.fst.fst ++ val.snd.fst, ()), ()) else none
                  else none
                else none
            else none
        else none
theorem pad_loop (w : Int) : ∀ (k m : Nat) (b : ByteArray), (b.size : Int) + w + k = 64 → 0 ≤ w → k < m → lo_spec_FormPage_5 m w b = some (w, b ++ strOfNums (List.replicate k 0), ())
  | 0, m + 1, b, h, h0, hm => by
    simp only [lo_spec_FormPage_5, tr_spec_FormPage_5]
    rw [wrap_ok (by simp only [nI]; omega) (by simp only [nI]; omega), decide_eq_false (show ¬ (nI b.size + w < 64) by simp only [nI]; omega), show strOfNums (List.replicate 0 0) = ByteArray.mk #[] from rfl, app_z]
    rfl
  | k + 1, m + 1, b, h, h0, hm => by
    simp only [lo_spec_FormPage_5, tr_spec_FormPage_5]
    have hz : (ByteArray.mk #[0]).size = 1 := rfl
    rw [wrap_ok (by simp only [nI]; omega) (by simp only [nI]; omega), decide_eq_true (show nI b.size + w < 64 by simp only [nI]; omega), hz, decide_eq_true (show b.size + 1 ≤ 9223372036854775807 by omega)]
    have := pad_loop w k m (b ++ ByteArray.mk #[0]) (by rw [ByteArray.size_append, hz]; omega) h0 (by omega)
    refine this.trans ?_
    rw [ByteArray.append_assoc, show ByteArray.mk #[0] = strOfNums [0] from rfl, ← strOfNums_app]
    rfl
theorem eq_spec_FormPage (a0 : Int × Int × Int × ByteArray × Unit) (a1 : Int) : de_spec_FormPage a0 a1 = some (((m_spec_FormPage a0 a1), ()), (())) := by
  unfold de_spec_FormPage m_spec_FormPage pageS
  show (bif !pageOk a0 a1 then _ else _) = _
  cases hp : pageOk a0 a1 with
  | false => rfl
  | true =>
    obtain ⟨hw, k1, k2, kp⟩ := pageOk_w hp
    obtain ⟨r1, r2, r3⟩ := pageOk_r hp
    have n1 : m_spec_l1Number a0.1 1 = some (beS a0.1 1) := (me_spec_l1Number _ _).trans (if_pos (by omega))
    have n2 : m_spec_l1Number a0.2.1 2 = some (beS a0.2.1 2) := (me_spec_l1Number _ _).trans (if_pos (by omega))
    have n3 : m_spec_l1Number a0.2.2.1 4 = some (beS a0.2.2.1 4) := (me_spec_l1Number _ _).trans (if_pos (by omega))
    have n4 : m_spec_l1Number (nI a0.2.2.2.1.size) 1 = some (beS (nI a0.2.2.2.1.size) 1) := (me_spec_l1Number _ _).trans (if_pos (by simp only [nI]; omega))
    simp only [Bool.not_true, cond_false, cond_true, n1, n2, n3, n4, Option.bind_some]
    have hb : bodyS a0 a1 = beS a0.1 1 ++ beS a0.2.1 2 ++ beS a0.2.2.1 4 ++ beS (nI a0.2.2.2.1.size) 1 ++ a0.2.2.2.1 ++ strOfNums (List.replicate (56 - a1 - a0.2.2.2.1.size).toNat 0) := rfl
    have hs4 : (beS a0.1 1 ++ beS a0.2.1 2 ++ beS a0.2.2.1 4 ++ beS (nI a0.2.2.2.1.size) 1).size = 8 := by simp only [ByteArray.size_append, beS_size]
    have hs3 : (beS a0.1 1 ++ beS a0.2.1 2 ++ beS a0.2.2.1 4).size = 7 := by simp only [ByteArray.size_append, beS_size]
    have hs2 : (beS a0.1 1 ++ beS a0.2.1 2).size = 3 := by simp only [ByteArray.size_append, beS_size]
    have hs5 : (beS a0.1 1 ++ beS a0.2.1 2 ++ beS a0.2.2.1 4 ++ beS (nI a0.2.2.2.1.size) 1 ++ a0.2.2.2.1).size = 8 + a0.2.2.2.1.size := by rw [ByteArray.size_append, hs4]
    rw [hs4, hs3, hs2, beS_size, beS_size, beS_size, beS_size, decide_eq_true (show 1 + 2 ≤ 9223372036854775807 by decide), decide_eq_true (show 3 + 4 ≤ 9223372036854775807 by decide), decide_eq_true (show 7 + 1 ≤ 9223372036854775807 by decide), decide_eq_true (show 8 + a0.2.2.2.1.size ≤ 9223372036854775807 by omega)]
    simp only [cond_true]
    generalize hB : beS a0.1 1 ++ beS a0.2.1 2 ++ beS a0.2.2.1 4 ++ beS (nI a0.2.2.2.1.size) 1 ++ a0.2.2.2.1 = B at *
    have hL := pad_loop a1 (56 - a1 - a0.2.2.2.1.size).toNat (fu_spec_FormPage_5 a1 B) B (by rw [hs5]; omega) (by omega) (by simp only [fu_spec_FormPage_5, nI, hs5]; omega)
    have hz : (strOfNums (List.replicate (56 - a1 - a0.2.2.2.1.size).toNat 0)).size = (56 - a1 - a0.2.2.2.1.size).toNat := by rw [size_strOfNums, List.length_replicate]
    rw [← hb] at hL
    have hbs : (bodyS a0 a1).size ≤ 64 := by rw [hb, ByteArray.size_append, hs5, hz]; omega
    have hm : m_spec_Sum (bodyS a0 a1) a1 = some (sumS (bodyS a0 a1) a1) := if_pos (by omega)
    refine bi_ hL (bi_ (bi_ hm rfl) ?_)
    show (bif decide (ByteArray.size (sumS (bodyS a0 a1) a1) + ByteArray.size (bodyS a0 a1) ≤ 9223372036854775807) then some ((sumS (bodyS a0 a1) a1 ++ bodyS a0 a1, ()), ()) else none) = _
    rw [sumS_size hw, decide_eq_true (by omega)]
    rfl
noncomputable def ou_spec_FormPage_5 {R : Type} (k : Kt R) : ((Int) × (ByteArray) × Unit) → Option R := (fun d => k (.exit 0) (((pa_spec_FormPage 5).2 2).st d) (((pa_spec_FormPage 5).2 2).nid))
noncomputable def L_spec_FormPage {R : Type} : Lt R pa_spec_FormPage := (addL (pat := pa_spec_FormPage) 5 (fun d k => (lo_spec_FormPage_5 (fu_spec_FormPage_5 d.1 d.2.1) d.1 d.2.1).bind (ou_spec_FormPage_5 k)) noL)
theorem rd_spec_FormPage_5 {R : Type} (nx : (pa_spec_FormPage 5).1.D → Kt R → Option R) (k : Kt R) (v1 : Int) (v5 : ByteArray) : ev Try.prog ⟨ta_spec_FormPage, 0, 41, pa_spec_FormPage⟩ L_spec_FormPage co_spec_FormPage_5 ((pa_spec_FormPage 5).1.st (v1, v5, ())) (pa_spec_FormPage 5).1.nid (roundK 0 (pa_spec_FormPage 5) nx k) = tr_spec_FormPage_5  (fun d => nx d k) (fun d => k (.exit 0) (((pa_spec_FormPage 5).2 2).st d) (((pa_spec_FormPage 5).2 2).nid)) v1 v5 := by kernel_rfl
theorem lp_spec_FormPage_5 {R : Type} : ∀ (m : Nat) (d : (pa_spec_FormPage 5).1.D) (k : Kt R), loopN 0 (pa_spec_FormPage 5) (fun s nid k => ev Try.prog ⟨ta_spec_FormPage, 0, 41, pa_spec_FormPage⟩ L_spec_FormPage co_spec_FormPage_5 s nid k) m d k = (lo_spec_FormPage_5 m d.1 d.2.1).bind (ou_spec_FormPage_5 k)
  | 0, _, _ => rfl
  | m + 1, ⟨v1, v5, ⟨⟩⟩, k => (rd_spec_FormPage_5 _ k v1 v5).trans ((congrArg (fun F => tr_spec_FormPage_5  F (fun d => k (.exit 0) (((pa_spec_FormPage 5).2 2).st d) (((pa_spec_FormPage 5).2 2).nid)) v1 v5) (funext fun d => lp_spec_FormPage_5 m d k)).trans (na_spec_FormPage_5 (f := ou_spec_FormPage_5 k)  (fun d => lo_spec_FormPage_5 m d.1 d.2.1) (fun d => some (d)) v1 v5))
theorem en_spec_FormPage (a0 : Int × Int × Int × ByteArray × Unit) (a1 : Int) : evalF Try.prog ta_spec_FormPage pa_spec_FormPage sg_spec_FormPage Try.f46 L_spec_FormPage (a0, a1, ()) = de_spec_FormPage a0 a1 := by kernel_rfl
theorem si_spec_FormPage : SigsOk Try.prog ta_spec_FormPage := SigsOk.of fun f sd h => by
  try dsimp only [Tb.of, ta_spec_FormPage] at h
  split at h
  · rename_i e; subst e; cases h; exact sn_spec_l1Ok
  split at h
  · rename_i e; subst e; cases h; exact sn_spec_l1Number
  split at h
  · rename_i e; subst e; cases h; exact sn_spec_Sum
  cases h
theorem lk_spec_FormPage_5 {R : Type} : LoopOk Try.prog R 41 0 pa_spec_FormPage L_spec_FormPage co_spec_FormPage_5 :=
  loop_key (cfg := ⟨ta_spec_FormPage, 0, 41, pa_spec_FormPage⟩) (key := 5) (by kernel_rfl) (by kernel_rfl) si_spec_FormPage rfl rfl (fun d k r h => ⟨fu_spec_FormPage_5 d.1 d.2.1, (lp_spec_FormPage_5 _ d k).trans h⟩) (fun c hc => by rw [show loopsIn co_spec_FormPage_5 = [] from by kernel_rfl] at hc; cases hc)
theorem sn_spec_FormPage : Callable Try.prog 46 ∧ Sound Try.prog 46 sd_spec_FormPage.sg sd_spec_FormPage.den :=
  fn_loops (pat := pa_spec_FormPage) L_spec_FormPage (by kernel_rfl) si_spec_FormPage Try.func46 (by kernel_rfl) (by kernel_rfl) (fun c hc => by rw [show loopsIn (bodyOf Try.f46) = [co_spec_FormPage_5] from by kernel_rfl] at hc; simp only [List.mem_cons, List.not_mem_nil, or_false] at hc; rcases hc with rfl <;> first | exact lk_spec_FormPage_5) fun x r h => by
    obtain ⟨a0, a1, ⟨⟩⟩ := x; rw [← h]; exact (en_spec_FormPage a0 a1).trans (eq_spec_FormPage a0 a1)
def m_spec_RootPage (r : Rt) (w : Int) : ByteArray := rootS r w
def sg_spec_RootPage : Sig := ⟨[.rd (.pair (.int .i64) (.pair (.int .i64) (.pair (.int .i64) (.pair (.int .i64) .unit)))), .rd (.int .i64)], [some 4, none], [.rd .str], [none]⟩
noncomputable def sd_spec_RootPage : SD := ⟨sg_spec_RootPage, fun x => some (((m_spec_RootPage x.1 x.2.1), ()), (()))⟩
noncomputable def ta_spec_RootPage : Tb := Tb.of fun f => if f = 46 then some sd_spec_FormPage else if f = 95 then some sd_spec_l1Number else none
def pa_spec_RootPage : Nat → Pat × (Nat → Pat) := fun k => (⟨[], [], []⟩, fun _ => ⟨[], [], []⟩)
noncomputable def de_spec_RootPage (a0 : Int × Int × Int × Int × Unit) (a1 : Int) : Option ((((ByteArray) × Unit) × (Unit))) :=
  bif decide (a0.snd.fst < 0) then some ((ByteArray.mk #[], ()), ())
  else
    bif decide (a0.snd.fst > 1) then some ((ByteArray.mk #[], ()), ())
    else
      bif decide (a0.snd.snd.fst < 1) then some ((ByteArray.mk #[], ()), ())
      else
        bif decide (a0.snd.snd.fst > 999999000) then some ((ByteArray.mk #[], ()), ())
        else
          Option.bind (Option.bind (m_spec_l1Number a0.snd.fst 1) fun val => some ((val, ()), ())) fun val =>
            Option.bind (Option.bind (m_spec_l1Number a0.snd.snd.fst 4) fun val => some ((val, ()), ())) fun val_1 =>
              bif decide (ByteArray.size val.fst.fst + ByteArray.size val_1.fst.fst ≤ 9223372036854775807) then
                some ((m_spec_FormPage (4, a0.snd.snd.snd.fst, a0.fst, val.fst.fst ++ val_1.fst.fst, ()) a1, ()), ())
              else none
theorem eq_spec_RootPage (a0 : Int × Int × Int × Int × Unit) (a1 : Int) : de_spec_RootPage a0 a1 = some (((m_spec_RootPage a0 a1), ()), (())) := by
  unfold de_spec_RootPage m_spec_RootPage rootS rootOk
  rw [inB_lt a0.2.1, inB_lt a0.2.2.1]
  cases h1 : inB a0.2.1 0 1 with
  | false => rfl
  | true =>
    cases h2 : inB a0.2.2.1 1 999999000 with
    | false => rfl
    | true =>
      have q1 := inB_r h1
      have q2 := inB_r h2
      have n1 : m_spec_l1Number a0.2.1 1 = some (beS a0.2.1 1) := (me_spec_l1Number _ _).trans (if_pos (by omega))
      have n2 : m_spec_l1Number a0.2.2.1 4 = some (beS a0.2.2.1 4) := (me_spec_l1Number _ _).trans (if_pos (by omega))
      simp only [n1, n2, Option.bind_some, cond_true]
      rw [beS_size, beS_size, decide_eq_true (show 1 + 4 ≤ 9223372036854775807 by decide)]
      rfl
theorem en_spec_RootPage (a0 : Int × Int × Int × Int × Unit) (a1 : Int) : evalF Try.prog ta_spec_RootPage pa_spec_RootPage sg_spec_RootPage Try.f49 noL (a0, a1, ()) = de_spec_RootPage a0 a1 := by kernel_rfl
theorem si_spec_RootPage : SigsOk Try.prog ta_spec_RootPage := SigsOk.of fun f sd h => by
  try dsimp only [Tb.of, ta_spec_RootPage] at h
  split at h
  · rename_i e; subst e; cases h; exact sn_spec_FormPage
  split at h
  · rename_i e; subst e; cases h; exact sn_spec_l1Number
  cases h
theorem sn_spec_RootPage : Callable Try.prog 49 ∧ Sound Try.prog 49 sd_spec_RootPage.sg sd_spec_RootPage.den :=
  fn_plain (pat := pa_spec_RootPage) (by kernel_rfl) si_spec_RootPage Try.func49 (by kernel_rfl) (by kernel_rfl) (by kernel_rfl) fun x r h => by
    obtain ⟨a0, a1, ⟨⟩⟩ := x; rw [← h]; exact (en_spec_RootPage a0 a1).trans (eq_spec_RootPage a0 a1)
def m_laws_toRoot (a : Int × Int × Int × Int × Unit) : Option (Int × Int × Int × Int × Unit) := toM (.pair (.int .i64) (.pair (.int .i64) (.pair (.int .i64) (.pair (.int .i64) .unit)))) a
def sg_laws_toRoot : Sig := ⟨[.rd (.pair (.int .i64) (.pair (.int .i64) (.pair (.int .i64) (.pair (.int .i64) .unit))))], [some 4], [.rd (.pair (.int .i64) (.pair (.int .i64) (.pair (.int .i64) (.pair (.int .i64) .unit))))], [some 4]⟩
noncomputable def sd_laws_toRoot : SD := ⟨sg_laws_toRoot, fun x => (m_laws_toRoot x.1).bind fun r => some ((r, ()), (()))⟩
noncomputable def ta_laws_toRoot : Tb := Tb.of fun f => none
def pa_laws_toRoot : Nat → Pat × (Nat → Pat) := fun k => (⟨[], [], []⟩, fun _ => ⟨[], [], []⟩)
noncomputable def de_laws_toRoot (a0 : Int × Int × Int × Int × Unit) : Option ((((Int × Int × Int × Int × Unit) × Unit) × (Unit))) :=
  some (((a0.fst, a0.snd.fst, a0.snd.snd.fst, a0.snd.snd.snd.fst, ()), ()), ())
theorem eq_laws_toRoot (a0 : Int × Int × Int × Int × Unit) r (h : m_laws_toRoot a0 = some r) : de_laws_toRoot a0 = some ((r, ()), (())) := by
  obtain ⟨hc, rfl⟩ := toM_some (t := (.pair (.int .i64) (.pair (.int .i64) (.pair (.int .i64) (.pair (.int .i64) .unit))))) h
  · rfl
theorem en_laws_toRoot (a0 : Int × Int × Int × Int × Unit) : evalF Try.prog ta_laws_toRoot pa_laws_toRoot sg_laws_toRoot Try.f50 noL (a0, ()) = de_laws_toRoot a0 := by kernel_rfl
theorem si_laws_toRoot : SigsOk Try.prog ta_laws_toRoot := SigsOk.of fun f sd h => by
  try dsimp only [Tb.of, ta_laws_toRoot] at h
  cases h
theorem sn_laws_toRoot : Callable Try.prog 50 ∧ Sound Try.prog 50 sd_laws_toRoot.sg sd_laws_toRoot.den :=
  fn_plain (pat := pa_laws_toRoot) (by kernel_rfl) si_laws_toRoot Try.func50 (by kernel_rfl) (by kernel_rfl) (by kernel_rfl) fun x r h => by
    obtain ⟨a0, ⟨⟩⟩ := x; obtain ⟨y, h1, h2⟩ := Option.bind_eq_some_iff.1 (show (m_laws_toRoot a0).bind (fun r => some ((r, ()), (()))) = some r from h); cases h2; exact (en_laws_toRoot a0).trans (eq_laws_toRoot a0 _ h1)
def m_impl_be (v n : Int) : Option ByteArray := if 0 ≤ n ∧ n ≤ 1000 then some (beS v n.toNat) else none
def fu_impl_be_4 (v0 v6 : Int) (r0 : List Int) : Nat := v6.toNat + 2
def sg_impl_be : Sig := ⟨[.rd (.int .i64), .rd (.int .i64)], [none, none], [.rd .str], [none]⟩
noncomputable def sd_impl_be : SD := ⟨sg_impl_be, fun x => (m_impl_be x.1 x.2.1).bind fun r => some ((r, ()), (()))⟩
noncomputable def ta_impl_be : Tb := Tb.of fun f => none
def pa_impl_be : Nat → Pat × (Nat → Pat) := fun k => if k = 4 then (⟨[.row 5 0 5 (.int .u8)], [(0, .lf (.d (.int .i64))), (5, .lf (.row 0)), (6, .lf (.d (.int .i64)))], [.row 5 (.int .u8)]⟩, fun e => if e = 2 then ⟨[.row 5 0 5 (.int .u8)], [(5, .lf (.row 0))], [.row 5 (.int .u8)]⟩ else ⟨[], [], []⟩) else (⟨[], [], []⟩, fun _ => ⟨[], [], []⟩)
noncomputable def co_impl_be_4 : Code := (loopsIn (bodyOf Try.f84)).getD 0 .skip
noncomputable def tr_impl_be_4 {R : Type}  (NX : ((Int) × (Int) × (List Int) × Unit) → Option R) (X2 : ((List Int) × Unit) → Option R) (v0 : Int) (v6 : Int) (r0 : List Int) : Option R :=
  bif decide (v6 ≥ 0) then
    bif decide (0 ≤ v6) then
      bif decide (v6 < nI (List.length r0)) then
        bif decide (Int.toNat v6 < List.length r0) then NX (Int.fdiv v0 (2 ^ min (Int.toNat 8) 64), IntKind.wrap IntKind.i64 (v6 - 1), List.set r0 (Int.toNat v6) (IntKind.wrap IntKind.u8 v0), ())
        else none
      else none
    else none
  else X2 (r0, ())
noncomputable def lo_impl_be_4 : Nat → (Int) → (Int) → (List Int) →  Option ((List Int) × Unit)
  | 0, _, _, _ => none
  | m + 1, v0, v6, r0 => tr_impl_be_4  (fun d => lo_impl_be_4 m d.1 d.2.1 d.2.2.1) (fun d => some (d)) v0 v6 r0
theorem na_impl_be_4 {R S : Type}  (NX : ((Int) × (Int) × (List Int) × Unit) → Option R) (X2 : ((List Int) × Unit) → Option R) (v0 : Int) (v6 : Int) (r0 : List Int) (f : R → Option S) : tr_impl_be_4  (fun d => (NX d).bind f) (fun d => (X2 d).bind f) v0 v6 r0 = (tr_impl_be_4  NX X2 v0 v6 r0).bind f := by
  unfold tr_impl_be_4
  simp only [cond_bind, ite_bind, onSum_bind, Option.bind_assoc, Option.bind_none, Option.bind_some]
noncomputable def de_impl_be (a0 : Int) (a1 : Int) : Option ((((ByteArray) × Unit) × (Unit))) :=
  bif decide (a1 = a1) then
    bif decide (0 ≤ a1) then
      bif decide (Int.toNat a1 * 1 ≤ 140737488355328) then Option.bind ((fun d => lo_impl_be_4 (fu_impl_be_4 d.1 d.2.1 d.2.2.1) d.1 d.2.1 d.2.2.1) (a0, IntKind.wrap IntKind.i64 (a1 - 1), List.replicate (Int.toNat a1) 0, ())) fun val => some ((strOfNums val.fst, ()), ())
      else none
    else none
  else none
theorem be_loop : ∀ (k m : Nat) (v : Int) (l t : List Int), l.length = k → k ≤ 1000 → k < m → lo_impl_be_4 m v ((k : Int) - 1) (l ++ t) = some (digL v k ++ t, ())
  | 0, m + 1, v, l, t, hl, hk, hm => by
    obtain rfl : l = [] := List.length_eq_zero_iff.1 hl
    simp only [lo_impl_be_4, tr_impl_be_4]
    rw [decide_eq_false (by omega)]
    rfl
  | k + 1, m + 1, v, l, t, hl, hk, hm => by
    have e : (((k + 1 : Nat) : Int) - 1) = (k : Int) := by omega
    rw [e]
    simp only [lo_impl_be_4, tr_impl_be_4]
    have hlen : (l ++ t).length = k + 1 + t.length := by rw [List.length_append, hl]
    rw [decide_eq_true (show (k : Int) ≥ 0 by omega), decide_eq_true (show (k : Int) < nI (l ++ t).length by simp only [nI, hlen]; omega), decide_eq_true (show Int.toNat (k : Int) < (l ++ t).length by rw [hlen]; omega), wrap_ok (by omega) (by omega)]
    simp only [cond_true, Int.toNat_natCast]
    obtain ⟨l', x, rfl⟩ : ∃ l' x, l = l' ++ [x] := ⟨l.dropLast, l.getLast (by intro h; subst h; simp at hl), (List.dropLast_concat_getLast _).symm⟩
    have hl' : l'.length = k := by simpa using hl
    have hs : ((l' ++ [x]) ++ t).set k (IntKind.wrap IntKind.u8 v) = l' ++ (v % 256 :: t) := by
      rw [List.append_assoc, List.set_append_right _ _ (by omega), hl']
      simp only [Nat.sub_self, List.singleton_append, List.set_cons_zero]
      rfl
    rw [hs]
    have := be_loop k m (v / 256) l' (v % 256 :: t) hl' (by omega) (by omega)
    have e2 : Int.fdiv v (2 ^ min (Int.toNat 8) 64) = v / 256 := by
      show Int.fdiv v 256 = v / 256
      exact Int.fdiv_eq_ediv_of_nonneg _ (by omega)
    rw [e2, this]
    simp only [digL, List.append_assoc, List.singleton_append]
theorem eq_impl_be (a0 : Int) (a1 : Int) r (h : m_impl_be a0 a1 = some r) : de_impl_be a0 a1 = some ((r, ()), (())) := by
  unfold m_impl_be at h
  split at h
  · rename_i hc
    cases h
    obtain ⟨n, rfl⟩ : ∃ n : Nat, a1 = (n : Int) := ⟨a1.toNat, by omega⟩
    unfold de_impl_be
    rw [decide_eq_true rfl, decide_eq_true hc.1, decide_eq_true (show Int.toNat (n : Int) * 1 ≤ 140737488355328 by omega), wrap_ok (by omega) (by omega)]
    have hL := be_loop n (fu_impl_be_4 a0 ((n : Int) - 1) (List.replicate n 0)) a0 (List.replicate n 0) [] (by simp) (by omega) (by simp only [fu_impl_be_4]; omega)
    rw [List.append_nil, List.append_nil] at hL
    exact bi_ hL rfl
  · cases h
noncomputable def ou_impl_be_4 {R : Type} (k : Kt R) : ((List Int) × Unit) → Option R := (fun d => k (.exit 0) (((pa_impl_be 4).2 2).st d) (((pa_impl_be 4).2 2).nid))
noncomputable def L_impl_be {R : Type} : Lt R pa_impl_be := (addL (pat := pa_impl_be) 4 (fun d k => (lo_impl_be_4 (fu_impl_be_4 d.1 d.2.1 d.2.2.1) d.1 d.2.1 d.2.2.1).bind (ou_impl_be_4 k)) noL)
theorem rd_impl_be_4 {R : Type} (nx : (pa_impl_be 4).1.D → Kt R → Option R) (k : Kt R) (v0 : Int) (v6 : Int) (r0 : List Int) : ev Try.prog ⟨ta_impl_be, 0, 24, pa_impl_be⟩ L_impl_be co_impl_be_4 ((pa_impl_be 4).1.st (v0, v6, r0, ())) (pa_impl_be 4).1.nid (roundK 0 (pa_impl_be 4) nx k) = tr_impl_be_4  (fun d => nx d k) (fun d => k (.exit 0) (((pa_impl_be 4).2 2).st d) (((pa_impl_be 4).2 2).nid)) v0 v6 r0 := by kernel_rfl
theorem lp_impl_be_4 {R : Type} : ∀ (m : Nat) (d : (pa_impl_be 4).1.D) (k : Kt R), loopN 0 (pa_impl_be 4) (fun s nid k => ev Try.prog ⟨ta_impl_be, 0, 24, pa_impl_be⟩ L_impl_be co_impl_be_4 s nid k) m d k = (lo_impl_be_4 m d.1 d.2.1 d.2.2.1).bind (ou_impl_be_4 k)
  | 0, _, _ => rfl
  | m + 1, ⟨v0, v6, r0, ⟨⟩⟩, k => (rd_impl_be_4 _ k v0 v6 r0).trans ((congrArg (fun F => tr_impl_be_4  F (fun d => k (.exit 0) (((pa_impl_be 4).2 2).st d) (((pa_impl_be 4).2 2).nid)) v0 v6 r0) (funext fun d => lp_impl_be_4 m d k)).trans (na_impl_be_4 (f := ou_impl_be_4 k)  (fun d => lo_impl_be_4 m d.1 d.2.1 d.2.2.1) (fun d => some (d)) v0 v6 r0))
theorem en_impl_be (a0 : Int) (a1 : Int) : evalF Try.prog ta_impl_be pa_impl_be sg_impl_be Try.f84 L_impl_be (a0, a1, ()) = de_impl_be a0 a1 := by kernel_rfl
theorem si_impl_be : SigsOk Try.prog ta_impl_be := SigsOk.of fun f sd h => by
  try dsimp only [Tb.of, ta_impl_be] at h
  cases h
theorem lk_impl_be_4 {R : Type} : LoopOk Try.prog R 24 0 pa_impl_be L_impl_be co_impl_be_4 :=
  loop_key (cfg := ⟨ta_impl_be, 0, 24, pa_impl_be⟩) (key := 4) (by kernel_rfl) (by kernel_rfl) si_impl_be rfl rfl (fun d k r h => ⟨fu_impl_be_4 d.1 d.2.1 d.2.2.1, (lp_impl_be_4 _ d k).trans h⟩) (fun c hc => by rw [show loopsIn co_impl_be_4 = [] from by kernel_rfl] at hc; cases hc)
theorem sn_impl_be : Callable Try.prog 84 ∧ Sound Try.prog 84 sd_impl_be.sg sd_impl_be.den :=
  fn_loops (pat := pa_impl_be) L_impl_be (by kernel_rfl) si_impl_be Try.func84 (by kernel_rfl) (by kernel_rfl) (fun c hc => by rw [show loopsIn (bodyOf Try.f84) = [co_impl_be_4] from by kernel_rfl] at hc; simp only [List.mem_cons, List.not_mem_nil, or_false] at hc; rcases hc with rfl <;> first | exact lk_impl_be_4) fun x r h => by
    obtain ⟨a0, a1, ⟨⟩⟩ := x; obtain ⟨y, h1, h2⟩ := Option.bind_eq_some_iff.1 (show (m_impl_be a0 a1).bind (fun r => some ((r, ()), (()))) = some r from h); cases h2; exact (en_impl_be a0 a1).trans (eq_impl_be a0 a1 _ h1)
def m_impl_in (v lo hi : Int) : Bool := inB v lo hi
def sg_impl_in : Sig := ⟨[.rd (.int .i64), .rd (.int .i64), .rd (.int .i64)], [none, none, none], [.rd .bool], [none]⟩
noncomputable def sd_impl_in : SD := ⟨sg_impl_in, fun x => some (((m_impl_in x.1 x.2.1 x.2.2.1), ()), (()))⟩
noncomputable def ta_impl_in : Tb := Tb.of fun f => none
def pa_impl_in : Nat → Pat × (Nat → Pat) := fun k => (⟨[], [], []⟩, fun _ => ⟨[], [], []⟩)
noncomputable def de_impl_in (a0 : Int) (a1 : Int) (a2 : Int) : Option ((((Bool) × Unit) × (Unit))) :=
  bif decide (a0 ≥ a1) then some ((decide (a0 ≤ a2), ()), ()) else some ((false, ()), ())
theorem eq_impl_in (a0 a1 a2 : Int) : de_impl_in a0 a1 a2 = some ((m_impl_in a0 a1 a2, ()), ()) := by
  unfold de_impl_in m_impl_in inB
  by_cases h : a0 ≥ a1
  · have : decide (a1 ≤ a0) = true := by simpa using h
    simp [h, this]
  · have : decide (a1 ≤ a0) = false := by simpa using h
    simp [h, this]
theorem en_impl_in (a0 : Int) (a1 : Int) (a2 : Int) : evalF Try.prog ta_impl_in pa_impl_in sg_impl_in Try.f76 noL (a0, a1, a2, ()) = de_impl_in a0 a1 a2 := by kernel_rfl
theorem si_impl_in : SigsOk Try.prog ta_impl_in := SigsOk.of fun f sd h => by
  try dsimp only [Tb.of, ta_impl_in] at h
  cases h
theorem sn_impl_in : Callable Try.prog 76 ∧ Sound Try.prog 76 sd_impl_in.sg sd_impl_in.den :=
  fn_plain (pat := pa_impl_in) (by kernel_rfl) si_impl_in Try.func76 (by kernel_rfl) (by kernel_rfl) (by kernel_rfl) fun x r h => by
    obtain ⟨a0, a1, a2, ⟨⟩⟩ := x; rw [← h]; exact (en_impl_in a0 a1 a2).trans (eq_impl_in a0 a1 a2)
def sg_impl_room : Sig := ⟨[.rd (.int .i64)], [none], [.rd (.int .i64)], [none]⟩
noncomputable def ta_impl_room : Tb := Tb.of fun f => none
def pa_impl_room : Nat → Pat × (Nat → Pat) := fun k => (⟨[], [], []⟩, fun _ => ⟨[], [], []⟩)
noncomputable def de_impl_room (a0 : Int) : Option ((((Int) × Unit) × (Unit))) :=
  some ((IntKind.wrap IntKind.i64 (IntKind.wrap IntKind.i64 (64 - a0) - 8), ()), ())
noncomputable def sd_impl_room : SD := ⟨sg_impl_room, fun x => de_impl_room x.1⟩
theorem en_impl_room (a0 : Int) : evalF Try.prog ta_impl_room pa_impl_room sg_impl_room Try.f111 noL (a0, ()) = de_impl_room a0 := by kernel_rfl
theorem si_impl_room : SigsOk Try.prog ta_impl_room := SigsOk.of fun f sd h => by
  try dsimp only [Tb.of, ta_impl_room] at h
  cases h
theorem sn_impl_room : Callable Try.prog 111 ∧ Sound Try.prog 111 sd_impl_room.sg sd_impl_room.den :=
  fn_plain (pat := pa_impl_room) (by kernel_rfl) si_impl_room Try.func111 (by kernel_rfl) (by kernel_rfl) (by kernel_rfl) fun x r h => by
    obtain ⟨a0, ⟨⟩⟩ := x; exact (en_impl_room a0).trans h
def m_impl_validPage (p : Pg) (w : Int) : Bool := pageOk p w
def sg_impl_validPage : Sig := ⟨[.rd (.pair (.int .i64) (.pair (.int .i64) (.pair (.int .i64) (.pair .str .unit)))), .rd (.int .i64)], [some 4, none], [.rd .bool], [none]⟩
noncomputable def sd_impl_validPage : SD := ⟨sg_impl_validPage, fun x => some (((m_impl_validPage x.1 x.2.1), ()), (()))⟩
noncomputable def ta_impl_validPage : Tb := Tb.of fun f => if f = 76 then some sd_impl_in else if f = 111 then some sd_impl_room else none
def pa_impl_validPage : Nat → Pat × (Nat → Pat) := fun k => (⟨[], [], []⟩, fun _ => ⟨[], [], []⟩)
noncomputable def de_impl_validPage (a0 : Int × Int × Int × ByteArray × Unit) (a1 : Int) : Option ((((Bool) × Unit) × (Unit))) :=
  bif m_impl_in a1 1 8 then
    bif m_impl_in a0.fst 1 4 then
      bif m_impl_in a0.snd.fst 1 60000 then
        bif m_impl_in a0.snd.snd.fst 1 1000000000 then
          bif decide (nI (ByteArray.size a0.snd.snd.snd.fst) ≤ IntKind.wrap IntKind.i64 (IntKind.wrap IntKind.i64 (64 - a1) - 8)) then
            bif a0.fst != 3 then some ((true, ()), ()) else some ((ByteArray.toList a0.snd.snd.snd.fst == ByteArray.toList (ByteArray.mk #[]), ()), ())
          else some ((false, ()), ())
        else some ((false, ()), ())
      else some ((false, ()), ())
    else some ((false, ()), ())
  else some ((false, ()), ())
theorem eq_impl_validPage (a0 : Int × Int × Int × ByteArray × Unit) (a1 : Int) : de_impl_validPage a0 a1 = some (((m_impl_validPage a0 a1), ()), (())) := by
  unfold de_impl_validPage m_impl_validPage pageOk
  have tl : ByteArray.toList (ByteArray.mk #[]) = [] := by decide +kernel
  rw [tl]
  show (bif inB a1 1 8 then (bif inB a0.1 1 4 then (bif inB a0.2.1 1 60000 then (bif inB a0.2.2.1 1 1000000000 then _ else _) else _) else _) else _) = _
  cases hw : inB a1 1 8 with
  | false => rfl
  | true =>
    have k1 := of_decide_eq_true (and2 hw).1
    have k2 := of_decide_eq_true (and2 hw).2
    rw [wrap_ok (n := 64 - a1) (by omega) (by omega), wrap_ok (by omega) (by omega), show 64 - a1 - 8 = 56 - a1 by omega]
    cases inB a0.1 1 4 <;> cases inB a0.2.1 1 60000 <;> cases inB a0.2.2.1 1 1000000000 <;> try rfl
    show (bif decide ((ByteArray.size a0.2.2.2.1 : Int) ≤ 56 - a1) then _ else _) = _
    cases decide ((ByteArray.size a0.2.2.2.1 : Int) ≤ 56 - a1) <;> cases (a0.1 != 3) <;> rfl
theorem en_impl_validPage (a0 : Int × Int × Int × ByteArray × Unit) (a1 : Int) : evalF Try.prog ta_impl_validPage pa_impl_validPage sg_impl_validPage Try.f97 noL (a0, a1, ()) = de_impl_validPage a0 a1 := by kernel_rfl
theorem si_impl_validPage : SigsOk Try.prog ta_impl_validPage := SigsOk.of fun f sd h => by
  try dsimp only [Tb.of, ta_impl_validPage] at h
  split at h
  · rename_i e; subst e; cases h; exact sn_impl_in
  split at h
  · rename_i e; subst e; cases h; exact sn_impl_room
  cases h
theorem sn_impl_validPage : Callable Try.prog 97 ∧ Sound Try.prog 97 sd_impl_validPage.sg sd_impl_validPage.den :=
  fn_plain (pat := pa_impl_validPage) (by kernel_rfl) si_impl_validPage Try.func97 (by kernel_rfl) (by kernel_rfl) (by kernel_rfl) fun x r h => by
    obtain ⟨a0, a1, ⟨⟩⟩ := x; rw [← h]; exact (en_impl_validPage a0 a1).trans (eq_impl_validPage a0 a1)
def sg_strings_Repeat : Sig := ⟨[.rd .str, .rd (.int .i64)], [none, none], [.rd .str], [none]⟩
noncomputable def sd_strings_Repeat : SD := ⟨sg_strings_Repeat, fun x => (repStr x.1 x.2.1).bind fun r => some ((r, ()), ())⟩
theorem sn_strings_Repeat : Callable Try.prog 98 ∧ Sound Try.prog 98 sd_strings_Repeat.sg sd_strings_Repeat.den := ⟨⟨_, Try.func98, by kernel_rfl, by kernel_rfl⟩, rep_seat⟩
def m_impl_Sum (s : ByteArray) (w : Int) : Option ByteArray := if s.size < 4611686018427387904 then some (sumS s w) else none
def fu_impl_Sum_6 (v0 : ByteArray) (v1 v5 v6 : Int) : Nat := (nI v0.size - v6).toNat + 1
def sg_impl_Sum : Sig := ⟨[.rd .str, .rd (.int .i64)], [none, none], [.rd .str], [none]⟩
noncomputable def sd_impl_Sum : SD := ⟨sg_impl_Sum, fun x => (m_impl_Sum x.1 x.2.1).bind fun r => some ((r, ()), (()))⟩
noncomputable def ta_impl_Sum : Tb := Tb.of fun f => if f = 76 then some sd_impl_in else if f = 84 then some sd_impl_be else none
def pa_impl_Sum : Nat → Pat × (Nat → Pat) := fun k => if k = 6 then (⟨[], [(0, .lf (.d .str)), (1, .lf (.d (.int .i64))), (5, .lf (.d (.int .u64))), (6, .lf (.d (.int .i64)))], []⟩, fun e => if e = 2 then ⟨[], [(1, .lf (.d (.int .i64))), (5, .lf (.d (.int .u64)))], []⟩ else ⟨[], [], []⟩) else (⟨[], [], []⟩, fun _ => ⟨[], [], []⟩)
noncomputable def co_impl_Sum_6 : Code := (loopsIn (bodyOf Try.f99)).getD 0 .skip
noncomputable def tr_impl_Sum_6 {R : Type}  (NX : ((ByteArray) × (Int) × (Int) × (Int) × Unit) → Option R) (X2 : ((Int) × (Int) × Unit) → Option R) (v0 : ByteArray) (v1 : Int) (v5 : Int) (v6 : Int) : Option R :=
  bif decide (v6 < nI (ByteArray.size v0)) then
    bif decide (0 ≤ v6) then
      bif decide (v6 < nI (ByteArray.size v0)) then
        NX
          (v0, v1, IntKind.wrap IntKind.u64 (IntKind.wrap IntKind.u64 (nI (BitVec.toNat (BitVec.ofInt 64 v5 ^^^ BitVec.ofInt 64 (IntKind.wrap IntKind.u64 (byteAt v0 v6))))) * 1099511628211),
            IntKind.wrap IntKind.i64 (v6 + 1), ())
      else none
    else none
  else X2 (v1, v5, ())
noncomputable def lo_impl_Sum_6 : Nat → (ByteArray) → (Int) → (Int) → (Int) →  Option ((Int) × (Int) × Unit)
  | 0, _, _, _, _ => none
  | m + 1, v0, v1, v5, v6 => tr_impl_Sum_6  (fun d => lo_impl_Sum_6 m d.1 d.2.1 d.2.2.1 d.2.2.2.1) (fun d => some (d)) v0 v1 v5 v6
theorem na_impl_Sum_6 {R S : Type}  (NX : ((ByteArray) × (Int) × (Int) × (Int) × Unit) → Option R) (X2 : ((Int) × (Int) × Unit) → Option R) (v0 : ByteArray) (v1 : Int) (v5 : Int) (v6 : Int) (f : R → Option S) : tr_impl_Sum_6  (fun d => (NX d).bind f) (fun d => (X2 d).bind f) v0 v1 v5 v6 = (tr_impl_Sum_6  NX X2 v0 v1 v5 v6).bind f := by
  unfold tr_impl_Sum_6
  simp only [cond_bind, ite_bind, onSum_bind, Option.bind_assoc, Option.bind_none, Option.bind_some]
noncomputable def de_impl_Sum (a0 : ByteArray) (a1 : Int) : Option ((((ByteArray) × Unit) × (Unit))) :=
  bif !m_impl_in a1 1 8 then some ((ByteArray.mk #[], ()), ())
  else
    Option.bind ((fun d => lo_impl_Sum_6 (fu_impl_Sum_6 d.1 d.2.1 d.2.2.1 d.2.2.2.1) d.1 d.2.1 d.2.2.1 d.2.2.2.1) (a0, a1, 14695981039346656037, 0, ())) fun val =>
      bif decide (0 ≤ IntKind.wrap IntKind.i64 (8 - val.fst)) then
        bif decide (IntKind.wrap IntKind.i64 (8 - val.fst) ≤ nI (ByteArray.size (beS (IntKind.wrap IntKind.i64 val.snd.fst) (Int.toNat 8)))) then
          some
            ((cutOf (beS (IntKind.wrap IntKind.i64 val.snd.fst) (Int.toNat 8)) (IntKind.wrap IntKind.i64 (8 - val.fst)) (nI (ByteArray.size (beS (IntKind.wrap IntKind.i64 val.snd.fst) (Int.toNat 8)))),
                ()),
              ())
        else none
      else none
theorem eq_impl_Sum (a0 : ByteArray) (a1 : Int) r (h : m_impl_Sum a0 a1 = some r) : de_impl_Sum a0 a1 = some ((r, ()), (())) := by
  unfold m_impl_Sum at h
  split at h
  rotate_left
  · cases h
  rename_i hsz
  cases h
  unfold de_impl_Sum sumS
  generalize hC : (14695981039346656037 : Int) = C
  have h0 : U64 C := by rw [← hC]; exact ⟨by decide, by decide⟩
  show (bif !inB a1 1 8 then _ else _) = _
  cases hw : inB a1 1 8 with
  | false => rfl
  | true =>
    have k1 := of_decide_eq_true (and2 hw).1
    have k2 := of_decide_eq_true (and2 hw).2
    · simp only [Bool.not_true, cond_false, cond_true]
      have hL := up_loop a0.size (fun _ _ => True) (fun i h => hashStep h (byteAt a0 i)) (g := fun m i h => lo_impl_Sum_6 m a0 a1 h i) (ok := fun h => (a1, h, ())) (fun m i h hi _ => by
        show lo_impl_Sum_6 (m + 1) a0 a1 h i = _
        simp only [lo_impl_Sum_6, tr_impl_Sum_6]
        have c1 : (i : Int) < nI a0.size := by simp only [nI]; omega
        rw [decide_eq_true c1, cLe0, wI (show i < 4611686018427387904 by omega)]
        rfl) (fun m h _ => by
        show lo_impl_Sum_6 (m + 1) a0 a1 h a0.size = _
        simp only [lo_impl_Sum_6, tr_impl_Sum_6]
        rw [decide_eq_false (show ¬ ((a0.size : Int) < nI a0.size) by simp only [nI]; omega)]
        rfl) (fun _ _ _ _ => trivial) a0.size (fu_impl_Sum_6 a0 a1 C 0) 0 C (by omega) (by simp only [fu_impl_Sum_6, nI]; omega) trivial
      rw [show ((0 : Nat) : Int) = 0 from rfl] at hL
      refine bi_ hL ?_
      have e1 : IntKind.wrap IntKind.i64 (8 - a1) = 8 - a1 := wrap_ok (by omega) (by omega)
      have hh := hash_in a0 a0.size 0 h0
      have eH : iter (fun i h => hashStep h (byteAt a0 i)) a0.size 0 C = hashGo a0 a0.size 0 C := rfl
      rw [eH]
      generalize hashGo a0 a0.size 0 C = H at hh ⊢
      show (bif decide (0 ≤ IntKind.wrap IntKind.i64 (8 - a1)) then (bif decide (IntKind.wrap IntKind.i64 (8 - a1) ≤ nI (ByteArray.size (beS (IntKind.wrap IntKind.i64 H) (Int.toNat 8)))) then some ((cutOf (beS (IntKind.wrap IntKind.i64 H) (Int.toNat 8)) (IntKind.wrap IntKind.i64 (8 - a1)) (nI (ByteArray.size (beS (IntKind.wrap IntKind.i64 H) (Int.toNat 8)))), ()), ()) else none) else none) = some ((beS H a1.toNat, ()), ())
      rw [e1, sum_cut hh k1 k2, decide_eq_true (show 0 ≤ 8 - a1 by omega), decide_eq_true (show 8 - a1 ≤ nI (ByteArray.size (beS (IntKind.wrap IntKind.i64 H) (Int.toNat 8))) by rw [beS_size]; simp [nI]; omega)]
      rfl
noncomputable def ou_impl_Sum_6 {R : Type} (k : Kt R) : ((Int) × (Int) × Unit) → Option R := (fun d => k (.exit 0) (((pa_impl_Sum 6).2 2).st d) (((pa_impl_Sum 6).2 2).nid))
noncomputable def L_impl_Sum {R : Type} : Lt R pa_impl_Sum := (addL (pat := pa_impl_Sum) 6 (fun d k => (lo_impl_Sum_6 (fu_impl_Sum_6 d.1 d.2.1 d.2.2.1 d.2.2.2.1) d.1 d.2.1 d.2.2.1 d.2.2.2.1).bind (ou_impl_Sum_6 k)) noL)
theorem rd_impl_Sum_6 {R : Type} (nx : (pa_impl_Sum 6).1.D → Kt R → Option R) (k : Kt R) (v0 : ByteArray) (v1 : Int) (v5 : Int) (v6 : Int) : ev Try.prog ⟨ta_impl_Sum, 0, 29, pa_impl_Sum⟩ L_impl_Sum co_impl_Sum_6 ((pa_impl_Sum 6).1.st (v0, v1, v5, v6, ())) (pa_impl_Sum 6).1.nid (roundK 0 (pa_impl_Sum 6) nx k) = tr_impl_Sum_6  (fun d => nx d k) (fun d => k (.exit 0) (((pa_impl_Sum 6).2 2).st d) (((pa_impl_Sum 6).2 2).nid)) v0 v1 v5 v6 := by kernel_rfl
theorem lp_impl_Sum_6 {R : Type} : ∀ (m : Nat) (d : (pa_impl_Sum 6).1.D) (k : Kt R), loopN 0 (pa_impl_Sum 6) (fun s nid k => ev Try.prog ⟨ta_impl_Sum, 0, 29, pa_impl_Sum⟩ L_impl_Sum co_impl_Sum_6 s nid k) m d k = (lo_impl_Sum_6 m d.1 d.2.1 d.2.2.1 d.2.2.2.1).bind (ou_impl_Sum_6 k)
  | 0, _, _ => rfl
  | m + 1, ⟨v0, v1, v5, v6, ⟨⟩⟩, k => (rd_impl_Sum_6 _ k v0 v1 v5 v6).trans ((congrArg (fun F => tr_impl_Sum_6  F (fun d => k (.exit 0) (((pa_impl_Sum 6).2 2).st d) (((pa_impl_Sum 6).2 2).nid)) v0 v1 v5 v6) (funext fun d => lp_impl_Sum_6 m d k)).trans (na_impl_Sum_6 (f := ou_impl_Sum_6 k)  (fun d => lo_impl_Sum_6 m d.1 d.2.1 d.2.2.1 d.2.2.2.1) (fun d => some (d)) v0 v1 v5 v6))
theorem en_impl_Sum (a0 : ByteArray) (a1 : Int) : evalF Try.prog ta_impl_Sum pa_impl_Sum sg_impl_Sum Try.f99 L_impl_Sum (a0, a1, ()) = de_impl_Sum a0 a1 := by kernel_rfl
theorem si_impl_Sum : SigsOk Try.prog ta_impl_Sum := SigsOk.of fun f sd h => by
  try dsimp only [Tb.of, ta_impl_Sum] at h
  split at h
  · rename_i e; subst e; cases h; exact sn_impl_in
  split at h
  · rename_i e; subst e; cases h; exact sn_impl_be
  cases h
theorem lk_impl_Sum_6 {R : Type} : LoopOk Try.prog R 29 0 pa_impl_Sum L_impl_Sum co_impl_Sum_6 :=
  loop_key (cfg := ⟨ta_impl_Sum, 0, 29, pa_impl_Sum⟩) (key := 6) (by kernel_rfl) (by kernel_rfl) si_impl_Sum rfl rfl (fun d k r h => ⟨fu_impl_Sum_6 d.1 d.2.1 d.2.2.1 d.2.2.2.1, (lp_impl_Sum_6 _ d k).trans h⟩) (fun c hc => by rw [show loopsIn co_impl_Sum_6 = [] from by kernel_rfl] at hc; cases hc)
theorem sn_impl_Sum : Callable Try.prog 99 ∧ Sound Try.prog 99 sd_impl_Sum.sg sd_impl_Sum.den :=
  fn_loops (pat := pa_impl_Sum) L_impl_Sum (by kernel_rfl) si_impl_Sum Try.func99 (by kernel_rfl) (by kernel_rfl) (fun c hc => by rw [show loopsIn (bodyOf Try.f99) = [co_impl_Sum_6] from by kernel_rfl] at hc; simp only [List.mem_cons, List.not_mem_nil, or_false] at hc; rcases hc with rfl <;> first | exact lk_impl_Sum_6) fun x r h => by
    obtain ⟨a0, a1, ⟨⟩⟩ := x; obtain ⟨y, h1, h2⟩ := Option.bind_eq_some_iff.1 (show (m_impl_Sum a0 a1).bind (fun r => some ((r, ()), (()))) = some r from h); cases h2; exact (en_impl_Sum a0 a1).trans (eq_impl_Sum a0 a1 _ h1)
def m_impl_FormPage (p : Pg) (w : Int) : ByteArray := pageS p w
def sg_impl_FormPage : Sig := ⟨[.rd (.pair (.int .i64) (.pair (.int .i64) (.pair (.int .i64) (.pair .str .unit)))), .rd (.int .i64)], [some 4, none], [.rd .str], [none]⟩
noncomputable def sd_impl_FormPage : SD := ⟨sg_impl_FormPage, fun x => some (((m_impl_FormPage x.1 x.2.1), ()), (()))⟩
noncomputable def ta_impl_FormPage : Tb := Tb.of fun f => if f = 84 then some sd_impl_be else if f = 97 then some sd_impl_validPage else if f = 98 then some sd_strings_Repeat else if f = 99 then some sd_impl_Sum else none
def pa_impl_FormPage : Nat → Pat × (Nat → Pat) := fun k => (⟨[], [], []⟩, fun _ => ⟨[], [], []⟩)
noncomputable def de_impl_FormPage (a0 : Int × Int × Int × ByteArray × Unit) (a1 : Int) : Option ((((ByteArray) × Unit) × (Unit))) :=
  bif !m_impl_validPage (a0.fst, a0.snd.fst, a0.snd.snd.fst, a0.snd.snd.snd.fst, ()) a1 then some ((ByteArray.mk #[], ()), ())
  else
    bif
        decide
          (ByteArray.size (beS a0.fst (Int.toNat 1) ++ beS a0.snd.fst (Int.toNat 2) ++ beS a0.snd.snd.fst (Int.toNat 4) ++ beS (nI (ByteArray.size a0.snd.snd.snd.fst)) (Int.toNat 1)) +
              ByteArray.size a0.snd.snd.snd.fst ≤
            9223372036854775807) then
      Option.bind
        (Option.bind
          (repStr (ByteArray.mk #[0])
            (IntKind.wrap IntKind.i64
              (IntKind.wrap IntKind.i64 (64 - a1) -
                nI
                  (ByteArray.size
                    (beS a0.fst (Int.toNat 1) ++ beS a0.snd.fst (Int.toNat 2) ++ beS a0.snd.snd.fst (Int.toNat 4) ++ beS (nI (ByteArray.size a0.snd.snd.snd.fst)) (Int.toNat 1) ++ a0.snd.snd.snd.fst)))))
          fun val => some ((val, ()), ()))
        fun val =>
        bif
            decide
              (ByteArray.size
                    (beS a0.fst (Int.toNat 1) ++ beS a0.snd.fst (Int.toNat 2) ++ beS a0.snd.snd.fst (Int.toNat 4) ++ beS (nI (ByteArray.size a0.snd.snd.snd.fst)) (Int.toNat 1) ++ a0.snd.snd.snd.fst) +
                  ByteArray.size val.fst.fst ≤
                9223372036854775807) then
          Option.bind
            (Option.bind
              (m_impl_Sum
                (beS a0.fst (Int.toNat 1) ++ beS a0.snd.fst (Int.toNat 2) ++ beS a0.snd.snd.fst (Int.toNat 4) ++ beS (nI (ByteArray.size a0.snd.snd.snd.fst)) (Int.toNat 1) ++ a0.snd.snd.snd.fst ++
                  val.fst.fst)
                a1)
              fun val => some ((val, ()), ()))
            fun val_1 =>
            bif
                decide
                  (ByteArray.size val_1.fst.fst +
                      ByteArray.size
                        (beS a0.fst (Int.toNat 1) ++ beS a0.snd.fst (Int.toNat 2) ++ beS a0.snd.snd.fst (Int.toNat 4) ++ beS (nI (ByteArray.size a0.snd.snd.snd.fst)) (Int.toNat 1) ++
                            a0.snd.snd.snd.fst ++
                          val.fst.fst) ≤
                    9223372036854775807) then
              some
                ((val_1.fst.fst ++
                      (beS a0.fst (Int.toNat 1) ++ beS a0.snd.fst (Int.toNat 2) ++ beS a0.snd.snd.fst (Int.toNat 4) ++ beS (nI (ByteArray.size a0.snd.snd.snd.fst)) (Int.toNat 1) ++ a0.snd.snd.snd.fst ++
                        val.fst.fst),
                    ()),
                  ())
            else none
        else none
    else none
theorem eq_impl_FormPage (a0 : Int × Int × Int × ByteArray × Unit) (a1 : Int) : de_impl_FormPage a0 a1 = some (((m_impl_FormPage a0 a1), ()), (())) := by
  unfold de_impl_FormPage m_impl_FormPage pageS
  show (bif !pageOk a0 a1 then _ else _) = _
  cases hp : pageOk a0 a1 with
  | false => rfl
  | true =>
    obtain ⟨hw, k1, k2, kp⟩ := pageOk_w hp
    simp only [Bool.not_true, cond_false, cond_true]
    have hb : bodyS a0 a1 = beS a0.1 1 ++ beS a0.2.1 2 ++ beS a0.2.2.1 4 ++ beS (nI a0.2.2.2.1.size) 1 ++ a0.2.2.2.1 ++ strOfNums (List.replicate (56 - a1 - a0.2.2.2.1.size).toNat 0) := rfl
    have hs4 : (beS a0.1 1 ++ beS a0.2.1 2 ++ beS a0.2.2.1 4 ++ beS (nI a0.2.2.2.1.size) 1).size = 8 := by simp only [ByteArray.size_append, beS_size]
    have hs5 : (beS a0.1 1 ++ beS a0.2.1 2 ++ beS a0.2.2.1 4 ++ beS (nI a0.2.2.2.1.size) 1 ++ a0.2.2.2.1).size = 8 + a0.2.2.2.1.size := by rw [ByteArray.size_append, hs4]
    show (bif decide ((beS a0.1 1 ++ beS a0.2.1 2 ++ beS a0.2.2.1 4 ++ beS (nI a0.2.2.2.1.size) 1).size + a0.2.2.2.1.size ≤ 9223372036854775807) then Option.bind (Option.bind (repStr (ByteArray.mk #[0]) (IntKind.wrap IntKind.i64 (IntKind.wrap IntKind.i64 (64 - a1) - nI (beS a0.1 1 ++ beS a0.2.1 2 ++ beS a0.2.2.1 4 ++ beS (nI a0.2.2.2.1.size) 1 ++ a0.2.2.2.1).size))) _) _ else none) = _
    generalize hB : beS a0.1 1 ++ beS a0.2.1 2 ++ beS a0.2.2.1 4 ++ beS (nI a0.2.2.2.1.size) 1 ++ a0.2.2.2.1 = B at *
    rw [hs4, decide_eq_true (by omega), wrap_ok (n := 64 - a1) (by omega) (by omega), hs5, wrap_ok (by simp only [nI]; omega) (by simp only [nI]; omega)]
    have hr : repStr (ByteArray.mk #[0]) (64 - a1 - nI (8 + a0.2.2.2.1.size)) = some (strOfNums (List.replicate (56 - a1 - a0.2.2.2.1.size).toNat 0)) := by
      have := rep0 (56 - a1 - a0.2.2.2.1.size).toNat (by omega)
      rw [show ((56 - a1 - a0.2.2.2.1.size).toNat : Int) = 64 - a1 - nI (8 + a0.2.2.2.1.size) by simp only [nI]; omega] at this
      exact this
    have hz : (strOfNums (List.replicate (56 - a1 - a0.2.2.2.1.size).toNat 0)).size = (56 - a1 - a0.2.2.2.1.size).toNat := by rw [size_strOfNums, List.length_replicate]
    generalize strOfNums (List.replicate (56 - a1 - a0.2.2.2.1.size).toNat 0) = Z at *
    refine bi_ (bi_ hr rfl) ?_
    have hbs : (bodyS a0 a1).size ≤ 64 := by rw [hb, ByteArray.size_append, hs5, hz]; omega
    dsimp only
    have hB' : beS a0.1 (Int.toNat 1) ++ beS a0.2.1 (Int.toNat 2) ++ beS a0.2.2.1 (Int.toNat 4) ++ beS (nI a0.2.2.2.1.size) (Int.toNat 1) ++ a0.2.2.2.1 = B := hB
    rw [hB']
    show (bif decide (ByteArray.size B + ByteArray.size Z ≤ 9223372036854775807) then Option.bind (Option.bind (m_impl_Sum (B ++ Z) a1) _) _ else none) = _
    have hm : m_impl_Sum (B ++ Z) a1 = some (sumS (bodyS a0 a1) a1) := by
      rw [← hb]
      exact if_pos (by omega)
    rw [hs5, hz, decide_eq_true (by omega)]
    refine bi_ (bi_ hm rfl) ?_
    show (bif decide (ByteArray.size (sumS (bodyS a0 a1) a1) + ByteArray.size (B ++ Z) ≤ 9223372036854775807) then some ((sumS (bodyS a0 a1) a1 ++ (B ++ Z), ()), ()) else none) = _
    rw [← hb, sumS_size hw, decide_eq_true (by omega)]
    rfl
theorem en_impl_FormPage (a0 : Int × Int × Int × ByteArray × Unit) (a1 : Int) : evalF Try.prog ta_impl_FormPage pa_impl_FormPage sg_impl_FormPage Try.f48 noL (a0, a1, ()) = de_impl_FormPage a0 a1 := by kernel_rfl
theorem si_impl_FormPage : SigsOk Try.prog ta_impl_FormPage := SigsOk.of fun f sd h => by
  try dsimp only [Tb.of, ta_impl_FormPage] at h
  split at h
  · rename_i e; subst e; cases h; exact sn_impl_be
  split at h
  · rename_i e; subst e; cases h; exact sn_impl_validPage
  split at h
  · rename_i e; subst e; cases h; exact sn_strings_Repeat
  split at h
  · rename_i e; subst e; cases h; exact sn_impl_Sum
  cases h
theorem sn_impl_FormPage : Callable Try.prog 48 ∧ Sound Try.prog 48 sd_impl_FormPage.sg sd_impl_FormPage.den :=
  fn_plain (pat := pa_impl_FormPage) (by kernel_rfl) si_impl_FormPage Try.func48 (by kernel_rfl) (by kernel_rfl) (by kernel_rfl) fun x r h => by
    obtain ⟨a0, a1, ⟨⟩⟩ := x; rw [← h]; exact (en_impl_FormPage a0 a1).trans (eq_impl_FormPage a0 a1)
def m_impl_validRoot (r : Rt) : Bool := rootOk r
def sg_impl_validRoot : Sig := ⟨[.rd (.pair (.int .i64) (.pair (.int .i64) (.pair (.int .i64) (.pair (.int .i64) .unit))))], [some 4], [.rd .bool], [none]⟩
noncomputable def sd_impl_validRoot : SD := ⟨sg_impl_validRoot, fun x => some (((m_impl_validRoot x.1), ()), (()))⟩
noncomputable def ta_impl_validRoot : Tb := Tb.of fun f => if f = 76 then some sd_impl_in else none
def pa_impl_validRoot : Nat → Pat × (Nat → Pat) := fun k => (⟨[], [], []⟩, fun _ => ⟨[], [], []⟩)
noncomputable def de_impl_validRoot (a0 : Int × Int × Int × Int × Unit) : Option ((((Bool) × Unit) × (Unit))) :=
  bif m_impl_in a0.snd.fst 0 1 then some ((m_impl_in a0.snd.snd.fst 1 999999000, ()), ()) else some ((false, ()), ())
theorem eq_impl_validRoot (a0 : Int × Int × Int × Int × Unit) : de_impl_validRoot a0 = some (((m_impl_validRoot a0), ()), (())) := by
  unfold de_impl_validRoot m_impl_validRoot rootOk
  show (bif inB a0.2.1 0 1 then _ else _) = _
  cases inB a0.2.1 0 1 <;> rfl
theorem en_impl_validRoot (a0 : Int × Int × Int × Int × Unit) : evalF Try.prog ta_impl_validRoot pa_impl_validRoot sg_impl_validRoot Try.f100 noL (a0, ()) = de_impl_validRoot a0 := by kernel_rfl
theorem si_impl_validRoot : SigsOk Try.prog ta_impl_validRoot := SigsOk.of fun f sd h => by
  try dsimp only [Tb.of, ta_impl_validRoot] at h
  split at h
  · rename_i e; subst e; cases h; exact sn_impl_in
  cases h
theorem sn_impl_validRoot : Callable Try.prog 100 ∧ Sound Try.prog 100 sd_impl_validRoot.sg sd_impl_validRoot.den :=
  fn_plain (pat := pa_impl_validRoot) (by kernel_rfl) si_impl_validRoot Try.func100 (by kernel_rfl) (by kernel_rfl) (by kernel_rfl) fun x r h => by
    obtain ⟨a0, ⟨⟩⟩ := x; rw [← h]; exact (en_impl_validRoot a0).trans (eq_impl_validRoot a0)
def m_impl_RootPage (r : Rt) (w : Int) : ByteArray := rootS r w
def sg_impl_RootPage : Sig := ⟨[.rd (.pair (.int .i64) (.pair (.int .i64) (.pair (.int .i64) (.pair (.int .i64) .unit)))), .rd (.int .i64)], [some 4, none], [.rd .str], [none]⟩
noncomputable def sd_impl_RootPage : SD := ⟨sg_impl_RootPage, fun x => some (((m_impl_RootPage x.1 x.2.1), ()), (()))⟩
noncomputable def ta_impl_RootPage : Tb := Tb.of fun f => if f = 48 then some sd_impl_FormPage else if f = 84 then some sd_impl_be else if f = 100 then some sd_impl_validRoot else none
def pa_impl_RootPage : Nat → Pat × (Nat → Pat) := fun k => (⟨[], [], []⟩, fun _ => ⟨[], [], []⟩)
noncomputable def de_impl_RootPage (a0 : Int × Int × Int × Int × Unit) (a1 : Int) : Option ((((ByteArray) × Unit) × (Unit))) :=
  bif !m_impl_validRoot (a0.fst, a0.snd.fst, a0.snd.snd.fst, a0.snd.snd.snd.fst, ()) then some ((ByteArray.mk #[], ()), ())
  else some ((m_impl_FormPage (4, a0.snd.snd.snd.fst, a0.fst, beS a0.snd.fst (Int.toNat 1) ++ beS a0.snd.snd.fst (Int.toNat 4), ()) a1, ()), ())
theorem eq_impl_RootPage (a0 : Int × Int × Int × Int × Unit) (a1 : Int) : de_impl_RootPage a0 a1 = some (((m_impl_RootPage a0 a1), ()), (())) := by
  unfold de_impl_RootPage m_impl_RootPage rootS
  show (bif !rootOk a0 then _ else _) = _
  cases rootOk a0 <;> rfl
theorem en_impl_RootPage (a0 : Int × Int × Int × Int × Unit) (a1 : Int) : evalF Try.prog ta_impl_RootPage pa_impl_RootPage sg_impl_RootPage Try.f51 noL (a0, a1, ()) = de_impl_RootPage a0 a1 := by kernel_rfl
theorem si_impl_RootPage : SigsOk Try.prog ta_impl_RootPage := SigsOk.of fun f sd h => by
  try dsimp only [Tb.of, ta_impl_RootPage] at h
  split at h
  · rename_i e; subst e; cases h; exact sn_impl_FormPage
  split at h
  · rename_i e; subst e; cases h; exact sn_impl_be
  split at h
  · rename_i e; subst e; cases h; exact sn_impl_validRoot
  cases h
theorem sn_impl_RootPage : Callable Try.prog 51 ∧ Sound Try.prog 51 sd_impl_RootPage.sg sd_impl_RootPage.den :=
  fn_plain (pat := pa_impl_RootPage) (by kernel_rfl) si_impl_RootPage Try.func51 (by kernel_rfl) (by kernel_rfl) (by kernel_rfl) fun x r h => by
    obtain ⟨a0, a1, ⟨⟩⟩ := x; rw [← h]; exact (en_impl_RootPage a0 a1).trans (eq_impl_RootPage a0 a1)
def sg_laws_FnExactRootPage : Sig := ⟨[.rd (.pair (.int .i64) (.pair (.int .i64) (.pair (.int .i64) (.pair (.int .i64) .unit)))), .rd (.int .i64)], [some 4, none], [.rd .bool], [none]⟩
noncomputable def ta_laws_FnExactRootPage : Tb := Tb.of fun f => if f = 49 then some sd_spec_RootPage else if f = 50 then some sd_laws_toRoot else if f = 51 then some sd_impl_RootPage else none
def pa_laws_FnExactRootPage : Nat → Pat × (Nat → Pat) := fun k => (⟨[], [], []⟩, fun _ => ⟨[], [], []⟩)
noncomputable def de_laws_FnExactRootPage (a0 : Int × Int × Int × Int × Unit) (a1 : Int) : Option ((((Bool) × Unit) × (Unit))) :=
  bif
      !ByteArray.toList (m_impl_RootPage (a0.fst, a0.snd.fst, a0.snd.snd.fst, a0.snd.snd.snd.fst, ()) a1) ==
          ByteArray.toList (m_spec_RootPage (a0.fst, a0.snd.fst, a0.snd.snd.fst, a0.snd.snd.snd.fst, ()) a1) then
    some ((false, ()), ())
  else some ((true, ()), ())
noncomputable def sd_laws_FnExactRootPage : SD := ⟨sg_laws_FnExactRootPage, fun x => de_laws_FnExactRootPage x.1 x.2.1⟩
theorem law_FnExactRootPage (a0 : Int × Int × Int × Int × Unit)  (a1 : Int) (h0 : FineD (.pair (.int .i64) (.pair (.int .i64) (.pair (.int .i64) (.pair (.int .i64) .unit)))) a0) (h1 : FineD (.int .i64) a1) : de_laws_FnExactRootPage a0 a1 = some ((true, ()), ()) := by
  have hf0 := fine_of h0
  have hf1 := fine_of h1
  unfold de_laws_FnExactRootPage
  have t0 : m_laws_toRoot (a0.fst, a0.snd.fst, a0.snd.snd.fst, a0.snd.snd.snd.fst, ()) = some (a0.fst, a0.snd.fst, a0.snd.snd.fst, a0.snd.snd.snd.fst, ()) := toM_is (t := (.pair (.int .i64) (.pair (.int .i64) (.pair (.int .i64) (.pair (.int .i64) .unit))))) (x := a0) rfl
  simp only [t0, Option.bind_some, cond_false, cond_true, beq_self_eq_true, Bool.not_true, Bool.or_self, m_impl_RootPage, m_spec_RootPage]
theorem en_laws_FnExactRootPage (a0 : Int × Int × Int × Int × Unit) (a1 : Int) : evalF Try.prog ta_laws_FnExactRootPage pa_laws_FnExactRootPage sg_laws_FnExactRootPage Try.f11 noL (a0, a1, ()) = de_laws_FnExactRootPage a0 a1 := by kernel_rfl
theorem si_laws_FnExactRootPage : SigsOk Try.prog ta_laws_FnExactRootPage := SigsOk.of fun f sd h => by
  try dsimp only [Tb.of, ta_laws_FnExactRootPage] at h
  split at h
  · rename_i e; subst e; cases h; exact sn_spec_RootPage
  split at h
  · rename_i e; subst e; cases h; exact sn_laws_toRoot
  split at h
  · rename_i e; subst e; cases h; exact sn_impl_RootPage
  cases h
theorem sn_laws_FnExactRootPage : Callable Try.prog 11 ∧ Sound Try.prog 11 sd_laws_FnExactRootPage.sg sd_laws_FnExactRootPage.den :=
  fn_plain (pat := pa_laws_FnExactRootPage) (by kernel_rfl) si_laws_FnExactRootPage Try.func11 (by kernel_rfl) (by kernel_rfl) (by kernel_rfl) fun x r h => by
    obtain ⟨a0, a1, ⟨⟩⟩ := x; exact (en_laws_FnExactRootPage a0 a1).trans h
end Go.Proofs.Ytmhjcfgkheihdaa.V
