/- What the functions that FnExactCut reaches come to: part 1. No condition. -/
import Derived.Test.YteohpbmjaobpbaaQBase
import Derived.Test.YteohpbmjaobpbaaTLay
import Derived.Test.YteohpbmjaobpbaaProg
import Derived.KernelRfl
namespace Go.Proofs.Yteohpbmjaobpbaa.V
open Go Go.Proofs.Yteohpbmjaobpbaa.R Go.Proofs
set_option maxRecDepth 100000
set_option linter.unusedVariables false
set_option linter.unusedSimpArgs false
def sg_spec_l1Width : Sig := ⟨[.rd (.int .i64)], [none], [.rd .bool], [none]⟩
noncomputable def ta_spec_l1Width : Tb := Tb.of fun f => none
def pa_spec_l1Width : Nat → Pat × (Nat → Pat) := fun k => (⟨[], [], []⟩, fun _ => ⟨[], [], []⟩)
noncomputable def de_spec_l1Width (a0 : Int) : Option ((((Bool) × Unit) × (Unit))) :=
  bif decide (a0 ≥ 1) then some ((decide (a0 ≤ 8), ()), ()) else some ((false, ()), ())
noncomputable def sd_spec_l1Width : SD := ⟨sg_spec_l1Width, fun x => de_spec_l1Width x.1⟩
theorem en_spec_l1Width (a0 : Int) : evalF Try.prog ta_spec_l1Width pa_spec_l1Width sg_spec_l1Width Try.f25 noL (a0, ()) = de_spec_l1Width a0 := by kernel_rfl
theorem si_spec_l1Width : SigsOk Try.prog ta_spec_l1Width := SigsOk.of fun f sd h => by
  try dsimp only [Tb.of, ta_spec_l1Width] at h
  cases h
theorem sn_spec_l1Width : Callable Try.prog 25 ∧ Sound Try.prog 25 sd_spec_l1Width.sg sd_spec_l1Width.den :=
  fn_plain (pat := pa_spec_l1Width) (by kernel_rfl) si_spec_l1Width Try.func25 (by kernel_rfl) (by kernel_rfl) (by kernel_rfl) fun x r h => by
    obtain ⟨a0, ⟨⟩⟩ := x; exact (en_spec_l1Width a0).trans h
def sg_spec_l1Part : Sig := ⟨[.rd (.int .i64)], [none], [.rd (.int .i64)], [none]⟩
noncomputable def ta_spec_l1Part : Tb := Tb.of fun f => none
def pa_spec_l1Part : Nat → Pat × (Nat → Pat) := fun k => (⟨[], [], []⟩, fun _ => ⟨[], [], []⟩)
noncomputable def de_spec_l1Part (a0 : Int) : Option ((((Int) × Unit) × (Unit))) :=
  some ((IntKind.wrap IntKind.i64 (IntKind.wrap IntKind.i64 (64 - a0) - 8), ()), ())
noncomputable def sd_spec_l1Part : SD := ⟨sg_spec_l1Part, fun x => de_spec_l1Part x.1⟩
theorem en_spec_l1Part (a0 : Int) : evalF Try.prog ta_spec_l1Part pa_spec_l1Part sg_spec_l1Part Try.f54 noL (a0, ()) = de_spec_l1Part a0 := by kernel_rfl
theorem si_spec_l1Part : SigsOk Try.prog ta_spec_l1Part := SigsOk.of fun f sd h => by
  try dsimp only [Tb.of, ta_spec_l1Part] at h
  cases h
theorem sn_spec_l1Part : Callable Try.prog 54 ∧ Sound Try.prog 54 sd_spec_l1Part.sg sd_spec_l1Part.den :=
  fn_plain (pat := pa_spec_l1Part) (by kernel_rfl) si_spec_l1Part Try.func54 (by kernel_rfl) (by kernel_rfl) (by kernel_rfl) fun x r h => by
    obtain ⟨a0, ⟨⟩⟩ := x; exact (en_spec_l1Part a0).trans h
def m_spec_l3Parts (s : ByteArray) (w : Int) : Option (List ByteArray) := if s.size ≤ 1099511627776 ∧ 1 ≤ w ∧ w ≤ 8 then some (partsS s w) else none
def fu_spec_l3Parts_4 (v0 : ByteArray) (v6 : Int) (r0 : List ByteArray) : Nat := v0.size + 1
def sg_spec_l3Parts : Sig := ⟨[.rd .str, .rd (.int .i64)], [none, none], [.own 9 .str], [none]⟩
noncomputable def sd_spec_l3Parts : SD := ⟨sg_spec_l3Parts, fun x => (m_spec_l3Parts x.1 x.2.1).bind fun r => some ((r, ()), (()))⟩
noncomputable def ta_spec_l3Parts : Tb := Tb.of fun f => if f = 54 then some sd_spec_l1Part else none
def pa_spec_l3Parts : Nat → Pat × (Nat → Pat) := fun k => if k = 4 then (⟨[.row 5 0 9 .str], [(0, .lf (.d .str)), (5, .lf (.row 0)), (6, .lf (.d (.int .i64)))], [.row 9 .str]⟩, fun e => if e = 2 then ⟨[.row 5 0 9 .str], [(0, .lf (.d .str)), (5, .lf (.row 0))], [.row 9 .str]⟩ else ⟨[], [], []⟩) else (⟨[], [], []⟩, fun _ => ⟨[], [], []⟩)
noncomputable def co_spec_l3Parts_4 : Code := (loopsIn (bodyOf Try.f26)).getD 0 .skip
noncomputable def tr_spec_l3Parts_4 {R : Type}  (NX : ((ByteArray) × (Int) × (List ByteArray) × Unit) → Option R) (X2 : ((ByteArray) × (List ByteArray) × Unit) → Option R) (v0 : ByteArray) (v6 : Int) (r0 : List ByteArray) : Option R :=
  bif decide (nI (ByteArray.size v0) > v6) then
    bif decide (0 ≤ v6) then
      bif decide (v6 ≤ nI (ByteArray.size v0)) then
        bif decide ((List.length r0 + List.length [cutOf v0 0 v6]) * 16 ≤ 140737488355328) then
          bif decide (0 ≤ v6) then bif decide (v6 ≤ nI (ByteArray.size v0)) then NX (cutOf v0 v6 (nI (ByteArray.size v0)), v6, r0 ++ [cutOf v0 0 v6], ()) else none else none
        else none
      else none
    else none
  else X2 (v0, r0, ())
noncomputable def lo_spec_l3Parts_4 : Nat → (ByteArray) → (Int) → (List ByteArray) →  Option ((ByteArray) × (List ByteArray) × Unit)
  | 0, _, _, _ => none
  | m + 1, v0, v6, r0 => tr_spec_l3Parts_4  (fun d => lo_spec_l3Parts_4 m d.1 d.2.1 d.2.2.1) (fun d => some (d)) v0 v6 r0
theorem na_spec_l3Parts_4 {R S : Type}  (NX : ((ByteArray) × (Int) × (List ByteArray) × Unit) → Option R) (X2 : ((ByteArray) × (List ByteArray) × Unit) → Option R) (v0 : ByteArray) (v6 : Int) (r0 : List ByteArray) (f : R → Option S) : tr_spec_l3Parts_4  (fun d => (NX d).bind f) (fun d => (X2 d).bind f) v0 v6 r0 = (tr_spec_l3Parts_4  NX X2 v0 v6 r0).bind f := by
  unfold tr_spec_l3Parts_4
  simp only [cond_bind, ite_bind, onSum_bind, Option.bind_assoc, Option.bind_none, Option.bind_some]
noncomputable def de_spec_l3Parts (a0 : ByteArray) (a1 : Int) : Option ((((List ByteArray) × Unit) × (Unit))) :=
  Option.bind ((fun d => lo_spec_l3Parts_4 (fu_spec_l3Parts_4 d.1 d.2.1 d.2.2.1) d.1 d.2.1 d.2.2.1) (a0, IntKind.wrap IntKind.i64 (IntKind.wrap IntKind.i64 (64 - a1) - 8), [], ())) fun val =>
    bif decide ((List.length val.snd.fst + List.length [val.fst]) * 16 ≤ 140737488355328) then some ((val.snd.fst ++ [val.fst], ()), ()) else none
theorem parts_loop (n : Nat) (hn : 1 ≤ n) (hn2 : n ≤ 64) : ∀ (k m : Nat) (s : ByteArray) (r : List ByteArray), s.size ≤ k → k < m → r.length + s.size ≤ 1099511627777 →
    ∃ q t, lo_spec_l3Parts_4 m s n r = some (t, q, ()) ∧ q ++ [t] = r ++ partsGo n k s ∧ q.length + 1 ≤ 1099511627778
  | 0, m + 1, s, r, hs, hm, hr => by
    refine ⟨r, s, ?_, rfl, by omega⟩
    simp only [lo_spec_l3Parts_4, tr_spec_l3Parts_4]
    rw [decide_eq_false (show ¬ (nI s.size > (n : Int)) by simp only [nI]; omega)]
    rfl
  | k + 1, m + 1, s, r, hs, hm, hr => by
    by_cases q : s.size > n
    · have hc : (cutOf s n (nI s.size)).size = s.size - n := by rw [cutOf_size (by omega) (by simp only [nI]; omega) (by simp [nI])]; simp only [nI]; omega
      obtain ⟨q', t', e1, e2, e3⟩ := parts_loop n hn hn2 k m (cutOf s n (nI s.size)) (r ++ [cutOf s 0 n]) (by omega) (by omega) (by rw [List.length_append, List.length_singleton]; omega)
      refine ⟨q', t', ?_, ?_, e3⟩
      · simp only [lo_spec_l3Parts_4, tr_spec_l3Parts_4]
        rw [decide_eq_true (show nI s.size > (n : Int) by simp only [nI]; omega), cLe0, decide_eq_true (show (n : Int) ≤ nI s.size by simp only [nI]; omega), decide_eq_true (show (r.length + [cutOf s 0 n].length) * 16 ≤ 140737488355328 by rw [List.length_singleton]; omega)]
        exact e1
      · rw [e2, List.append_assoc]
        simp only [partsGo, if_pos q]
        rfl
    · refine ⟨r, s, ?_, by simp only [partsGo, if_neg q], by omega⟩
      simp only [lo_spec_l3Parts_4, tr_spec_l3Parts_4]
      rw [decide_eq_false (show ¬ (nI s.size > (n : Int)) by simp only [nI]; omega)]
      rfl
theorem eq_spec_l3Parts (a0 : ByteArray) (a1 : Int) r (h : m_spec_l3Parts a0 a1 = some r) : de_spec_l3Parts a0 a1 = some ((r, ()), (())) := by
  unfold m_spec_l3Parts at h
  split at h
  · rename_i hc
    cases h
    obtain ⟨h0, h1, h2⟩ := hc
    obtain ⟨n, hn⟩ : ∃ n : Nat, 56 - a1 = (n : Int) := ⟨(56 - a1).toNat, by omega⟩
    unfold de_spec_l3Parts partsS
    rw [wrap_ok (n := 64 - a1) (by omega) (by omega), wrap_ok (n := 64 - a1 - 8) (by omega) (by omega), show 64 - a1 - 8 = 56 - a1 by omega, hn, Int.toNat_natCast]
    obtain ⟨q, t, e1, e2, e3⟩ := parts_loop n (by omega) (by omega) a0.size (fu_spec_l3Parts_4 a0 n []) a0 [] (by omega) (by simp only [fu_spec_l3Parts_4]; omega) (by rw [List.length_nil]; omega)
    rw [List.nil_append] at e2
    refine bi_ e1 ?_
    show (bif decide ((q.length + [t].length) * 16 ≤ 140737488355328) then some ((q ++ [t], ()), ()) else none) = _
    rw [decide_eq_true (by rw [List.length_singleton]; omega), e2]
    rfl
  · cases h
noncomputable def ou_spec_l3Parts_4 {R : Type} (k : Kt R) : ((ByteArray) × (List ByteArray) × Unit) → Option R := (fun d => k (.exit 0) (((pa_spec_l3Parts 4).2 2).st d) (((pa_spec_l3Parts 4).2 2).nid))
noncomputable def L_spec_l3Parts {R : Type} : Lt R pa_spec_l3Parts := (addL (pat := pa_spec_l3Parts) 4 (fun d k => (lo_spec_l3Parts_4 (fu_spec_l3Parts_4 d.1 d.2.1 d.2.2.1) d.1 d.2.1 d.2.2.1).bind (ou_spec_l3Parts_4 k)) noL)
theorem rd_spec_l3Parts_4 {R : Type} (nx : (pa_spec_l3Parts 4).1.D → Kt R → Option R) (k : Kt R) (v0 : ByteArray) (v6 : Int) (r0 : List ByteArray) : ev Try.prog ⟨ta_spec_l3Parts, 0, 27, pa_spec_l3Parts⟩ L_spec_l3Parts co_spec_l3Parts_4 ((pa_spec_l3Parts 4).1.st (v0, v6, r0, ())) (pa_spec_l3Parts 4).1.nid (roundK 0 (pa_spec_l3Parts 4) nx k) = tr_spec_l3Parts_4  (fun d => nx d k) (fun d => k (.exit 0) (((pa_spec_l3Parts 4).2 2).st d) (((pa_spec_l3Parts 4).2 2).nid)) v0 v6 r0 := by kernel_rfl
theorem lp_spec_l3Parts_4 {R : Type} : ∀ (m : Nat) (d : (pa_spec_l3Parts 4).1.D) (k : Kt R), loopN 0 (pa_spec_l3Parts 4) (fun s nid k => ev Try.prog ⟨ta_spec_l3Parts, 0, 27, pa_spec_l3Parts⟩ L_spec_l3Parts co_spec_l3Parts_4 s nid k) m d k = (lo_spec_l3Parts_4 m d.1 d.2.1 d.2.2.1).bind (ou_spec_l3Parts_4 k)
  | 0, _, _ => rfl
  | m + 1, ⟨v0, v6, r0, ⟨⟩⟩, k => (rd_spec_l3Parts_4 _ k v0 v6 r0).trans ((congrArg (fun F => tr_spec_l3Parts_4  F (fun d => k (.exit 0) (((pa_spec_l3Parts 4).2 2).st d) (((pa_spec_l3Parts 4).2 2).nid)) v0 v6 r0) (funext fun d => lp_spec_l3Parts_4 m d k)).trans (na_spec_l3Parts_4 (f := ou_spec_l3Parts_4 k)  (fun d => lo_spec_l3Parts_4 m d.1 d.2.1 d.2.2.1) (fun d => some (d)) v0 v6 r0))
theorem en_spec_l3Parts (a0 : ByteArray) (a1 : Int) : evalF Try.prog ta_spec_l3Parts pa_spec_l3Parts sg_spec_l3Parts Try.f26 L_spec_l3Parts (a0, a1, ()) = de_spec_l3Parts a0 a1 := by kernel_rfl
theorem si_spec_l3Parts : SigsOk Try.prog ta_spec_l3Parts := SigsOk.of fun f sd h => by
  try dsimp only [Tb.of, ta_spec_l3Parts] at h
  split at h
  · rename_i e; subst e; cases h; exact sn_spec_l1Part
  cases h
theorem lk_spec_l3Parts_4 {R : Type} : LoopOk Try.prog R 27 0 pa_spec_l3Parts L_spec_l3Parts co_spec_l3Parts_4 :=
  loop_key (cfg := ⟨ta_spec_l3Parts, 0, 27, pa_spec_l3Parts⟩) (key := 4) (by kernel_rfl) (by kernel_rfl) si_spec_l3Parts rfl rfl (fun d k r h => ⟨fu_spec_l3Parts_4 d.1 d.2.1 d.2.2.1, (lp_spec_l3Parts_4 _ d k).trans h⟩) (fun c hc => by rw [show loopsIn co_spec_l3Parts_4 = [] from by kernel_rfl] at hc; cases hc)
theorem sn_spec_l3Parts : Callable Try.prog 26 ∧ Sound Try.prog 26 sd_spec_l3Parts.sg sd_spec_l3Parts.den :=
  fn_loops (pat := pa_spec_l3Parts) L_spec_l3Parts (by kernel_rfl) si_spec_l3Parts Try.func26 (by kernel_rfl) (by kernel_rfl) (fun c hc => by rw [show loopsIn (bodyOf Try.f26) = [co_spec_l3Parts_4] from by kernel_rfl] at hc; simp only [List.mem_cons, List.not_mem_nil, or_false] at hc; rcases hc with rfl <;> first | exact lk_spec_l3Parts_4) fun x r h => by
    obtain ⟨a0, a1, ⟨⟩⟩ := x; obtain ⟨y, h1, h2⟩ := Option.bind_eq_some_iff.1 (show (m_spec_l3Parts a0 a1).bind (fun r => some ((r, ()), (()))) = some r from h); cases h2; exact (en_spec_l3Parts a0 a1).trans (eq_spec_l3Parts a0 a1 _ h1)
def m_spec_l1Ok (p : Pg) (w : Int) : Bool := pageOk p w
def sg_spec_l1Ok : Sig := ⟨[.rd (.pair (.int .i64) (.pair (.int .i64) (.pair (.int .i64) (.pair .str .unit)))), .rd (.int .i64)], [some 4, none], [.rd .bool], [none]⟩
noncomputable def sd_spec_l1Ok : SD := ⟨sg_spec_l1Ok, fun x => some (((m_spec_l1Ok x.1 x.2.1), ()), (()))⟩
noncomputable def ta_spec_l1Ok : Tb := Tb.of fun f => if f = 25 then some sd_spec_l1Width else if f = 54 then some sd_spec_l1Part else none
def pa_spec_l1Ok : Nat → Pat × (Nat → Pat) := fun k => (⟨[], [], []⟩, fun _ => ⟨[], [], []⟩)
noncomputable def de_spec_l1Ok (a0 : Int × Int × Int × ByteArray × Unit) (a1 : Int) : Option ((((Bool) × Unit) × (Unit))) :=
  Option.bind (bif decide (a1 ≥ 1) then some ((decide (a1 ≤ 8), ()), ()) else some ((false, ()), ())) fun val =>
    bif !val.fst.fst then some ((false, ()), ())
    else
      bif decide (a0.fst < 1) then some ((false, ()), ())
      else
        bif decide (a0.fst > 4) then some ((false, ()), ())
        else
          bif decide (a0.snd.fst < 1) then some ((false, ()), ())
          else
            bif decide (a0.snd.fst > 60000) then some ((false, ()), ())
            else
              bif decide (a0.snd.snd.fst < 1) then some ((false, ()), ())
              else
                bif decide (a0.snd.snd.fst > 1000000000) then some ((false, ()), ())
                else
                  bif decide (nI (ByteArray.size a0.snd.snd.snd.fst) ≤ IntKind.wrap IntKind.i64 (IntKind.wrap IntKind.i64 (64 - a1) - 8)) then
                    bif a0.fst != 3 then some ((true, ()), ()) else some ((ByteArray.toList a0.snd.snd.snd.fst == ByteArray.toList (ByteArray.mk #[]), ()), ())
                  else some ((false, ()), ())
theorem eq_spec_l1Ok (a0 : Int × Int × Int × ByteArray × Unit) (a1 : Int) : de_spec_l1Ok a0 a1 = some (((m_spec_l1Ok a0 a1), ()), (())) := by
  unfold de_spec_l1Ok m_spec_l1Ok pageOk
  have tl : ByteArray.toList (ByteArray.mk #[]) = [] := by decide +kernel
  rw [tl]
  refine bi_ (wid a1) ?_
  show (bif !inB a1 1 8 then _ else _) = _
  cases hw : inB a1 1 8 with
  | false => rfl
  | true =>
    have k1 := of_decide_eq_true (and2 hw).1
    have k2 := of_decide_eq_true (and2 hw).2
    rw [wrap_ok (n := 64 - a1) (by omega) (by omega), wrap_ok (by omega) (by omega), show 64 - a1 - 8 = 56 - a1 by omega]
    have e : ∀ (x lo hi : Int) {ρ : Type} (f t : ρ), (bif decide (x < lo) then f else bif decide (x > hi) then f else t) = bif inB x lo hi then t else f := by
      intro x lo hi ρ f t
      unfold inB
      by_cases h1 : x < lo
      · rw [decide_eq_true h1, decide_eq_false (show ¬ lo ≤ x by omega)]; rfl
      · rw [decide_eq_false h1, decide_eq_true (show lo ≤ x by omega)]
        by_cases h2 : x > hi
        · rw [decide_eq_true h2, decide_eq_false (show ¬ x ≤ hi by omega)]; rfl
        · rw [decide_eq_false h2, decide_eq_true (show x ≤ hi by omega)]; rfl
    rw [e a0.1, e a0.2.1, e a0.2.2.1]
    cases inB a0.1 1 4 <;> cases inB a0.2.1 1 60000 <;> cases inB a0.2.2.1 1 1000000000 <;> try rfl
    show (bif decide ((ByteArray.size a0.2.2.2.1 : Int) ≤ 56 - a1) then _ else _) = _
    cases decide ((ByteArray.size a0.2.2.2.1 : Int) ≤ 56 - a1) <;> cases (a0.1 != 3) <;> rfl
theorem en_spec_l1Ok (a0 : Int × Int × Int × ByteArray × Unit) (a1 : Int) : evalF Try.prog ta_spec_l1Ok pa_spec_l1Ok sg_spec_l1Ok Try.f55 noL (a0, a1, ()) = de_spec_l1Ok a0 a1 := by kernel_rfl
theorem si_spec_l1Ok : SigsOk Try.prog ta_spec_l1Ok := SigsOk.of fun f sd h => by
  try dsimp only [Tb.of, ta_spec_l1Ok] at h
  split at h
  · rename_i e; subst e; cases h; exact sn_spec_l1Width
  split at h
  · rename_i e; subst e; cases h; exact sn_spec_l1Part
  cases h
theorem sn_spec_l1Ok : Callable Try.prog 55 ∧ Sound Try.prog 55 sd_spec_l1Ok.sg sd_spec_l1Ok.den :=
  fn_plain (pat := pa_spec_l1Ok) (by kernel_rfl) si_spec_l1Ok Try.func55 (by kernel_rfl) (by kernel_rfl) (by kernel_rfl) fun x r h => by
    obtain ⟨a0, a1, ⟨⟩⟩ := x; rw [← h]; exact (en_spec_l1Ok a0 a1).trans (eq_spec_l1Ok a0 a1)
theorem mx_spec_l1Number : ∃ f : Int → Int → Option ByteArray, f = fun v n => if 0 ≤ v ∧ v < 9223372036854775808 ∧ 0 ≤ n ∧ n ≤ 1000 then some (beS v n.toNat) else none := ⟨_, rfl⟩
noncomputable def m_spec_l1Number (v n : Int) : Option ByteArray := Classical.choose mx_spec_l1Number v n
theorem me_spec_l1Number (v n : Int) : m_spec_l1Number v n = if 0 ≤ v ∧ v < 9223372036854775808 ∧ 0 ≤ n ∧ n ≤ 1000 then some (beS v n.toNat) else none := by
  unfold m_spec_l1Number
  rw [Classical.choose_spec mx_spec_l1Number]
def fu_spec_l1Number_4 (v0 v1 : Int) (v5 : ByteArray) (v6 : Int) : Nat := (v1 - v6).toNat + 1
def sg_spec_l1Number : Sig := ⟨[.rd (.int .i64), .rd (.int .i64)], [none, none], [.rd .str], [none]⟩
noncomputable def sd_spec_l1Number : SD := ⟨sg_spec_l1Number, fun x => (m_spec_l1Number x.1 x.2.1).bind fun r => some ((r, ()), (()))⟩
noncomputable def ta_spec_l1Number : Tb := Tb.of fun f => none
def pa_spec_l1Number : Nat → Pat × (Nat → Pat) := fun k => if k = 4 then (⟨[], [(0, .lf (.d (.int .i64))), (1, .lf (.d (.int .i64))), (5, .lf (.d .str)), (6, .lf (.d (.int .i64)))], []⟩, fun e => if e = 2 then ⟨[], [(5, .lf (.d .str))], []⟩ else ⟨[], [], []⟩) else (⟨[], [], []⟩, fun _ => ⟨[], [], []⟩)
noncomputable def co_spec_l1Number_4 : Code := (loopsIn (bodyOf Try.f56)).getD 0 .skip
noncomputable def tr_spec_l1Number_4 {R : Type}  (NX : ((Int) × (Int) × (ByteArray) × (Int) × Unit) → Option R) (X2 : ((ByteArray) × Unit) → Option R) (v0 : Int) (v1 : Int) (v5 : ByteArray) (v6 : Int) : Option R :=
  bif decide (v6 < v1) then
    bif decide (ByteArray.size (strOfNums [IntKind.wrap IntKind.u8 (Int.tmod v0 256)]) + ByteArray.size v5 ≤ 9223372036854775807) then
      NX (IntKind.wrap IntKind.i64 (Int.tdiv v0 256), v1, strOfNums [IntKind.wrap IntKind.u8 (Int.tmod v0 256)] ++ v5, IntKind.wrap IntKind.i64 (v6 + 1), ())
    else none
  else X2 (v5, ())
noncomputable def lo_spec_l1Number_4 : Nat → (Int) → (Int) → (ByteArray) → (Int) →  Option ((ByteArray) × Unit)
  | 0, _, _, _, _ => none
  | m + 1, v0, v1, v5, v6 => tr_spec_l1Number_4  (fun d => lo_spec_l1Number_4 m d.1 d.2.1 d.2.2.1 d.2.2.2.1) (fun d => some (d)) v0 v1 v5 v6
theorem na_spec_l1Number_4 {R S : Type}  (NX : ((Int) × (Int) × (ByteArray) × (Int) × Unit) → Option R) (X2 : ((ByteArray) × Unit) → Option R) (v0 : Int) (v1 : Int) (v5 : ByteArray) (v6 : Int) (f : R → Option S) : tr_spec_l1Number_4  (fun d => (NX d).bind f) (fun d => (X2 d).bind f) v0 v1 v5 v6 = (tr_spec_l1Number_4  NX X2 v0 v1 v5 v6).bind f := by
  unfold tr_spec_l1Number_4
  simp only [cond_bind, ite_bind, onSum_bind, Option.bind_assoc, Option.bind_none, Option.bind_some]
noncomputable def de_spec_l1Number (a0 : Int) (a1 : Int) : Option ((((ByteArray) × Unit) × (Unit))) :=
  Option.bind ((fun d => lo_spec_l1Number_4 (fu_spec_l1Number_4 d.1 d.2.1 d.2.2.1 d.2.2.2.1) d.1 d.2.1 d.2.2.1 d.2.2.2.1) (a0, a1, ByteArray.mk #[], 0, ())) fun val => some ((val.fst, ()), ())
theorem l1Number_loop : ∀ (k m i : Nat) (v : Int) (out : ByteArray), i + k ≤ 1000 → k < m → out.size = i → 0 ≤ v → v < 9223372036854775808 → lo_spec_l1Number_4 m v ((i + k : Nat) : Int) out i = some (beS v k ++ out, ())
  | 0, m + 1, i, v, out, hi, hm, ho, h0, h1 => by
    simp only [lo_spec_l1Number_4, tr_spec_l1Number_4]
    rw [decide_eq_false (by omega), beS_zero]
    rfl
  | k + 1, m + 1, i, v, out, hi, hm, ho, h0, h1 => by
    simp only [lo_spec_l1Number_4, tr_spec_l1Number_4]
    have e1 : IntKind.wrap IntKind.u8 (Int.tmod v 256) = v % 256 := by
      rw [Int.tmod_eq_emod_of_nonneg h0]
      show v % 256 % 256 = v % 256
      omega
    have e2 : IntKind.wrap IntKind.i64 (Int.tdiv v 256) = v / 256 := by
      rw [Int.tdiv_eq_ediv_of_nonneg h0]
      exact wrap_ok (by omega) (by omega)
    rw [decide_eq_true (show (i : Int) < ((i + (k + 1) : Nat) : Int) by omega), e1, e2, decide_eq_true (show ByteArray.size (strOfNums [v % 256]) + ByteArray.size out ≤ 9223372036854775807 by rw [ho, size_strOfNums]; simp; omega), wI (show i < 4611686018427387904 by omega)]
    have hL := l1Number_loop k m (i + 1) (v / 256) (strOfNums [v % 256] ++ out) (by omega) (by omega) (by rw [ByteArray.size_append, ho, size_strOfNums]; simp; omega) (by omega) (by omega)
    rw [show i + 1 + k = i + (k + 1) by omega] at hL
    refine hL.trans ?_
    rw [← ByteArray.append_assoc, ← beS_succ]
theorem eq_spec_l1Number (a0 : Int) (a1 : Int) r (h : m_spec_l1Number a0 a1 = some r) : de_spec_l1Number a0 a1 = some ((r, ()), (())) := by
  rw [me_spec_l1Number] at h
  split at h
  · rename_i hc
    cases h
    obtain ⟨n, rfl⟩ : ∃ n : Nat, a1 = (n : Int) := ⟨a1.toNat, by omega⟩
    unfold de_spec_l1Number
    have hL := l1Number_loop n (fu_spec_l1Number_4 a0 n (ByteArray.mk #[]) 0) 0 a0 (ByteArray.mk #[]) (by omega) (by simp only [fu_spec_l1Number_4]; omega) rfl hc.1 hc.2.1
    rw [Nat.zero_add] at hL
    rw [app_z] at hL
    exact bi_ hL rfl
  · cases h
noncomputable def ou_spec_l1Number_4 {R : Type} (k : Kt R) : ((ByteArray) × Unit) → Option R := (fun d => k (.exit 0) (((pa_spec_l1Number 4).2 2).st d) (((pa_spec_l1Number 4).2 2).nid))
noncomputable def L_spec_l1Number {R : Type} : Lt R pa_spec_l1Number := (addL (pat := pa_spec_l1Number) 4 (fun d k => (lo_spec_l1Number_4 (fu_spec_l1Number_4 d.1 d.2.1 d.2.2.1 d.2.2.2.1) d.1 d.2.1 d.2.2.1 d.2.2.2.1).bind (ou_spec_l1Number_4 k)) noL)
theorem rd_spec_l1Number_4 {R : Type} (nx : (pa_spec_l1Number 4).1.D → Kt R → Option R) (k : Kt R) (v0 : Int) (v1 : Int) (v5 : ByteArray) (v6 : Int) : ev Try.prog ⟨ta_spec_l1Number, 0, 22, pa_spec_l1Number⟩ L_spec_l1Number co_spec_l1Number_4 ((pa_spec_l1Number 4).1.st (v0, v1, v5, v6, ())) (pa_spec_l1Number 4).1.nid (roundK 0 (pa_spec_l1Number 4) nx k) = tr_spec_l1Number_4  (fun d => nx d k) (fun d => k (.exit 0) (((pa_spec_l1Number 4).2 2).st d) (((pa_spec_l1Number 4).2 2).nid)) v0 v1 v5 v6 := by kernel_rfl
theorem lp_spec_l1Number_4 {R : Type} : ∀ (m : Nat) (d : (pa_spec_l1Number 4).1.D) (k : Kt R), loopN 0 (pa_spec_l1Number 4) (fun s nid k => ev Try.prog ⟨ta_spec_l1Number, 0, 22, pa_spec_l1Number⟩ L_spec_l1Number co_spec_l1Number_4 s nid k) m d k = (lo_spec_l1Number_4 m d.1 d.2.1 d.2.2.1 d.2.2.2.1).bind (ou_spec_l1Number_4 k)
  | 0, _, _ => rfl
  | m + 1, ⟨v0, v1, v5, v6, ⟨⟩⟩, k => (rd_spec_l1Number_4 _ k v0 v1 v5 v6).trans ((congrArg (fun F => tr_spec_l1Number_4  F (fun d => k (.exit 0) (((pa_spec_l1Number 4).2 2).st d) (((pa_spec_l1Number 4).2 2).nid)) v0 v1 v5 v6) (funext fun d => lp_spec_l1Number_4 m d k)).trans (na_spec_l1Number_4 (f := ou_spec_l1Number_4 k)  (fun d => lo_spec_l1Number_4 m d.1 d.2.1 d.2.2.1 d.2.2.2.1) (fun d => some (d)) v0 v1 v5 v6))
theorem en_spec_l1Number (a0 : Int) (a1 : Int) : evalF Try.prog ta_spec_l1Number pa_spec_l1Number sg_spec_l1Number Try.f56 L_spec_l1Number (a0, a1, ()) = de_spec_l1Number a0 a1 := by kernel_rfl
theorem si_spec_l1Number : SigsOk Try.prog ta_spec_l1Number := SigsOk.of fun f sd h => by
  try dsimp only [Tb.of, ta_spec_l1Number] at h
  cases h
theorem lk_spec_l1Number_4 {R : Type} : LoopOk Try.prog R 22 0 pa_spec_l1Number L_spec_l1Number co_spec_l1Number_4 :=
  loop_key (cfg := ⟨ta_spec_l1Number, 0, 22, pa_spec_l1Number⟩) (key := 4) (by kernel_rfl) (by kernel_rfl) si_spec_l1Number rfl rfl (fun d k r h => ⟨fu_spec_l1Number_4 d.1 d.2.1 d.2.2.1 d.2.2.2.1, (lp_spec_l1Number_4 _ d k).trans h⟩) (fun c hc => by rw [show loopsIn co_spec_l1Number_4 = [] from by kernel_rfl] at hc; cases hc)
theorem sn_spec_l1Number : Callable Try.prog 56 ∧ Sound Try.prog 56 sd_spec_l1Number.sg sd_spec_l1Number.den :=
  fn_loops (pat := pa_spec_l1Number) L_spec_l1Number (by kernel_rfl) si_spec_l1Number Try.func56 (by kernel_rfl) (by kernel_rfl) (fun c hc => by rw [show loopsIn (bodyOf Try.f56) = [co_spec_l1Number_4] from by kernel_rfl] at hc; simp only [List.mem_cons, List.not_mem_nil, or_false] at hc; rcases hc with rfl <;> first | exact lk_spec_l1Number_4) fun x r h => by
    obtain ⟨a0, a1, ⟨⟩⟩ := x; obtain ⟨y, h1, h2⟩ := Option.bind_eq_some_iff.1 (show (m_spec_l1Number a0 a1).bind (fun r => some ((r, ()), (()))) = some r from h); cases h2; exact (en_spec_l1Number a0 a1).trans (eq_spec_l1Number a0 a1 _ h1)
def m_spec_Sum (s : ByteArray) (w : Int) : Option ByteArray := if s.size < 4611686018427387904 then some (sumS s w) else none
def fu_spec_Sum_6 (v0 : ByteArray) (v1 v5 v6 : Int) : Nat := (nI v0.size - v6).toNat + 1
def fu_spec_Sum_11 (v1 v5 : Int) (v7 : ByteArray) (v8 : Int) : Nat := (v1 - v8).toNat + 1
def sg_spec_Sum : Sig := ⟨[.rd .str, .rd (.int .i64)], [none, none], [.rd .str], [none]⟩
noncomputable def sd_spec_Sum : SD := ⟨sg_spec_Sum, fun x => (m_spec_Sum x.1 x.2.1).bind fun r => some ((r, ()), (()))⟩
noncomputable def ta_spec_Sum : Tb := Tb.of fun f => if f = 25 then some sd_spec_l1Width else none
def pa_spec_Sum : Nat → Pat × (Nat → Pat) := fun k => if k = 6 then (⟨[], [(0, .lf (.d .str)), (1, .lf (.d (.int .i64))), (5, .lf (.d (.int .u64))), (6, .lf (.d (.int .i64)))], []⟩, fun e => if e = 2 then ⟨[], [(1, .lf (.d (.int .i64))), (5, .lf (.d (.int .u64)))], []⟩ else ⟨[], [], []⟩) else if k = 11 then (⟨[], [(1, .lf (.d (.int .i64))), (5, .lf (.d (.int .u64))), (7, .lf (.d .str)), (8, .lf (.d (.int .i64)))], []⟩, fun e => if e = 4 then ⟨[], [(7, .lf (.d .str))], []⟩ else ⟨[], [], []⟩) else (⟨[], [], []⟩, fun _ => ⟨[], [], []⟩)
noncomputable def co_spec_Sum_6 : Code := (loopsIn (bodyOf Try.f57)).getD 0 .skip
noncomputable def co_spec_Sum_11 : Code := (loopsIn (bodyOf Try.f57)).getD 1 .skip
noncomputable def tr_spec_Sum_11 {R : Type}  (NX : ((Int) × (Int) × (ByteArray) × (Int) × Unit) → Option R) (X4 : ((ByteArray) × Unit) → Option R) (v1 : Int) (v5 : Int) (v7 : ByteArray) (v8 : Int) : Option R :=
  bif decide (v8 < v1) then
    bif decide (ByteArray.size (strOfNums [IntKind.wrap IntKind.u8 (Int.tmod v5 256)]) + ByteArray.size v7 ≤ 9223372036854775807) then
      NX (v1, IntKind.wrap IntKind.u64 (Int.tdiv v5 256), strOfNums [IntKind.wrap IntKind.u8 (Int.tmod v5 256)] ++ v7, IntKind.wrap IntKind.i64 (v8 + 1), ())
    else none
  else X4 (v7, ())
noncomputable def lo_spec_Sum_11 : Nat → (Int) → (Int) → (ByteArray) → (Int) →  Option ((ByteArray) × Unit)
  | 0, _, _, _, _ => none
  | m + 1, v1, v5, v7, v8 => tr_spec_Sum_11  (fun d => lo_spec_Sum_11 m d.1 d.2.1 d.2.2.1 d.2.2.2.1) (fun d => some (d)) v1 v5 v7 v8
theorem na_spec_Sum_11 {R S : Type}  (NX : ((Int) × (Int) × (ByteArray) × (Int) × Unit) → Option R) (X4 : ((ByteArray) × Unit) → Option R) (v1 : Int) (v5 : Int) (v7 : ByteArray) (v8 : Int) (f : R → Option S) : tr_spec_Sum_11  (fun d => (NX d).bind f) (fun d => (X4 d).bind f) v1 v5 v7 v8 = (tr_spec_Sum_11  NX X4 v1 v5 v7 v8).bind f := by
  unfold tr_spec_Sum_11
  simp only [cond_bind, ite_bind, onSum_bind, Option.bind_assoc, Option.bind_none, Option.bind_some]
noncomputable def tr_spec_Sum_6 {R : Type}  (NX : ((ByteArray) × (Int) × (Int) × (Int) × Unit) → Option R) (X2 : ((Int) × (Int) × Unit) → Option R) (v0 : ByteArray) (v1 : Int) (v5 : Int) (v6 : Int) : Option R :=
  bif decide (v6 < nI (ByteArray.size v0)) then
    bif decide (0 ≤ v6) then
      bif decide (v6 < nI (ByteArray.size v0)) then
        NX
          (v0, v1, IntKind.wrap IntKind.u64 (IntKind.wrap IntKind.u64 (nI (BitVec.toNat (BitVec.ofInt 64 v5 ^^^ BitVec.ofInt 64 (IntKind.wrap IntKind.u64 (byteAt v0 v6))))) * 1099511628211),
            IntKind.wrap IntKind.i64 (v6 + 1), ())
      else none
    else none
  else X2 (v1, v5, ())
noncomputable def lo_spec_Sum_6 : Nat → (ByteArray) → (Int) → (Int) → (Int) →  Option ((Int) × (Int) × Unit)
  | 0, _, _, _, _ => none
  | m + 1, v0, v1, v5, v6 => tr_spec_Sum_6  (fun d => lo_spec_Sum_6 m d.1 d.2.1 d.2.2.1 d.2.2.2.1) (fun d => some (d)) v0 v1 v5 v6
theorem na_spec_Sum_6 {R S : Type}  (NX : ((ByteArray) × (Int) × (Int) × (Int) × Unit) → Option R) (X2 : ((Int) × (Int) × Unit) → Option R) (v0 : ByteArray) (v1 : Int) (v5 : Int) (v6 : Int) (f : R → Option S) : tr_spec_Sum_6  (fun d => (NX d).bind f) (fun d => (X2 d).bind f) v0 v1 v5 v6 = (tr_spec_Sum_6  NX X2 v0 v1 v5 v6).bind f := by
  unfold tr_spec_Sum_6
  simp only [cond_bind, ite_bind, onSum_bind, Option.bind_assoc, Option.bind_none, Option.bind_some]
noncomputable def de_spec_Sum (a0 : ByteArray) (a1 : Int) : Option ((((ByteArray) × Unit) × (Unit))) :=
  Option.bind (bif decide (a1 ≥ 1) then some ((decide (a1 ≤ 8), ()), ()) else some ((false, ()), ())) fun val =>
    bif !val.fst.fst then some ((ByteArray.mk #[], ()), ())
    else Option.bind ((fun d => lo_spec_Sum_6 (fu_spec_Sum_6 d.1 d.2.1 d.2.2.1 d.2.2.2.1) d.1 d.2.1 d.2.2.1 d.2.2.2.1) (a0, a1, 14695981039346656037, 0, ())) fun val => Option.bind ((fun d => lo_spec_Sum_11 (fu_spec_Sum_11 d.1 d.2.1 d.2.2.1 d.2.2.2.1) d.1 d.2.1 d.2.2.1 d.2.2.2.1) (val.fst, val.snd.fst, ByteArray.mk #[], 0, ())) fun val => some ((val.fst, ()), ())
theorem spSum_loop : ∀ (k m i : Nat) (v : Int) (out : ByteArray), i + k ≤ 1000 → k < m → out.size = i → U64 v → lo_spec_Sum_11 m ((i + k : Nat) : Int) v out i = some (beS v k ++ out, ())
  | 0, m + 1, i, v, out, hi, hm, ho, hv => by
    simp only [lo_spec_Sum_11, tr_spec_Sum_11]
    rw [decide_eq_false (by omega), beS_zero]
    rfl
  | k + 1, m + 1, i, v, out, hi, hm, ho, hv => by
    have h0 := hv.1
    have h1 := hv.2
    simp only [lo_spec_Sum_11, tr_spec_Sum_11]
    have e1 : IntKind.wrap IntKind.u8 (Int.tmod v 256) = v % 256 := by
      rw [Int.tmod_eq_emod_of_nonneg h0]
      show v % 256 % 256 = v % 256
      omega
    have e2 : IntKind.wrap IntKind.u64 (Int.tdiv v 256) = v / 256 := by
      rw [Int.tdiv_eq_ediv_of_nonneg h0, wrapU]
      omega
    rw [decide_eq_true (show (i : Int) < ((i + (k + 1) : Nat) : Int) by omega), e1, e2, decide_eq_true (show ByteArray.size (strOfNums [v % 256]) + ByteArray.size out ≤ 9223372036854775807 by rw [ho, size_strOfNums]; simp; omega), wI (show i < 4611686018427387904 by omega)]
    have hL := spSum_loop k m (i + 1) (v / 256) (strOfNums [v % 256] ++ out) (by omega) (by omega) (by rw [ByteArray.size_append, ho, size_strOfNums]; simp; omega) ⟨by omega, by omega⟩
    rw [show i + 1 + k = i + (k + 1) by omega] at hL
    refine hL.trans ?_
    rw [← ByteArray.append_assoc, ← beS_succ]
theorem eq_spec_Sum (a0 : ByteArray) (a1 : Int) r (h : m_spec_Sum a0 a1 = some r) : de_spec_Sum a0 a1 = some ((r, ()), (())) := by
  unfold m_spec_Sum at h
  split at h
  rotate_left
  · cases h
  rename_i hsz
  cases h
  unfold de_spec_Sum sumS
  generalize hC : (14695981039346656037 : Int) = C
  have h0 : U64 C := by rw [← hC]; exact ⟨by decide, by decide⟩
  refine bi_ (wid a1) ?_
  show (bif !inB a1 1 8 then _ else _) = _
  cases hw : inB a1 1 8 with
  | false => rfl
  | true =>
    have k1 := of_decide_eq_true (and2 hw).1
    have k2 := of_decide_eq_true (and2 hw).2
    · simp only [Bool.not_true, cond_false, cond_true]
      have hL := up_loop a0.size (fun _ _ => True) (fun i h => hashStep h (byteAt a0 i)) (g := fun m i h => lo_spec_Sum_6 m a0 a1 h i) (ok := fun h => (a1, h, ())) (fun m i h hi _ => by
        show lo_spec_Sum_6 (m + 1) a0 a1 h i = _
        simp only [lo_spec_Sum_6, tr_spec_Sum_6]
        have c1 : (i : Int) < nI a0.size := by simp only [nI]; omega
        rw [decide_eq_true c1, cLe0, wI (show i < 4611686018427387904 by omega)]
        rfl) (fun m h _ => by
        show lo_spec_Sum_6 (m + 1) a0 a1 h a0.size = _
        simp only [lo_spec_Sum_6, tr_spec_Sum_6]
        rw [decide_eq_false (show ¬ ((a0.size : Int) < nI a0.size) by simp only [nI]; omega)]
        rfl) (fun _ _ _ _ => trivial) a0.size (fu_spec_Sum_6 a0 a1 C 0) 0 C (by omega) (by simp only [fu_spec_Sum_6, nI]; omega) trivial
      rw [show ((0 : Nat) : Int) = 0 from rfl] at hL
      refine bi_ hL ?_
      obtain ⟨n, rfl⟩ : ∃ n : Nat, a1 = (n : Int) := ⟨a1.toNat, by omega⟩
      have hM := spSum_loop n (fu_spec_Sum_11 n (hashGo a0 a0.size 0 C) (ByteArray.mk #[]) 0) 0 (hashGo a0 a0.size 0 C) (ByteArray.mk #[]) (by omega) (by simp only [fu_spec_Sum_11]; omega) rfl (hash_in a0 _ _ h0)
      rw [Nat.zero_add, app_z] at hM
      exact bi_ hM rfl
noncomputable def ou_spec_Sum_6 {R : Type} (k : Kt R) : ((Int) × (Int) × Unit) → Option R := (fun d => k (.exit 0) (((pa_spec_Sum 6).2 2).st d) (((pa_spec_Sum 6).2 2).nid))
noncomputable def ou_spec_Sum_11 {R : Type} (k : Kt R) : ((ByteArray) × Unit) → Option R := (fun d => k (.exit 2) (((pa_spec_Sum 11).2 4).st d) (((pa_spec_Sum 11).2 4).nid))
noncomputable def L_spec_Sum {R : Type} : Lt R pa_spec_Sum := (addL (pat := pa_spec_Sum) 6 (fun d k => (lo_spec_Sum_6 (fu_spec_Sum_6 d.1 d.2.1 d.2.2.1 d.2.2.2.1) d.1 d.2.1 d.2.2.1 d.2.2.2.1).bind (ou_spec_Sum_6 k)) (addL (pat := pa_spec_Sum) 11 (fun d k => (lo_spec_Sum_11 (fu_spec_Sum_11 d.1 d.2.1 d.2.2.1 d.2.2.2.1) d.1 d.2.1 d.2.2.1 d.2.2.2.1).bind (ou_spec_Sum_11 k)) noL))
theorem rd_spec_Sum_11 {R : Type} (nx : (pa_spec_Sum 11).1.D → Kt R → Option R) (k : Kt R) (v1 : Int) (v5 : Int) (v7 : ByteArray) (v8 : Int) : ev Try.prog ⟨ta_spec_Sum, 0, 40, pa_spec_Sum⟩ L_spec_Sum co_spec_Sum_11 ((pa_spec_Sum 11).1.st (v1, v5, v7, v8, ())) (pa_spec_Sum 11).1.nid (roundK 0 (pa_spec_Sum 11) nx k) = tr_spec_Sum_11  (fun d => nx d k) (fun d => k (.exit 2) (((pa_spec_Sum 11).2 4).st d) (((pa_spec_Sum 11).2 4).nid)) v1 v5 v7 v8 := by kernel_rfl
theorem lp_spec_Sum_11 {R : Type} : ∀ (m : Nat) (d : (pa_spec_Sum 11).1.D) (k : Kt R), loopN 0 (pa_spec_Sum 11) (fun s nid k => ev Try.prog ⟨ta_spec_Sum, 0, 40, pa_spec_Sum⟩ L_spec_Sum co_spec_Sum_11 s nid k) m d k = (lo_spec_Sum_11 m d.1 d.2.1 d.2.2.1 d.2.2.2.1).bind (ou_spec_Sum_11 k)
  | 0, _, _ => rfl
  | m + 1, ⟨v1, v5, v7, v8, ⟨⟩⟩, k => (rd_spec_Sum_11 _ k v1 v5 v7 v8).trans ((congrArg (fun F => tr_spec_Sum_11  F (fun d => k (.exit 2) (((pa_spec_Sum 11).2 4).st d) (((pa_spec_Sum 11).2 4).nid)) v1 v5 v7 v8) (funext fun d => lp_spec_Sum_11 m d k)).trans (na_spec_Sum_11 (f := ou_spec_Sum_11 k)  (fun d => lo_spec_Sum_11 m d.1 d.2.1 d.2.2.1 d.2.2.2.1) (fun d => some (d)) v1 v5 v7 v8))
theorem rd_spec_Sum_6 {R : Type} (nx : (pa_spec_Sum 6).1.D → Kt R → Option R) (k : Kt R) (v0 : ByteArray) (v1 : Int) (v5 : Int) (v6 : Int) : ev Try.prog ⟨ta_spec_Sum, 0, 40, pa_spec_Sum⟩ L_spec_Sum co_spec_Sum_6 ((pa_spec_Sum 6).1.st (v0, v1, v5, v6, ())) (pa_spec_Sum 6).1.nid (roundK 0 (pa_spec_Sum 6) nx k) = tr_spec_Sum_6  (fun d => nx d k) (fun d => k (.exit 0) (((pa_spec_Sum 6).2 2).st d) (((pa_spec_Sum 6).2 2).nid)) v0 v1 v5 v6 := by kernel_rfl
theorem lp_spec_Sum_6 {R : Type} : ∀ (m : Nat) (d : (pa_spec_Sum 6).1.D) (k : Kt R), loopN 0 (pa_spec_Sum 6) (fun s nid k => ev Try.prog ⟨ta_spec_Sum, 0, 40, pa_spec_Sum⟩ L_spec_Sum co_spec_Sum_6 s nid k) m d k = (lo_spec_Sum_6 m d.1 d.2.1 d.2.2.1 d.2.2.2.1).bind (ou_spec_Sum_6 k)
  | 0, _, _ => rfl
  | m + 1, ⟨v0, v1, v5, v6, ⟨⟩⟩, k => (rd_spec_Sum_6 _ k v0 v1 v5 v6).trans ((congrArg (fun F => tr_spec_Sum_6  F (fun d => k (.exit 0) (((pa_spec_Sum 6).2 2).st d) (((pa_spec_Sum 6).2 2).nid)) v0 v1 v5 v6) (funext fun d => lp_spec_Sum_6 m d k)).trans (na_spec_Sum_6 (f := ou_spec_Sum_6 k)  (fun d => lo_spec_Sum_6 m d.1 d.2.1 d.2.2.1 d.2.2.2.1) (fun d => some (d)) v0 v1 v5 v6))
theorem en_spec_Sum (a0 : ByteArray) (a1 : Int) : evalF Try.prog ta_spec_Sum pa_spec_Sum sg_spec_Sum Try.f57 L_spec_Sum (a0, a1, ()) = de_spec_Sum a0 a1 := by kernel_rfl
theorem si_spec_Sum : SigsOk Try.prog ta_spec_Sum := SigsOk.of fun f sd h => by
  try dsimp only [Tb.of, ta_spec_Sum] at h
  split at h
  · rename_i e; subst e; cases h; exact sn_spec_l1Width
  cases h
theorem lk_spec_Sum_11 {R : Type} : LoopOk Try.prog R 40 0 pa_spec_Sum L_spec_Sum co_spec_Sum_11 :=
  loop_key (cfg := ⟨ta_spec_Sum, 0, 40, pa_spec_Sum⟩) (key := 11) (by kernel_rfl) (by kernel_rfl) si_spec_Sum rfl rfl (fun d k r h => ⟨fu_spec_Sum_11 d.1 d.2.1 d.2.2.1 d.2.2.2.1, (lp_spec_Sum_11 _ d k).trans h⟩) (fun c hc => by rw [show loopsIn co_spec_Sum_11 = [] from by kernel_rfl] at hc; cases hc)
theorem lk_spec_Sum_6 {R : Type} : LoopOk Try.prog R 40 0 pa_spec_Sum L_spec_Sum co_spec_Sum_6 :=
  loop_key (cfg := ⟨ta_spec_Sum, 0, 40, pa_spec_Sum⟩) (key := 6) (by kernel_rfl) (by kernel_rfl) si_spec_Sum rfl rfl (fun d k r h => ⟨fu_spec_Sum_6 d.1 d.2.1 d.2.2.1 d.2.2.2.1, (lp_spec_Sum_6 _ d k).trans h⟩) (fun c hc => by rw [show loopsIn co_spec_Sum_6 = [] from by kernel_rfl] at hc; cases hc)
theorem sn_spec_Sum : Callable Try.prog 57 ∧ Sound Try.prog 57 sd_spec_Sum.sg sd_spec_Sum.den :=
  fn_loops (pat := pa_spec_Sum) L_spec_Sum (by kernel_rfl) si_spec_Sum Try.func57 (by kernel_rfl) (by kernel_rfl) (fun c hc => by rw [show loopsIn (bodyOf Try.f57) = [co_spec_Sum_6, co_spec_Sum_11] from by kernel_rfl] at hc; simp only [List.mem_cons, List.not_mem_nil, or_false] at hc; rcases hc with rfl | rfl <;> first | exact lk_spec_Sum_6 | exact lk_spec_Sum_11) fun x r h => by
    obtain ⟨a0, a1, ⟨⟩⟩ := x; obtain ⟨y, h1, h2⟩ := Option.bind_eq_some_iff.1 (show (m_spec_Sum a0 a1).bind (fun r => some ((r, ()), (()))) = some r from h); cases h2; exact (en_spec_Sum a0 a1).trans (eq_spec_Sum a0 a1 _ h1)
def m_spec_FormPage (p : Pg) (w : Int) : ByteArray := pageS p w
def fu_spec_FormPage_5 (v1 : Int) (v5 : ByteArray) : Nat := (64 - v1 - nI v5.size).toNat + 1
def sg_spec_FormPage : Sig := ⟨[.rd (.pair (.int .i64) (.pair (.int .i64) (.pair (.int .i64) (.pair .str .unit)))), .rd (.int .i64)], [some 4, none], [.rd .str], [none]⟩
noncomputable def sd_spec_FormPage : SD := ⟨sg_spec_FormPage, fun x => some (((m_spec_FormPage x.1 x.2.1), ()), (()))⟩
noncomputable def ta_spec_FormPage : Tb := Tb.of fun f => if f = 55 then some sd_spec_l1Ok else if f = 56 then some sd_spec_l1Number else if f = 57 then some sd_spec_Sum else none
def pa_spec_FormPage : Nat → Pat × (Nat → Pat) := fun k => if k = 5 then (⟨[], [(1, .lf (.d (.int .i64))), (5, .lf (.d .str))], []⟩, fun e => if e = 2 then ⟨[], [(1, .lf (.d (.int .i64))), (5, .lf (.d .str))], []⟩ else ⟨[], [], []⟩) else (⟨[], [], []⟩, fun _ => ⟨[], [], []⟩)
noncomputable def co_spec_FormPage_5 : Code := (loopsIn (bodyOf Try.f27)).getD 0 .skip
noncomputable def tr_spec_FormPage_5 {R : Type}  (NX : ((Int) × (ByteArray) × Unit) → Option R) (X2 : ((Int) × (ByteArray) × Unit) → Option R) (v1 : Int) (v5 : ByteArray) : Option R :=
  bif decide (IntKind.wrap IntKind.i64 (nI (ByteArray.size v5) + v1) < 64) then
    bif decide (ByteArray.size v5 + ByteArray.size (ByteArray.mk #[0]) ≤ 9223372036854775807) then NX (v1, v5 ++ ByteArray.mk #[0], ()) else none
  else X2 (v1, v5, ())
noncomputable def lo_spec_FormPage_5 : Nat → (Int) → (ByteArray) →  Option ((Int) × (ByteArray) × Unit)
  | 0, _, _ => none
  | m + 1, v1, v5 => tr_spec_FormPage_5  (fun d => lo_spec_FormPage_5 m d.1 d.2.1) (fun d => some (d)) v1 v5
theorem na_spec_FormPage_5 {R S : Type}  (NX : ((Int) × (ByteArray) × Unit) → Option R) (X2 : ((Int) × (ByteArray) × Unit) → Option R) (v1 : Int) (v5 : ByteArray) (f : R → Option S) : tr_spec_FormPage_5  (fun d => (NX d).bind f) (fun d => (X2 d).bind f) v1 v5 = (tr_spec_FormPage_5  NX X2 v1 v5).bind f := by
  unfold tr_spec_FormPage_5
  simp only [cond_bind, ite_bind, onSum_bind, Option.bind_assoc, Option.bind_none, Option.bind_some]
noncomputable def de_spec_FormPage (a0 : Int × Int × Int × ByteArray × Unit) (a1 : Int) : Option ((((ByteArray) × Unit) × (Unit))) :=
  bif !m_spec_l1Ok (a0.fst, a0.snd.fst, a0.snd.snd.fst, a0.snd.snd.snd.fst, ()) a1 then some ((ByteArray.mk #[], ()), ())
  else
    Option.bind (Option.bind (m_spec_l1Number a0.fst 1) fun val => some ((val, ()), ())) fun val =>
      Option.bind (Option.bind (m_spec_l1Number a0.snd.fst 2) fun val => some ((val, ()), ())) fun val_1 =>
        bif decide (ByteArray.size val.fst.fst + ByteArray.size val_1.fst.fst ≤ 9223372036854775807) then
          Option.bind (Option.bind (m_spec_l1Number a0.snd.snd.fst 4) fun val => some ((val, ()), ())) fun val_2 =>
            bif decide (ByteArray.size (val.fst.fst ++ val_1.fst.fst) + ByteArray.size val_2.fst.fst ≤ 9223372036854775807) then
              Option.bind (Option.bind (m_spec_l1Number (nI (ByteArray.size a0.snd.snd.snd.fst)) 1) fun val => some ((val, ()), ())) fun val_3 =>
                bif decide (ByteArray.size (val.fst.fst ++ val_1.fst.fst ++ val_2.fst.fst) + ByteArray.size val_3.fst.fst ≤ 9223372036854775807) then
                  bif decide (ByteArray.size (val.fst.fst ++ val_1.fst.fst ++ val_2.fst.fst ++ val_3.fst.fst) + ByteArray.size a0.snd.snd.snd.fst ≤ 9223372036854775807) then
                    Option.bind ((fun d => lo_spec_FormPage_5 (fu_spec_FormPage_5 d.1 d.2.1) d.1 d.2.1) (a1, val.fst.fst ++ val_1.fst.fst ++ val_2.fst.fst ++ val_3.fst.fst ++ a0.snd.snd.snd.fst, ())) fun val =>
                      Option.bind (Option.bind (m_spec_Sum val.snd.fst val.fst) fun val => some ((val, ()), ())) fun val_4 =>
                        bif decide (ByteArray.size val_4.fst.fst + ByteArray.size val.snd.fst ≤ 9223372036854775807) then some ((val_4.fst.fst ++ val.snd.fst, ()), ()) else none
                  else none
                else none
            else none
        else none
theorem pad_loop (w : Int) : ∀ (k m : Nat) (b : ByteArray), (b.size : Int) + w + k = 64 → 0 ≤ w → k < m → lo_spec_FormPage_5 m w b = some (w, b ++ strOfNums (List.replicate k 0), ())
  | 0, m + 1, b, h, h0, hm => by
    simp only [lo_spec_FormPage_5, tr_spec_FormPage_5]
    rw [wrap_ok (by simp only [nI]; omega) (by simp only [nI]; omega), decide_eq_false (show ¬ (nI b.size + w < 64) by simp only [nI]; omega), show strOfNums (List.replicate 0 0) = ByteArray.mk #[] from rfl, app_z]
    rfl
  | k + 1, m + 1, b, h, h0, hm => by
    simp only [lo_spec_FormPage_5, tr_spec_FormPage_5]
    have hz : (ByteArray.mk #[0]).size = 1 := rfl
    rw [wrap_ok (by simp only [nI]; omega) (by simp only [nI]; omega), decide_eq_true (show nI b.size + w < 64 by simp only [nI]; omega), hz, decide_eq_true (show b.size + 1 ≤ 9223372036854775807 by omega)]
    have := pad_loop w k m (b ++ ByteArray.mk #[0]) (by rw [ByteArray.size_append, hz]; omega) h0 (by omega)
    refine this.trans ?_
    rw [ByteArray.append_assoc, show ByteArray.mk #[0] = strOfNums [0] from rfl, ← strOfNums_app]
    rfl
theorem eq_spec_FormPage (a0 : Int × Int × Int × ByteArray × Unit) (a1 : Int) : de_spec_FormPage a0 a1 = some (((m_spec_FormPage a0 a1), ()), (())) := by
  unfold de_spec_FormPage m_spec_FormPage pageS
  show (bif !pageOk a0 a1 then _ else _) = _
  cases hp : pageOk a0 a1 with
  | false => rfl
  | true =>
    obtain ⟨hw, k1, k2, kp⟩ := pageOk_w hp
    obtain ⟨r1, r2, r3⟩ := pageOk_r hp
    have n1 : m_spec_l1Number a0.1 1 = some (beS a0.1 1) := (me_spec_l1Number _ _).trans (if_pos (by omega))
    have n2 : m_spec_l1Number a0.2.1 2 = some (beS a0.2.1 2) := (me_spec_l1Number _ _).trans (if_pos (by omega))
    have n3 : m_spec_l1Number a0.2.2.1 4 = some (beS a0.2.2.1 4) := (me_spec_l1Number _ _).trans (if_pos (by omega))
    have n4 : m_spec_l1Number (nI a0.2.2.2.1.size) 1 = some (beS (nI a0.2.2.2.1.size) 1) := (me_spec_l1Number _ _).trans (if_pos (by simp only [nI]; omega))
    simp only [Bool.not_true, cond_false, cond_true, n1, n2, n3, n4, Option.bind_some]
    have hb : bodyS a0 a1 = beS a0.1 1 ++ beS a0.2.1 2 ++ beS a0.2.2.1 4 ++ beS (nI a0.2.2.2.1.size) 1 ++ a0.2.2.2.1 ++ strOfNums (List.replicate (56 - a1 - a0.2.2.2.1.size).toNat 0) := rfl
    have hs4 : (beS a0.1 1 ++ beS a0.2.1 2 ++ beS a0.2.2.1 4 ++ beS (nI a0.2.2.2.1.size) 1).size = 8 := by simp only [ByteArray.size_append, beS_size]
    have hs3 : (beS a0.1 1 ++ beS a0.2.1 2 ++ beS a0.2.2.1 4).size = 7 := by simp only [ByteArray.size_append, beS_size]
    have hs2 : (beS a0.1 1 ++ beS a0.2.1 2).size = 3 := by simp only [ByteArray.size_append, beS_size]
    have hs5 : (beS a0.1 1 ++ beS a0.2.1 2 ++ beS a0.2.2.1 4 ++ beS (nI a0.2.2.2.1.size) 1 ++ a0.2.2.2.1).size = 8 + a0.2.2.2.1.size := by rw [ByteArray.size_append, hs4]
    rw [hs4, hs3, hs2, beS_size, beS_size, beS_size, beS_size, decide_eq_true (show 1 + 2 ≤ 9223372036854775807 by decide), decide_eq_true (show 3 + 4 ≤ 9223372036854775807 by decide), decide_eq_true (show 7 + 1 ≤ 9223372036854775807 by decide), decide_eq_true (show 8 + a0.2.2.2.1.size ≤ 9223372036854775807 by omega)]
    simp only [cond_true]
    generalize hB : beS a0.1 1 ++ beS a0.2.1 2 ++ beS a0.2.2.1 4 ++ beS (nI a0.2.2.2.1.size) 1 ++ a0.2.2.2.1 = B at *
    have hL := pad_loop a1 (56 - a1 - a0.2.2.2.1.size).toNat (fu_spec_FormPage_5 a1 B) B (by rw [hs5]; omega) (by omega) (by simp only [fu_spec_FormPage_5, nI, hs5]; omega)
    have hz : (strOfNums (List.replicate (56 - a1 - a0.2.2.2.1.size).toNat 0)).size = (56 - a1 - a0.2.2.2.1.size).toNat := by rw [size_strOfNums, List.length_replicate]
    rw [← hb] at hL
    have hbs : (bodyS a0 a1).size ≤ 64 := by rw [hb, ByteArray.size_append, hs5, hz]; omega
    have hm : m_spec_Sum (bodyS a0 a1) a1 = some (sumS (bodyS a0 a1) a1) := if_pos (by omega)
    refine bi_ hL (bi_ (bi_ hm rfl) ?_)
    show (bif decide (ByteArray.size (sumS (bodyS a0 a1) a1) + ByteArray.size (bodyS a0 a1) ≤ 9223372036854775807) then some ((sumS (bodyS a0 a1) a1 ++ bodyS a0 a1, ()), ()) else none) = _
    rw [sumS_size hw, decide_eq_true (by omega)]
    rfl
noncomputable def ou_spec_FormPage_5 {R : Type} (k : Kt R) : ((Int) × (ByteArray) × Unit) → Option R := (fun d => k (.exit 0) (((pa_spec_FormPage 5).2 2).st d) (((pa_spec_FormPage 5).2 2).nid))
noncomputable def L_spec_FormPage {R : Type} : Lt R pa_spec_FormPage := (addL (pat := pa_spec_FormPage) 5 (fun d k => (lo_spec_FormPage_5 (fu_spec_FormPage_5 d.1 d.2.1) d.1 d.2.1).bind (ou_spec_FormPage_5 k)) noL)
theorem rd_spec_FormPage_5 {R : Type} (nx : (pa_spec_FormPage 5).1.D → Kt R → Option R) (k : Kt R) (v1 : Int) (v5 : ByteArray) : ev Try.prog ⟨ta_spec_FormPage, 0, 41, pa_spec_FormPage⟩ L_spec_FormPage co_spec_FormPage_5 ((pa_spec_FormPage 5).1.st (v1, v5, ())) (pa_spec_FormPage 5).1.nid (roundK 0 (pa_spec_FormPage 5) nx k) = tr_spec_FormPage_5  (fun d => nx d k) (fun d => k (.exit 0) (((pa_spec_FormPage 5).2 2).st d) (((pa_spec_FormPage 5).2 2).nid)) v1 v5 := by kernel_rfl
theorem lp_spec_FormPage_5 {R : Type} : ∀ (m : Nat) (d : (pa_spec_FormPage 5).1.D) (k : Kt R), loopN 0 (pa_spec_FormPage 5) (fun s nid k => ev Try.prog ⟨ta_spec_FormPage, 0, 41, pa_spec_FormPage⟩ L_spec_FormPage co_spec_FormPage_5 s nid k) m d k = (lo_spec_FormPage_5 m d.1 d.2.1).bind (ou_spec_FormPage_5 k)
  | 0, _, _ => rfl
  | m + 1, ⟨v1, v5, ⟨⟩⟩, k => (rd_spec_FormPage_5 _ k v1 v5).trans ((congrArg (fun F => tr_spec_FormPage_5  F (fun d => k (.exit 0) (((pa_spec_FormPage 5).2 2).st d) (((pa_spec_FormPage 5).2 2).nid)) v1 v5) (funext fun d => lp_spec_FormPage_5 m d k)).trans (na_spec_FormPage_5 (f := ou_spec_FormPage_5 k)  (fun d => lo_spec_FormPage_5 m d.1 d.2.1) (fun d => some (d)) v1 v5))
theorem en_spec_FormPage (a0 : Int × Int × Int × ByteArray × Unit) (a1 : Int) : evalF Try.prog ta_spec_FormPage pa_spec_FormPage sg_spec_FormPage Try.f27 L_spec_FormPage (a0, a1, ()) = de_spec_FormPage a0 a1 := by kernel_rfl
theorem si_spec_FormPage : SigsOk Try.prog ta_spec_FormPage := SigsOk.of fun f sd h => by
  try dsimp only [Tb.of, ta_spec_FormPage] at h
  split at h
  · rename_i e; subst e; cases h; exact sn_spec_l1Ok
  split at h
  · rename_i e; subst e; cases h; exact sn_spec_l1Number
  split at h
  · rename_i e; subst e; cases h; exact sn_spec_Sum
  cases h
theorem lk_spec_FormPage_5 {R : Type} : LoopOk Try.prog R 41 0 pa_spec_FormPage L_spec_FormPage co_spec_FormPage_5 :=
  loop_key (cfg := ⟨ta_spec_FormPage, 0, 41, pa_spec_FormPage⟩) (key := 5) (by kernel_rfl) (by kernel_rfl) si_spec_FormPage rfl rfl (fun d k r h => ⟨fu_spec_FormPage_5 d.1 d.2.1, (lp_spec_FormPage_5 _ d k).trans h⟩) (fun c hc => by rw [show loopsIn co_spec_FormPage_5 = [] from by kernel_rfl] at hc; cases hc)
theorem sn_spec_FormPage : Callable Try.prog 27 ∧ Sound Try.prog 27 sd_spec_FormPage.sg sd_spec_FormPage.den :=
  fn_loops (pat := pa_spec_FormPage) L_spec_FormPage (by kernel_rfl) si_spec_FormPage Try.func27 (by kernel_rfl) (by kernel_rfl) (fun c hc => by rw [show loopsIn (bodyOf Try.f27) = [co_spec_FormPage_5] from by kernel_rfl] at hc; simp only [List.mem_cons, List.not_mem_nil, or_false] at hc; rcases hc with rfl <;> first | exact lk_spec_FormPage_5) fun x r h => by
    obtain ⟨a0, a1, ⟨⟩⟩ := x; rw [← h]; exact (en_spec_FormPage a0 a1).trans (eq_spec_FormPage a0 a1)
def m_spec_Cut (e : ByteArray) (life first w : Int) : Option (List ByteArray) := if e.size ≤ 1048576 then some (cutS e life first w) else none
def fu_spec_Cut_9 (v1 v2 v3 : Int) (v10 : List ByteArray) (v11 : Int) (r0 : List ByteArray) : Nat := (nI v10.length - v11).toNat + 1
def sg_spec_Cut : Sig := ⟨[.rd .str, .rd (.int .i64), .rd (.int .i64), .rd (.int .i64)], [none, none, none, none], [.own 9 .str], [none]⟩
noncomputable def sd_spec_Cut : SD := ⟨sg_spec_Cut, fun x => (m_spec_Cut x.1 x.2.1 x.2.2.1 x.2.2.2.1).bind fun r => some ((r, ()), (()))⟩
noncomputable def ta_spec_Cut : Tb := Tb.of fun f => if f = 25 then some sd_spec_l1Width else if f = 26 then some sd_spec_l3Parts else if f = 27 then some sd_spec_FormPage else none
def pa_spec_Cut : Nat → Pat × (Nat → Pat) := fun k => if k = 9 then (⟨[.row 9 0 9 .str, .sl 10 0 .str], [(1, .lf (.d (.int .i64))), (2, .lf (.d (.int .i64))), (3, .lf (.d (.int .i64))), (9, .lf (.row 0)), (10, .lf (.d (.sl .str))), (11, .lf (.d (.int .i64)))], [.row 9 .str]⟩, fun e => if e = 2 then ⟨[.row 9 0 9 .str], [(9, .lf (.row 0))], [.row 9 .str]⟩ else ⟨[], [], []⟩) else (⟨[], [], []⟩, fun _ => ⟨[], [], []⟩)
noncomputable def co_spec_Cut_9 : Code := (loopsIn (bodyOf Try.f6)).getD 0 .skip
noncomputable def tr_spec_Cut_9 {R : Type}  (NX : ((Int) × (Int) × (Int) × (List ByteArray) × (Int) × (List ByteArray) × Unit) → Option R) (X2 : ((List ByteArray) × Unit) → Option R) (v1 : Int) (v2 : Int) (v3 : Int) (v10 : List ByteArray) (v11 : Int) (r0 : List ByteArray) : Option R :=
  bif decide (v11 < nI (List.length v10)) then
    bif v11 == IntKind.wrap IntKind.i64 (nI (List.length v10) - 1) then
      bif decide (0 ≤ v11) then
        bif decide (v11 < nI (List.length v10)) then
          bif decide ((List.length r0 + List.length [m_spec_FormPage (2, v1, IntKind.wrap IntKind.i64 (v2 + v11), List.getD v10 (Int.toNat v11) (ByteArray.mk #[]), ()) v3]) * 16 ≤ 140737488355328) then
            NX (v1, v2, v3, v10, IntKind.wrap IntKind.i64 (v11 + 1), r0 ++ [m_spec_FormPage (2, v1, IntKind.wrap IntKind.i64 (v2 + v11), List.getD v10 (Int.toNat v11) (ByteArray.mk #[]), ()) v3], ())
          else none
        else none
      else none
    else
      bif decide (0 ≤ v11) then
        bif decide (v11 < nI (List.length v10)) then
          bif decide ((List.length r0 + List.length [m_spec_FormPage (1, v1, IntKind.wrap IntKind.i64 (v2 + v11), List.getD v10 (Int.toNat v11) (ByteArray.mk #[]), ()) v3]) * 16 ≤ 140737488355328) then
            NX (v1, v2, v3, v10, IntKind.wrap IntKind.i64 (v11 + 1), r0 ++ [m_spec_FormPage (1, v1, IntKind.wrap IntKind.i64 (v2 + v11), List.getD v10 (Int.toNat v11) (ByteArray.mk #[]), ()) v3], ())
          else none
        else none
      else none
  else X2 (r0, ())
noncomputable def lo_spec_Cut_9 : Nat → (Int) → (Int) → (Int) → (List ByteArray) → (Int) → (List ByteArray) →  Option ((List ByteArray) × Unit)
  | 0, _, _, _, _, _, _ => none
  | m + 1, v1, v2, v3, v10, v11, r0 => tr_spec_Cut_9  (fun d => lo_spec_Cut_9 m d.1 d.2.1 d.2.2.1 d.2.2.2.1 d.2.2.2.2.1 d.2.2.2.2.2.1) (fun d => some (d)) v1 v2 v3 v10 v11 r0
theorem na_spec_Cut_9 {R S : Type}  (NX : ((Int) × (Int) × (Int) × (List ByteArray) × (Int) × (List ByteArray) × Unit) → Option R) (X2 : ((List ByteArray) × Unit) → Option R) (v1 : Int) (v2 : Int) (v3 : Int) (v10 : List ByteArray) (v11 : Int) (r0 : List ByteArray) (f : R → Option S) : tr_spec_Cut_9  (fun d => (NX d).bind f) (fun d => (X2 d).bind f) v1 v2 v3 v10 v11 r0 = (tr_spec_Cut_9  NX X2 v1 v2 v3 v10 v11 r0).bind f := by
  unfold tr_spec_Cut_9
  simp only [cond_bind, ite_bind, onSum_bind, Option.bind_assoc, Option.bind_none, Option.bind_some]
noncomputable def de_spec_Cut (a0 : ByteArray) (a1 : Int) (a2 : Int) (a3 : Int) : Option ((((List ByteArray) × Unit) × (Unit))) :=
  Option.bind (bif decide (a3 ≥ 1) then some ((decide (a3 ≤ 8), ()), ()) else some ((false, ()), ())) fun val =>
    bif !val.fst.fst then some (([], ()), ())
    else
      bif decide (a1 < 1) then some (([], ()), ())
      else
        bif decide (a1 > 60000) then some (([], ()), ())
        else
          bif decide (a2 < 1) then some (([], ()), ())
          else
            bif decide (a2 > 1000000000) then some (([], ()), ())
            else
              Option.bind (Option.bind (m_spec_l3Parts a0 a3) fun val => some ((val, ()), ())) fun val =>
                bif decide (nI (List.length val.fst.fst) > IntKind.wrap IntKind.i64 (IntKind.wrap IntKind.i64 (1000000000 - a2) + 1)) then some (([], ()), ())
                else Option.bind ((fun d => lo_spec_Cut_9 (fu_spec_Cut_9 d.1 d.2.1 d.2.2.1 d.2.2.2.1 d.2.2.2.2.1 d.2.2.2.2.2.1) d.1 d.2.1 d.2.2.1 d.2.2.2.1 d.2.2.2.2.1 d.2.2.2.2.2.1) (a1, a2, a3, val.fst.fst, 0, [], ())) fun val => some ((val.fst, ()), ())
theorem eq_spec_Cut (a0 : ByteArray) (a1 : Int) (a2 : Int) (a3 : Int) r (h : m_spec_Cut a0 a1 a2 a3 = some r) : de_spec_Cut a0 a1 a2 a3 = some ((r, ()), (())) := by
  unfold m_spec_Cut at h
  split at h
  rotate_left
  · cases h
  rename_i hc
  cases h
  unfold de_spec_Cut cutS
  refine bi_ (wid a3) ?_
  rw [inB_lt a1]
  show (bif !inB a3 1 8 then _ else (bif inB a1 1 60000 then _ else _)) = _
  cases hw : inB a3 1 8 with
  | false => rfl
  | true =>
    obtain ⟨k1, k2⟩ := inB_r hw
    have hp := pages_same (s := a0) hw
    have hP : pagesN a0.size a3 = ((partsS a0 a3).length : Int) := by unfold pagesN; rw [hw]; exact hp.symm
    have hlen : (partsS a0 a3).length ≤ a0.size + 1 := parts_count _ _ _
    have h1 : 1 ≤ (partsS a0 a3).length := by
      have : (1 : Int) ≤ ((partsS a0 a3).length : Int) := by rw [hp]; split <;> omega
      omega
    have n1 : m_spec_l3Parts a0 a3 = some (partsS a0 a3) := if_pos ⟨by omega, k1, k2⟩
    rw [hP]
    cases hl : inB a1 1 60000 with
    | false => rfl
    | true =>
      by_cases q1 : a2 < 1
      · rw [decide_eq_true q1, decide_eq_false (show ¬ 1 ≤ a2 by omega)]; rfl
      · rw [decide_eq_false q1, decide_eq_true (show 1 ≤ a2 by omega)]
        by_cases q0 : a2 > 1000000000
        · rw [decide_eq_true q0, decide_eq_false (show ¬ a2 ≤ 1000000000 - ((partsS a0 a3).length : Int) + 1 by omega)]; rfl
        · rw [decide_eq_false q0]
          refine bi_ (bi_ n1 rfl) ?_
          show (bif decide (nI (partsS a0 a3).length > IntKind.wrap IntKind.i64 (IntKind.wrap IntKind.i64 (1000000000 - a2) + 1)) then _ else (Option.bind (lo_spec_Cut_9 (fu_spec_Cut_9 a1 a2 a3 (partsS a0 a3) 0 []) a1 a2 a3 (partsS a0 a3) 0 []) _)) = _
          rw [wrap_ok (n := 1000000000 - a2) (by omega) (by omega), wrap_ok (n := 1000000000 - a2 + 1) (by omega) (by omega)]
          simp only [nI]
          by_cases q2 : a2 > 1000000000 - ((partsS a0 a3).length : Int) + 1
          · rw [decide_eq_true (show ((partsS a0 a3).length : Int) > 1000000000 - a2 + 1 by omega), decide_eq_false (show ¬ a2 ≤ 1000000000 - ((partsS a0 a3).length : Int) + 1 by omega)]; rfl
          · rw [decide_eq_false (show ¬ ((partsS a0 a3).length : Int) > 1000000000 - a2 + 1 by omega), decide_eq_true (show a2 ≤ 1000000000 - ((partsS a0 a3).length : Int) + 1 by omega)]
            generalize partsS a0 a3 = P at *
            have hL := up_loop P.length (fun i r => r.length = i) (fun i r => r ++ [pageS ((if i + 1 = P.length then 2 else 1), a1, a2 + (i : Int), P.getD i z0, ()) a3]) (g := fun m i r => lo_spec_Cut_9 m a1 a2 a3 P i r) (ok := fun r => (r, ())) (fun m i r hi hr => by
              show lo_spec_Cut_9 (m + 1) a1 a2 a3 P i r = _
              simp only [lo_spec_Cut_9, tr_spec_Cut_9]
              rw [cLt hi, cLe0, wI (show i < 4611686018427387904 by omega), Int.toNat_natCast, wrap_ok (n := a2 + (i : Int)) (by omega) (by omega), wrap_ok (n := nI P.length - 1) (by simp only [nI]; omega) (by simp only [nI]; omega), List.length_singleton, List.length_singleton, decide_eq_true (show (r.length + 1) * 16 ≤ 140737488355328 by omega)]
              by_cases e : i + 1 = P.length
              · rw [show ((i : Int) == nI P.length - 1) = true from beq_iff_eq.2 (by simp only [nI]; omega), if_pos e]; rfl
              · rw [show ((i : Int) == nI P.length - 1) = false from beq_eq_false_iff_ne.2 (by simp only [nI]; omega), if_neg e]; rfl) (fun m r _ => by
              show lo_spec_Cut_9 (m + 1) a1 a2 a3 P (P.length : Int) r = _
              simp only [lo_spec_Cut_9, tr_spec_Cut_9]
              rw [cLtF]
              rfl) (fun i r hi hr => by rw [List.length_append, List.length_singleton, hr]) P.length (fu_spec_Cut_9 a1 a2 a3 P 0 []) 0 [] (by omega) (by simp only [fu_spec_Cut_9, nI]; omega) rfl
            rw [iter_catI (fun i => pageS ((if i + 1 = P.length then 2 else 1), a1, a2 + (i : Int), P.getD i z0, ()) a3), List.nil_append, ← cutGo_range] at hL
            exact bi_ hL rfl
noncomputable def ou_spec_Cut_9 {R : Type} (k : Kt R) : ((List ByteArray) × Unit) → Option R := (fun d => k (.exit 0) (((pa_spec_Cut 9).2 2).st d) (((pa_spec_Cut 9).2 2).nid))
noncomputable def L_spec_Cut {R : Type} : Lt R pa_spec_Cut := (addL (pat := pa_spec_Cut) 9 (fun d k => (lo_spec_Cut_9 (fu_spec_Cut_9 d.1 d.2.1 d.2.2.1 d.2.2.2.1 d.2.2.2.2.1 d.2.2.2.2.2.1) d.1 d.2.1 d.2.2.1 d.2.2.2.1 d.2.2.2.2.1 d.2.2.2.2.2.1).bind (ou_spec_Cut_9 k)) noL)
theorem rd_spec_Cut_9 {R : Type} (nx : (pa_spec_Cut 9).1.D → Kt R → Option R) (k : Kt R) (v1 : Int) (v2 : Int) (v3 : Int) (v10 : List ByteArray) (v11 : Int) (r0 : List ByteArray) : ev Try.prog ⟨ta_spec_Cut, 0, 71, pa_spec_Cut⟩ L_spec_Cut co_spec_Cut_9 ((pa_spec_Cut 9).1.st (v1, v2, v3, v10, v11, r0, ())) (pa_spec_Cut 9).1.nid (roundK 0 (pa_spec_Cut 9) nx k) = tr_spec_Cut_9  (fun d => nx d k) (fun d => k (.exit 0) (((pa_spec_Cut 9).2 2).st d) (((pa_spec_Cut 9).2 2).nid)) v1 v2 v3 v10 v11 r0 := by kernel_rfl
theorem lp_spec_Cut_9 {R : Type} : ∀ (m : Nat) (d : (pa_spec_Cut 9).1.D) (k : Kt R), loopN 0 (pa_spec_Cut 9) (fun s nid k => ev Try.prog ⟨ta_spec_Cut, 0, 71, pa_spec_Cut⟩ L_spec_Cut co_spec_Cut_9 s nid k) m d k = (lo_spec_Cut_9 m d.1 d.2.1 d.2.2.1 d.2.2.2.1 d.2.2.2.2.1 d.2.2.2.2.2.1).bind (ou_spec_Cut_9 k)
  | 0, _, _ => rfl
  | m + 1, ⟨v1, v2, v3, v10, v11, r0, ⟨⟩⟩, k => (rd_spec_Cut_9 _ k v1 v2 v3 v10 v11 r0).trans ((congrArg (fun F => tr_spec_Cut_9  F (fun d => k (.exit 0) (((pa_spec_Cut 9).2 2).st d) (((pa_spec_Cut 9).2 2).nid)) v1 v2 v3 v10 v11 r0) (funext fun d => lp_spec_Cut_9 m d k)).trans (na_spec_Cut_9 (f := ou_spec_Cut_9 k)  (fun d => lo_spec_Cut_9 m d.1 d.2.1 d.2.2.1 d.2.2.2.1 d.2.2.2.2.1 d.2.2.2.2.2.1) (fun d => some (d)) v1 v2 v3 v10 v11 r0))
theorem en_spec_Cut (a0 : ByteArray) (a1 : Int) (a2 : Int) (a3 : Int) : evalF Try.prog ta_spec_Cut pa_spec_Cut sg_spec_Cut Try.f6 L_spec_Cut (a0, a1, a2, a3, ()) = de_spec_Cut a0 a1 a2 a3 := by kernel_rfl
theorem si_spec_Cut : SigsOk Try.prog ta_spec_Cut := SigsOk.of fun f sd h => by
  try dsimp only [Tb.of, ta_spec_Cut] at h
  split at h
  · rename_i e; subst e; cases h; exact sn_spec_l1Width
  split at h
  · rename_i e; subst e; cases h; exact sn_spec_l3Parts
  split at h
  · rename_i e; subst e; cases h; exact sn_spec_FormPage
  cases h
theorem lk_spec_Cut_9 {R : Type} : LoopOk Try.prog R 71 0 pa_spec_Cut L_spec_Cut co_spec_Cut_9 :=
  loop_key (cfg := ⟨ta_spec_Cut, 0, 71, pa_spec_Cut⟩) (key := 9) (by kernel_rfl) (by kernel_rfl) si_spec_Cut rfl rfl (fun d k r h => ⟨fu_spec_Cut_9 d.1 d.2.1 d.2.2.1 d.2.2.2.1 d.2.2.2.2.1 d.2.2.2.2.2.1, (lp_spec_Cut_9 _ d k).trans h⟩) (fun c hc => by rw [show loopsIn co_spec_Cut_9 = [] from by kernel_rfl] at hc; cases hc)
theorem sn_spec_Cut : Callable Try.prog 6 ∧ Sound Try.prog 6 sd_spec_Cut.sg sd_spec_Cut.den :=
  fn_loops (pat := pa_spec_Cut) L_spec_Cut (by kernel_rfl) si_spec_Cut Try.func6 (by kernel_rfl) (by kernel_rfl) (fun c hc => by rw [show loopsIn (bodyOf Try.f6) = [co_spec_Cut_9] from by kernel_rfl] at hc; simp only [List.mem_cons, List.not_mem_nil, or_false] at hc; rcases hc with rfl <;> first | exact lk_spec_Cut_9) fun x r h => by
    obtain ⟨a0, a1, a2, a3, ⟨⟩⟩ := x; obtain ⟨y, h1, h2⟩ := Option.bind_eq_some_iff.1 (show (m_spec_Cut a0 a1 a2 a3).bind (fun r => some ((r, ()), (()))) = some r from h); cases h2; exact (en_spec_Cut a0 a1 a2 a3).trans (eq_spec_Cut a0 a1 a2 a3 _ h1)
def m_impl_in (v lo hi : Int) : Bool := inB v lo hi
def sg_impl_in : Sig := ⟨[.rd (.int .i64), .rd (.int .i64), .rd (.int .i64)], [none, none, none], [.rd .bool], [none]⟩
noncomputable def sd_impl_in : SD := ⟨sg_impl_in, fun x => some (((m_impl_in x.1 x.2.1 x.2.2.1), ()), (()))⟩
noncomputable def ta_impl_in : Tb := Tb.of fun f => none
def pa_impl_in : Nat → Pat × (Nat → Pat) := fun k => (⟨[], [], []⟩, fun _ => ⟨[], [], []⟩)
noncomputable def de_impl_in (a0 : Int) (a1 : Int) (a2 : Int) : Option ((((Bool) × Unit) × (Unit))) :=
  bif decide (a0 ≥ a1) then some ((decide (a0 ≤ a2), ()), ()) else some ((false, ()), ())
theorem eq_impl_in (a0 a1 a2 : Int) : de_impl_in a0 a1 a2 = some ((m_impl_in a0 a1 a2, ()), ()) := by
  unfold de_impl_in m_impl_in inB
  by_cases h : a0 ≥ a1
  · have : decide (a1 ≤ a0) = true := by simpa using h
    simp [h, this]
  · have : decide (a1 ≤ a0) = false := by simpa using h
    simp [h, this]
theorem en_impl_in (a0 : Int) (a1 : Int) (a2 : Int) : evalF Try.prog ta_impl_in pa_impl_in sg_impl_in Try.f29 noL (a0, a1, a2, ()) = de_impl_in a0 a1 a2 := by kernel_rfl
theorem si_impl_in : SigsOk Try.prog ta_impl_in := SigsOk.of fun f sd h => by
  try dsimp only [Tb.of, ta_impl_in] at h
  cases h
theorem sn_impl_in : Callable Try.prog 29 ∧ Sound Try.prog 29 sd_impl_in.sg sd_impl_in.den :=
  fn_plain (pat := pa_impl_in) (by kernel_rfl) si_impl_in Try.func29 (by kernel_rfl) (by kernel_rfl) (by kernel_rfl) fun x r h => by
    obtain ⟨a0, a1, a2, ⟨⟩⟩ := x; rw [← h]; exact (en_impl_in a0 a1 a2).trans (eq_impl_in a0 a1 a2)
def sg_impl_room : Sig := ⟨[.rd (.int .i64)], [none], [.rd (.int .i64)], [none]⟩
noncomputable def ta_impl_room : Tb := Tb.of fun f => none
def pa_impl_room : Nat → Pat × (Nat → Pat) := fun k => (⟨[], [], []⟩, fun _ => ⟨[], [], []⟩)
noncomputable def de_impl_room (a0 : Int) : Option ((((Int) × Unit) × (Unit))) :=
  some ((IntKind.wrap IntKind.i64 (IntKind.wrap IntKind.i64 (64 - a0) - 8), ()), ())
noncomputable def sd_impl_room : SD := ⟨sg_impl_room, fun x => de_impl_room x.1⟩
theorem en_impl_room (a0 : Int) : evalF Try.prog ta_impl_room pa_impl_room sg_impl_room Try.f30 noL (a0, ()) = de_impl_room a0 := by kernel_rfl
theorem si_impl_room : SigsOk Try.prog ta_impl_room := SigsOk.of fun f sd h => by
  try dsimp only [Tb.of, ta_impl_room] at h
  cases h
theorem sn_impl_room : Callable Try.prog 30 ∧ Sound Try.prog 30 sd_impl_room.sg sd_impl_room.den :=
  fn_plain (pat := pa_impl_room) (by kernel_rfl) si_impl_room Try.func30 (by kernel_rfl) (by kernel_rfl) (by kernel_rfl) fun x r h => by
    obtain ⟨a0, ⟨⟩⟩ := x; exact (en_impl_room a0).trans h
def m_impl_Pages (s : ByteArray) (w : Int) : Option Int := if s.size ≤ 1099511627776 then some (pagesN s.size w) else none
def sg_impl_Pages : Sig := ⟨[.rd .str, .rd (.int .i64)], [none, none], [.rd (.int .i64)], [none]⟩
noncomputable def sd_impl_Pages : SD := ⟨sg_impl_Pages, fun x => (m_impl_Pages x.1 x.2.1).bind fun r => some ((r, ()), (()))⟩
noncomputable def ta_impl_Pages : Tb := Tb.of fun f => if f = 29 then some sd_impl_in else if f = 30 then some sd_impl_room else none
def pa_impl_Pages : Nat → Pat × (Nat → Pat) := fun k => (⟨[], [], []⟩, fun _ => ⟨[], [], []⟩)
noncomputable def de_impl_Pages (a0 : ByteArray) (a1 : Int) : Option ((((Int) × Unit) × (Unit))) :=
  bif !m_impl_in a1 1 8 then some ((0, ()), ())
  else
    bif !decide (IntKind.wrap IntKind.i64 (IntKind.wrap IntKind.i64 (64 - a1) - 8) = 0) then
      some
        ((if
                IntKind.wrap IntKind.i64
                    (Int.tdiv (IntKind.wrap IntKind.i64 (IntKind.wrap IntKind.i64 (nI (ByteArray.size a0) + IntKind.wrap IntKind.i64 (IntKind.wrap IntKind.i64 (64 - a1) - 8)) - 1))
                      (IntKind.wrap IntKind.i64 (IntKind.wrap IntKind.i64 (64 - a1) - 8))) >
                  1 then
              IntKind.wrap IntKind.i64
                (Int.tdiv (IntKind.wrap IntKind.i64 (IntKind.wrap IntKind.i64 (nI (ByteArray.size a0) + IntKind.wrap IntKind.i64 (IntKind.wrap IntKind.i64 (64 - a1) - 8)) - 1))
                  (IntKind.wrap IntKind.i64 (IntKind.wrap IntKind.i64 (64 - a1) - 8)))
            else 1,
            ()),
          ())
    else none
theorem eq_impl_Pages (a0 : ByteArray) (a1 : Int) r (h : m_impl_Pages a0 a1 = some r) : de_impl_Pages a0 a1 = some ((r, ()), (())) := by
  unfold m_impl_Pages at h
  split at h
  · rename_i hc
    cases h
    unfold de_impl_Pages pagesN
    show (bif !inB a1 1 8 then _ else _) = _
    cases hw : inB a1 1 8 with
    | false => rfl
    | true =>
      have k1 := (inB_r hw).1
      have k2 := (inB_r hw).2
      have hq : 0 ≤ ((a0.size : Int) + (56 - a1) - 1) / (56 - a1) := Int.ediv_nonneg (by omega) (by omega)
      have hq2 : ((a0.size : Int) + (56 - a1) - 1) / (56 - a1) ≤ (a0.size : Int) + (56 - a1) - 1 := Int.ediv_le_self _ (by omega)
      rw [wrap_ok (n := 64 - a1) (by omega) (by omega), wrap_ok (n := 64 - a1 - 8) (by omega) (by omega), show 64 - a1 - 8 = 56 - a1 by omega]
      simp only [nI]
      rw [wrap_ok (n := (a0.size : Int) + (56 - a1)) (by omega) (by omega), wrap_ok (n := (a0.size : Int) + (56 - a1) - 1) (by omega) (by omega), Int.tdiv_eq_ediv_of_nonneg (by omega), wrap_ok (n := ((a0.size : Int) + (56 - a1) - 1) / (56 - a1)) (by omega) (by omega), decide_eq_false (show ¬ (56 - a1 = 0) by omega)]
      rfl
  · cases h
theorem en_impl_Pages (a0 : ByteArray) (a1 : Int) : evalF Try.prog ta_impl_Pages pa_impl_Pages sg_impl_Pages Try.f28 noL (a0, a1, ()) = de_impl_Pages a0 a1 := by kernel_rfl
theorem si_impl_Pages : SigsOk Try.prog ta_impl_Pages := SigsOk.of fun f sd h => by
  try dsimp only [Tb.of, ta_impl_Pages] at h
  split at h
  · rename_i e; subst e; cases h; exact sn_impl_in
  split at h
  · rename_i e; subst e; cases h; exact sn_impl_room
  cases h
theorem sn_impl_Pages : Callable Try.prog 28 ∧ Sound Try.prog 28 sd_impl_Pages.sg sd_impl_Pages.den :=
  fn_plain (pat := pa_impl_Pages) (by kernel_rfl) si_impl_Pages Try.func28 (by kernel_rfl) (by kernel_rfl) (by kernel_rfl) fun x r h => by
    obtain ⟨a0, a1, ⟨⟩⟩ := x; obtain ⟨y, h1, h2⟩ := Option.bind_eq_some_iff.1 (show (m_impl_Pages a0 a1).bind (fun r => some ((r, ()), (()))) = some r from h); cases h2; exact (en_impl_Pages a0 a1).trans (eq_impl_Pages a0 a1 _ h1)
def m_impl_validPage (p : Pg) (w : Int) : Bool := pageOk p w
def sg_impl_validPage : Sig := ⟨[.rd (.pair (.int .i64) (.pair (.int .i64) (.pair (.int .i64) (.pair .str .unit)))), .rd (.int .i64)], [some 4, none], [.rd .bool], [none]⟩
noncomputable def sd_impl_validPage : SD := ⟨sg_impl_validPage, fun x => some (((m_impl_validPage x.1 x.2.1), ()), (()))⟩
noncomputable def ta_impl_validPage : Tb := Tb.of fun f => if f = 29 then some sd_impl_in else if f = 30 then some sd_impl_room else none
def pa_impl_validPage : Nat → Pat × (Nat → Pat) := fun k => (⟨[], [], []⟩, fun _ => ⟨[], [], []⟩)
noncomputable def de_impl_validPage (a0 : Int × Int × Int × ByteArray × Unit) (a1 : Int) : Option ((((Bool) × Unit) × (Unit))) :=
  bif m_impl_in a1 1 8 then
    bif m_impl_in a0.fst 1 4 then
      bif m_impl_in a0.snd.fst 1 60000 then
        bif m_impl_in a0.snd.snd.fst 1 1000000000 then
          bif decide (nI (ByteArray.size a0.snd.snd.snd.fst) ≤ IntKind.wrap IntKind.i64 (IntKind.wrap IntKind.i64 (64 - a1) - 8)) then
            bif a0.fst != 3 then some ((true, ()), ()) else some ((ByteArray.toList a0.snd.snd.snd.fst == ByteArray.toList (ByteArray.mk #[]), ()), ())
          else some ((false, ()), ())
        else some ((false, ()), ())
      else some ((false, ()), ())
    else some ((false, ()), ())
  else some ((false, ()), ())
theorem eq_impl_validPage (a0 : Int × Int × Int × ByteArray × Unit) (a1 : Int) : de_impl_validPage a0 a1 = some (((m_impl_validPage a0 a1), ()), (())) := by
  unfold de_impl_validPage m_impl_validPage pageOk
  have tl : ByteArray.toList (ByteArray.mk #[]) = [] := by decide +kernel
  rw [tl]
  show (bif inB a1 1 8 then (bif inB a0.1 1 4 then (bif inB a0.2.1 1 60000 then (bif inB a0.2.2.1 1 1000000000 then _ else _) else _) else _) else _) = _
  cases hw : inB a1 1 8 with
  | false => rfl
  | true =>
    have k1 := of_decide_eq_true (and2 hw).1
    have k2 := of_decide_eq_true (and2 hw).2
    rw [wrap_ok (n := 64 - a1) (by omega) (by omega), wrap_ok (by omega) (by omega), show 64 - a1 - 8 = 56 - a1 by omega]
    cases inB a0.1 1 4 <;> cases inB a0.2.1 1 60000 <;> cases inB a0.2.2.1 1 1000000000 <;> try rfl
    show (bif decide ((ByteArray.size a0.2.2.2.1 : Int) ≤ 56 - a1) then _ else _) = _
    cases decide ((ByteArray.size a0.2.2.2.1 : Int) ≤ 56 - a1) <;> cases (a0.1 != 3) <;> rfl
theorem en_impl_validPage (a0 : Int × Int × Int × ByteArray × Unit) (a1 : Int) : evalF Try.prog ta_impl_validPage pa_impl_validPage sg_impl_validPage Try.f58 noL (a0, a1, ()) = de_impl_validPage a0 a1 := by kernel_rfl
theorem si_impl_validPage : SigsOk Try.prog ta_impl_validPage := SigsOk.of fun f sd h => by
  try dsimp only [Tb.of, ta_impl_validPage] at h
  split at h
  · rename_i e; subst e; cases h; exact sn_impl_in
  split at h
  · rename_i e; subst e; cases h; exact sn_impl_room
  cases h
theorem sn_impl_validPage : Callable Try.prog 58 ∧ Sound Try.prog 58 sd_impl_validPage.sg sd_impl_validPage.den :=
  fn_plain (pat := pa_impl_validPage) (by kernel_rfl) si_impl_validPage Try.func58 (by kernel_rfl) (by kernel_rfl) (by kernel_rfl) fun x r h => by
    obtain ⟨a0, a1, ⟨⟩⟩ := x; rw [← h]; exact (en_impl_validPage a0 a1).trans (eq_impl_validPage a0 a1)
def m_impl_be (v n : Int) : Option ByteArray := if 0 ≤ n ∧ n ≤ 1000 then some (beS v n.toNat) else none
def fu_impl_be_4 (v0 v6 : Int) (r0 : List Int) : Nat := v6.toNat + 2
def sg_impl_be : Sig := ⟨[.rd (.int .i64), .rd (.int .i64)], [none, none], [.rd .str], [none]⟩
noncomputable def sd_impl_be : SD := ⟨sg_impl_be, fun x => (m_impl_be x.1 x.2.1).bind fun r => some ((r, ()), (()))⟩
noncomputable def ta_impl_be : Tb := Tb.of fun f => none
def pa_impl_be : Nat → Pat × (Nat → Pat) := fun k => if k = 4 then (⟨[.row 5 0 5 (.int .u8)], [(0, .lf (.d (.int .i64))), (5, .lf (.row 0)), (6, .lf (.d (.int .i64)))], [.row 5 (.int .u8)]⟩, fun e => if e = 2 then ⟨[.row 5 0 5 (.int .u8)], [(5, .lf (.row 0))], [.row 5 (.int .u8)]⟩ else ⟨[], [], []⟩) else (⟨[], [], []⟩, fun _ => ⟨[], [], []⟩)
noncomputable def co_impl_be_4 : Code := (loopsIn (bodyOf Try.f59)).getD 0 .skip
noncomputable def tr_impl_be_4 {R : Type}  (NX : ((Int) × (Int) × (List Int) × Unit) → Option R) (X2 : ((List Int) × Unit) → Option R) (v0 : Int) (v6 : Int) (r0 : List Int) : Option R :=
  bif decide (v6 ≥ 0) then
    bif decide (0 ≤ v6) then
      bif decide (v6 < nI (List.length r0)) then
        bif decide (Int.toNat v6 < List.length r0) then NX (Int.fdiv v0 (2 ^ min (Int.toNat 8) 64), IntKind.wrap IntKind.i64 (v6 - 1), List.set r0 (Int.toNat v6) (IntKind.wrap IntKind.u8 v0), ())
        else none
      else none
    else none
  else X2 (r0, ())
noncomputable def lo_impl_be_4 : Nat → (Int) → (Int) → (List Int) →  Option ((List Int) × Unit)
  | 0, _, _, _ => none
  | m + 1, v0, v6, r0 => tr_impl_be_4  (fun d => lo_impl_be_4 m d.1 d.2.1 d.2.2.1) (fun d => some (d)) v0 v6 r0
theorem na_impl_be_4 {R S : Type}  (NX : ((Int) × (Int) × (List Int) × Unit) → Option R) (X2 : ((List Int) × Unit) → Option R) (v0 : Int) (v6 : Int) (r0 : List Int) (f : R → Option S) : tr_impl_be_4  (fun d => (NX d).bind f) (fun d => (X2 d).bind f) v0 v6 r0 = (tr_impl_be_4  NX X2 v0 v6 r0).bind f := by
  unfold tr_impl_be_4
  simp only [cond_bind, ite_bind, onSum_bind, Option.bind_assoc, Option.bind_none, Option.bind_some]
noncomputable def de_impl_be (a0 : Int) (a1 : Int) : Option ((((ByteArray) × Unit) × (Unit))) :=
  bif decide (a1 = a1) then
    bif decide (0 ≤ a1) then
      bif decide (Int.toNat a1 * 1 ≤ 140737488355328) then Option.bind ((fun d => lo_impl_be_4 (fu_impl_be_4 d.1 d.2.1 d.2.2.1) d.1 d.2.1 d.2.2.1) (a0, IntKind.wrap IntKind.i64 (a1 - 1), List.replicate (Int.toNat a1) 0, ())) fun val => some ((strOfNums val.fst, ()), ())
      else none
    else none
  else none
theorem be_loop : ∀ (k m : Nat) (v : Int) (l t : List Int), l.length = k → k ≤ 1000 → k < m → lo_impl_be_4 m v ((k : Int) - 1) (l ++ t) = some (digL v k ++ t, ())
  | 0, m + 1, v, l, t, hl, hk, hm => by
    obtain rfl : l = [] := List.length_eq_zero_iff.1 hl
    simp only [lo_impl_be_4, tr_impl_be_4]
    rw [decide_eq_false (by omega)]
    rfl
  | k + 1, m + 1, v, l, t, hl, hk, hm => by
    have e : (((k + 1 : Nat) : Int) - 1) = (k : Int) := by omega
    rw [e]
    simp only [lo_impl_be_4, tr_impl_be_4]
    have hlen : (l ++ t).length = k + 1 + t.length := by rw [List.length_append, hl]
    rw [decide_eq_true (show (k : Int) ≥ 0 by omega), decide_eq_true (show (k : Int) < nI (l ++ t).length by simp only [nI, hlen]; omega), decide_eq_true (show Int.toNat (k : Int) < (l ++ t).length by rw [hlen]; omega), wrap_ok (by omega) (by omega)]
    simp only [cond_true, Int.toNat_natCast]
    obtain ⟨l', x, rfl⟩ : ∃ l' x, l = l' ++ [x] := ⟨l.dropLast, l.getLast (by intro h; subst h; simp at hl), (List.dropLast_concat_getLast _).symm⟩
    have hl' : l'.length = k := by simpa using hl
    have hs : ((l' ++ [x]) ++ t).set k (IntKind.wrap IntKind.u8 v) = l' ++ (v % 256 :: t) := by
      rw [List.append_assoc, List.set_append_right _ _ (by omega), hl']
      simp only [Nat.sub_self, List.singleton_append, List.set_cons_zero]
      rfl
    rw [hs]
    have := be_loop k m (v / 256) l' (v % 256 :: t) hl' (by omega) (by omega)
    have e2 : Int.fdiv v (2 ^ min (Int.toNat 8) 64) = v / 256 := by
      show Int.fdiv v 256 = v / 256
      exact Int.fdiv_eq_ediv_of_nonneg _ (by omega)
    rw [e2, this]
    simp only [digL, List.append_assoc, List.singleton_append]
theorem eq_impl_be (a0 : Int) (a1 : Int) r (h : m_impl_be a0 a1 = some r) : de_impl_be a0 a1 = some ((r, ()), (())) := by
  unfold m_impl_be at h
  split at h
  · rename_i hc
    cases h
    obtain ⟨n, rfl⟩ : ∃ n : Nat, a1 = (n : Int) := ⟨a1.toNat, by omega⟩
    unfold de_impl_be
    rw [decide_eq_true rfl, decide_eq_true hc.1, decide_eq_true (show Int.toNat (n : Int) * 1 ≤ 140737488355328 by omega), wrap_ok (by omega) (by omega)]
    have hL := be_loop n (fu_impl_be_4 a0 ((n : Int) - 1) (List.replicate n 0)) a0 (List.replicate n 0) [] (by simp) (by omega) (by simp only [fu_impl_be_4]; omega)
    rw [List.append_nil, List.append_nil] at hL
    exact bi_ hL rfl
  · cases h
noncomputable def ou_impl_be_4 {R : Type} (k : Kt R) : ((List Int) × Unit) → Option R := (fun d => k (.exit 0) (((pa_impl_be 4).2 2).st d) (((pa_impl_be 4).2 2).nid))
noncomputable def L_impl_be {R : Type} : Lt R pa_impl_be := (addL (pat := pa_impl_be) 4 (fun d k => (lo_impl_be_4 (fu_impl_be_4 d.1 d.2.1 d.2.2.1) d.1 d.2.1 d.2.2.1).bind (ou_impl_be_4 k)) noL)
theorem rd_impl_be_4 {R : Type} (nx : (pa_impl_be 4).1.D → Kt R → Option R) (k : Kt R) (v0 : Int) (v6 : Int) (r0 : List Int) : ev Try.prog ⟨ta_impl_be, 0, 24, pa_impl_be⟩ L_impl_be co_impl_be_4 ((pa_impl_be 4).1.st (v0, v6, r0, ())) (pa_impl_be 4).1.nid (roundK 0 (pa_impl_be 4) nx k) = tr_impl_be_4  (fun d => nx d k) (fun d => k (.exit 0) (((pa_impl_be 4).2 2).st d) (((pa_impl_be 4).2 2).nid)) v0 v6 r0 := by kernel_rfl
theorem lp_impl_be_4 {R : Type} : ∀ (m : Nat) (d : (pa_impl_be 4).1.D) (k : Kt R), loopN 0 (pa_impl_be 4) (fun s nid k => ev Try.prog ⟨ta_impl_be, 0, 24, pa_impl_be⟩ L_impl_be co_impl_be_4 s nid k) m d k = (lo_impl_be_4 m d.1 d.2.1 d.2.2.1).bind (ou_impl_be_4 k)
  | 0, _, _ => rfl
  | m + 1, ⟨v0, v6, r0, ⟨⟩⟩, k => (rd_impl_be_4 _ k v0 v6 r0).trans ((congrArg (fun F => tr_impl_be_4  F (fun d => k (.exit 0) (((pa_impl_be 4).2 2).st d) (((pa_impl_be 4).2 2).nid)) v0 v6 r0) (funext fun d => lp_impl_be_4 m d k)).trans (na_impl_be_4 (f := ou_impl_be_4 k)  (fun d => lo_impl_be_4 m d.1 d.2.1 d.2.2.1) (fun d => some (d)) v0 v6 r0))
theorem en_impl_be (a0 : Int) (a1 : Int) : evalF Try.prog ta_impl_be pa_impl_be sg_impl_be Try.f59 L_impl_be (a0, a1, ()) = de_impl_be a0 a1 := by kernel_rfl
theorem si_impl_be : SigsOk Try.prog ta_impl_be := SigsOk.of fun f sd h => by
  try dsimp only [Tb.of, ta_impl_be] at h
  cases h
theorem lk_impl_be_4 {R : Type} : LoopOk Try.prog R 24 0 pa_impl_be L_impl_be co_impl_be_4 :=
  loop_key (cfg := ⟨ta_impl_be, 0, 24, pa_impl_be⟩) (key := 4) (by kernel_rfl) (by kernel_rfl) si_impl_be rfl rfl (fun d k r h => ⟨fu_impl_be_4 d.1 d.2.1 d.2.2.1, (lp_impl_be_4 _ d k).trans h⟩) (fun c hc => by rw [show loopsIn co_impl_be_4 = [] from by kernel_rfl] at hc; cases hc)
theorem sn_impl_be : Callable Try.prog 59 ∧ Sound Try.prog 59 sd_impl_be.sg sd_impl_be.den :=
  fn_loops (pat := pa_impl_be) L_impl_be (by kernel_rfl) si_impl_be Try.func59 (by kernel_rfl) (by kernel_rfl) (fun c hc => by rw [show loopsIn (bodyOf Try.f59) = [co_impl_be_4] from by kernel_rfl] at hc; simp only [List.mem_cons, List.not_mem_nil, or_false] at hc; rcases hc with rfl <;> first | exact lk_impl_be_4) fun x r h => by
    obtain ⟨a0, a1, ⟨⟩⟩ := x; obtain ⟨y, h1, h2⟩ := Option.bind_eq_some_iff.1 (show (m_impl_be a0 a1).bind (fun r => some ((r, ()), (()))) = some r from h); cases h2; exact (en_impl_be a0 a1).trans (eq_impl_be a0 a1 _ h1)
def sg_strings_Repeat : Sig := ⟨[.rd .str, .rd (.int .i64)], [none, none], [.rd .str], [none]⟩
noncomputable def sd_strings_Repeat : SD := ⟨sg_strings_Repeat, fun x => (repStr x.1 x.2.1).bind fun r => some ((r, ()), ())⟩
theorem sn_strings_Repeat : Callable Try.prog 60 ∧ Sound Try.prog 60 sd_strings_Repeat.sg sd_strings_Repeat.den := ⟨⟨_, Try.func60, by kernel_rfl, by kernel_rfl⟩, rep_seat⟩
def m_impl_Sum (s : ByteArray) (w : Int) : Option ByteArray := if s.size < 4611686018427387904 then some (sumS s w) else none
def fu_impl_Sum_6 (v0 : ByteArray) (v1 v5 v6 : Int) : Nat := (nI v0.size - v6).toNat + 1
def sg_impl_Sum : Sig := ⟨[.rd .str, .rd (.int .i64)], [none, none], [.rd .str], [none]⟩
noncomputable def sd_impl_Sum : SD := ⟨sg_impl_Sum, fun x => (m_impl_Sum x.1 x.2.1).bind fun r => some ((r, ()), (()))⟩
noncomputable def ta_impl_Sum : Tb := Tb.of fun f => if f = 29 then some sd_impl_in else if f = 59 then some sd_impl_be else none
def pa_impl_Sum : Nat → Pat × (Nat → Pat) := fun k => if k = 6 then (⟨[], [(0, .lf (.d .str)), (1, .lf (.d (.int .i64))), (5, .lf (.d (.int .u64))), (6, .lf (.d (.int .i64)))], []⟩, fun e => if e = 2 then ⟨[], [(1, .lf (.d (.int .i64))), (5, .lf (.d (.int .u64)))], []⟩ else ⟨[], [], []⟩) else (⟨[], [], []⟩, fun _ => ⟨[], [], []⟩)
noncomputable def co_impl_Sum_6 : Code := (loopsIn (bodyOf Try.f61)).getD 0 .skip
noncomputable def tr_impl_Sum_6 {R : Type}  (NX : ((ByteArray) × (Int) × (Int) × (Int) × Unit) → Option R) (X2 : ((Int) × (Int) × Unit) → Option R) (v0 : ByteArray) (v1 : Int) (v5 : Int) (v6 : Int) : Option R :=
  bif decide (v6 < nI (ByteArray.size v0)) then
    bif decide (0 ≤ v6) then
      bif decide (v6 < nI (ByteArray.size v0)) then
        NX
          (v0, v1, IntKind.wrap IntKind.u64 (IntKind.wrap IntKind.u64 (nI (BitVec.toNat (BitVec.ofInt 64 v5 ^^^ BitVec.ofInt 64 (IntKind.wrap IntKind.u64 (byteAt v0 v6))))) * 1099511628211),
            IntKind.wrap IntKind.i64 (v6 + 1), ())
      else none
    else none
  else X2 (v1, v5, ())
noncomputable def lo_impl_Sum_6 : Nat → (ByteArray) → (Int) → (Int) → (Int) →  Option ((Int) × (Int) × Unit)
  | 0, _, _, _, _ => none
  | m + 1, v0, v1, v5, v6 => tr_impl_Sum_6  (fun d => lo_impl_Sum_6 m d.1 d.2.1 d.2.2.1 d.2.2.2.1) (fun d => some (d)) v0 v1 v5 v6
theorem na_impl_Sum_6 {R S : Type}  (NX : ((ByteArray) × (Int) × (Int) × (Int) × Unit) → Option R) (X2 : ((Int) × (Int) × Unit) → Option R) (v0 : ByteArray) (v1 : Int) (v5 : Int) (v6 : Int) (f : R → Option S) : tr_impl_Sum_6  (fun d => (NX d).bind f) (fun d => (X2 d).bind f) v0 v1 v5 v6 = (tr_impl_Sum_6  NX X2 v0 v1 v5 v6).bind f := by
  unfold tr_impl_Sum_6
  simp only [cond_bind, ite_bind, onSum_bind, Option.bind_assoc, Option.bind_none, Option.bind_some]
noncomputable def de_impl_Sum (a0 : ByteArray) (a1 : Int) : Option ((((ByteArray) × Unit) × (Unit))) :=
  bif !m_impl_in a1 1 8 then some ((ByteArray.mk #[], ()), ())
  else
    Option.bind ((fun d => lo_impl_Sum_6 (fu_impl_Sum_6 d.1 d.2.1 d.2.2.1 d.2.2.2.1) d.1 d.2.1 d.2.2.1 d.2.2.2.1) (a0, a1, 14695981039346656037, 0, ())) fun val =>
      bif decide (0 ≤ IntKind.wrap IntKind.i64 (8 - val.fst)) then
        bif decide (IntKind.wrap IntKind.i64 (8 - val.fst) ≤ nI (ByteArray.size (beS (IntKind.wrap IntKind.i64 val.snd.fst) (Int.toNat 8)))) then
          some
            ((cutOf (beS (IntKind.wrap IntKind.i64 val.snd.fst) (Int.toNat 8)) (IntKind.wrap IntKind.i64 (8 - val.fst)) (nI (ByteArray.size (beS (IntKind.wrap IntKind.i64 val.snd.fst) (Int.toNat 8)))),
                ()),
              ())
        else none
      else none
theorem eq_impl_Sum (a0 : ByteArray) (a1 : Int) r (h : m_impl_Sum a0 a1 = some r) : de_impl_Sum a0 a1 = some ((r, ()), (())) := by
  unfold m_impl_Sum at h
  split at h
  rotate_left
  · cases h
  rename_i hsz
  cases h
  unfold de_impl_Sum sumS
  generalize hC : (14695981039346656037 : Int) = C
  have h0 : U64 C := by rw [← hC]; exact ⟨by decide, by decide⟩
  show (bif !inB a1 1 8 then _ else _) = _
  cases hw : inB a1 1 8 with
  | false => rfl
  | true =>
    have k1 := of_decide_eq_true (and2 hw).1
    have k2 := of_decide_eq_true (and2 hw).2
    · simp only [Bool.not_true, cond_false, cond_true]
      have hL := up_loop a0.size (fun _ _ => True) (fun i h => hashStep h (byteAt a0 i)) (g := fun m i h => lo_impl_Sum_6 m a0 a1 h i) (ok := fun h => (a1, h, ())) (fun m i h hi _ => by
        show lo_impl_Sum_6 (m + 1) a0 a1 h i = _
        simp only [lo_impl_Sum_6, tr_impl_Sum_6]
        have c1 : (i : Int) < nI a0.size := by simp only [nI]; omega
        rw [decide_eq_true c1, cLe0, wI (show i < 4611686018427387904 by omega)]
        rfl) (fun m h _ => by
        show lo_impl_Sum_6 (m + 1) a0 a1 h a0.size = _
        simp only [lo_impl_Sum_6, tr_impl_Sum_6]
        rw [decide_eq_false (show ¬ ((a0.size : Int) < nI a0.size) by simp only [nI]; omega)]
        rfl) (fun _ _ _ _ => trivial) a0.size (fu_impl_Sum_6 a0 a1 C 0) 0 C (by omega) (by simp only [fu_impl_Sum_6, nI]; omega) trivial
      rw [show ((0 : Nat) : Int) = 0 from rfl] at hL
      refine bi_ hL ?_
      have e1 : IntKind.wrap IntKind.i64 (8 - a1) = 8 - a1 := wrap_ok (by omega) (by omega)
      have hh := hash_in a0 a0.size 0 h0
      have eH : iter (fun i h => hashStep h (byteAt a0 i)) a0.size 0 C = hashGo a0 a0.size 0 C := rfl
      rw [eH]
      generalize hashGo a0 a0.size 0 C = H at hh ⊢
      show (bif decide (0 ≤ IntKind.wrap IntKind.i64 (8 - a1)) then (bif decide (IntKind.wrap IntKind.i64 (8 - a1) ≤ nI (ByteArray.size (beS (IntKind.wrap IntKind.i64 H) (Int.toNat 8)))) then some ((cutOf (beS (IntKind.wrap IntKind.i64 H) (Int.toNat 8)) (IntKind.wrap IntKind.i64 (8 - a1)) (nI (ByteArray.size (beS (IntKind.wrap IntKind.i64 H) (Int.toNat 8)))), ()), ()) else none) else none) = some ((beS H a1.toNat, ()), ())
      rw [e1, sum_cut hh k1 k2, decide_eq_true (show 0 ≤ 8 - a1 by omega), decide_eq_true (show 8 - a1 ≤ nI (ByteArray.size (beS (IntKind.wrap IntKind.i64 H) (Int.toNat 8))) by rw [beS_size]; simp [nI]; omega)]
      rfl
noncomputable def ou_impl_Sum_6 {R : Type} (k : Kt R) : ((Int) × (Int) × Unit) → Option R := (fun d => k (.exit 0) (((pa_impl_Sum 6).2 2).st d) (((pa_impl_Sum 6).2 2).nid))
noncomputable def L_impl_Sum {R : Type} : Lt R pa_impl_Sum := (addL (pat := pa_impl_Sum) 6 (fun d k => (lo_impl_Sum_6 (fu_impl_Sum_6 d.1 d.2.1 d.2.2.1 d.2.2.2.1) d.1 d.2.1 d.2.2.1 d.2.2.2.1).bind (ou_impl_Sum_6 k)) noL)
theorem rd_impl_Sum_6 {R : Type} (nx : (pa_impl_Sum 6).1.D → Kt R → Option R) (k : Kt R) (v0 : ByteArray) (v1 : Int) (v5 : Int) (v6 : Int) : ev Try.prog ⟨ta_impl_Sum, 0, 29, pa_impl_Sum⟩ L_impl_Sum co_impl_Sum_6 ((pa_impl_Sum 6).1.st (v0, v1, v5, v6, ())) (pa_impl_Sum 6).1.nid (roundK 0 (pa_impl_Sum 6) nx k) = tr_impl_Sum_6  (fun d => nx d k) (fun d => k (.exit 0) (((pa_impl_Sum 6).2 2).st d) (((pa_impl_Sum 6).2 2).nid)) v0 v1 v5 v6 := by kernel_rfl
theorem lp_impl_Sum_6 {R : Type} : ∀ (m : Nat) (d : (pa_impl_Sum 6).1.D) (k : Kt R), loopN 0 (pa_impl_Sum 6) (fun s nid k => ev Try.prog ⟨ta_impl_Sum, 0, 29, pa_impl_Sum⟩ L_impl_Sum co_impl_Sum_6 s nid k) m d k = (lo_impl_Sum_6 m d.1 d.2.1 d.2.2.1 d.2.2.2.1).bind (ou_impl_Sum_6 k)
  | 0, _, _ => rfl
  | m + 1, ⟨v0, v1, v5, v6, ⟨⟩⟩, k => (rd_impl_Sum_6 _ k v0 v1 v5 v6).trans ((congrArg (fun F => tr_impl_Sum_6  F (fun d => k (.exit 0) (((pa_impl_Sum 6).2 2).st d) (((pa_impl_Sum 6).2 2).nid)) v0 v1 v5 v6) (funext fun d => lp_impl_Sum_6 m d k)).trans (na_impl_Sum_6 (f := ou_impl_Sum_6 k)  (fun d => lo_impl_Sum_6 m d.1 d.2.1 d.2.2.1 d.2.2.2.1) (fun d => some (d)) v0 v1 v5 v6))
theorem en_impl_Sum (a0 : ByteArray) (a1 : Int) : evalF Try.prog ta_impl_Sum pa_impl_Sum sg_impl_Sum Try.f61 L_impl_Sum (a0, a1, ()) = de_impl_Sum a0 a1 := by kernel_rfl
theorem si_impl_Sum : SigsOk Try.prog ta_impl_Sum := SigsOk.of fun f sd h => by
  try dsimp only [Tb.of, ta_impl_Sum] at h
  split at h
  · rename_i e; subst e; cases h; exact sn_impl_in
  split at h
  · rename_i e; subst e; cases h; exact sn_impl_be
  cases h
theorem lk_impl_Sum_6 {R : Type} : LoopOk Try.prog R 29 0 pa_impl_Sum L_impl_Sum co_impl_Sum_6 :=
  loop_key (cfg := ⟨ta_impl_Sum, 0, 29, pa_impl_Sum⟩) (key := 6) (by kernel_rfl) (by kernel_rfl) si_impl_Sum rfl rfl (fun d k r h => ⟨fu_impl_Sum_6 d.1 d.2.1 d.2.2.1 d.2.2.2.1, (lp_impl_Sum_6 _ d k).trans h⟩) (fun c hc => by rw [show loopsIn co_impl_Sum_6 = [] from by kernel_rfl] at hc; cases hc)
theorem sn_impl_Sum : Callable Try.prog 61 ∧ Sound Try.prog 61 sd_impl_Sum.sg sd_impl_Sum.den :=
  fn_loops (pat := pa_impl_Sum) L_impl_Sum (by kernel_rfl) si_impl_Sum Try.func61 (by kernel_rfl) (by kernel_rfl) (fun c hc => by rw [show loopsIn (bodyOf Try.f61) = [co_impl_Sum_6] from by kernel_rfl] at hc; simp only [List.mem_cons, List.not_mem_nil, or_false] at hc; rcases hc with rfl <;> first | exact lk_impl_Sum_6) fun x r h => by
    obtain ⟨a0, a1, ⟨⟩⟩ := x; obtain ⟨y, h1, h2⟩ := Option.bind_eq_some_iff.1 (show (m_impl_Sum a0 a1).bind (fun r => some ((r, ()), (()))) = some r from h); cases h2; exact (en_impl_Sum a0 a1).trans (eq_impl_Sum a0 a1 _ h1)
def m_impl_FormPage (p : Pg) (w : Int) : ByteArray := pageS p w
def sg_impl_FormPage : Sig := ⟨[.rd (.pair (.int .i64) (.pair (.int .i64) (.pair (.int .i64) (.pair .str .unit)))), .rd (.int .i64)], [some 4, none], [.rd .str], [none]⟩
noncomputable def sd_impl_FormPage : SD := ⟨sg_impl_FormPage, fun x => some (((m_impl_FormPage x.1 x.2.1), ()), (()))⟩
noncomputable def ta_impl_FormPage : Tb := Tb.of fun f => if f = 58 then some sd_impl_validPage else if f = 59 then some sd_impl_be else if f = 60 then some sd_strings_Repeat else if f = 61 then some sd_impl_Sum else none
def pa_impl_FormPage : Nat → Pat × (Nat → Pat) := fun k => (⟨[], [], []⟩, fun _ => ⟨[], [], []⟩)
noncomputable def de_impl_FormPage (a0 : Int × Int × Int × ByteArray × Unit) (a1 : Int) : Option ((((ByteArray) × Unit) × (Unit))) :=
  bif !m_impl_validPage (a0.fst, a0.snd.fst, a0.snd.snd.fst, a0.snd.snd.snd.fst, ()) a1 then some ((ByteArray.mk #[], ()), ())
  else
    bif
        decide
          (ByteArray.size (beS a0.fst (Int.toNat 1) ++ beS a0.snd.fst (Int.toNat 2) ++ beS a0.snd.snd.fst (Int.toNat 4) ++ beS (nI (ByteArray.size a0.snd.snd.snd.fst)) (Int.toNat 1)) +
              ByteArray.size a0.snd.snd.snd.fst ≤
            9223372036854775807) then
      Option.bind
        (Option.bind
          (repStr (ByteArray.mk #[0])
            (IntKind.wrap IntKind.i64
              (IntKind.wrap IntKind.i64 (64 - a1) -
                nI
                  (ByteArray.size
                    (beS a0.fst (Int.toNat 1) ++ beS a0.snd.fst (Int.toNat 2) ++ beS a0.snd.snd.fst (Int.toNat 4) ++ beS (nI (ByteArray.size a0.snd.snd.snd.fst)) (Int.toNat 1) ++ a0.snd.snd.snd.fst)))))
          fun val => some ((val, ()), ()))
        fun val =>
        bif
            decide
              (ByteArray.size
                    (beS a0.fst (Int.toNat 1) ++ beS a0.snd.fst (Int.toNat 2) ++ beS a0.snd.snd.fst (Int.toNat 4) ++ beS (nI (ByteArray.size a0.snd.snd.snd.fst)) (Int.toNat 1) ++ a0.snd.snd.snd.fst) +
                  ByteArray.size val.fst.fst ≤
                9223372036854775807) then
          Option.bind
            (Option.bind
              (m_impl_Sum
                (beS a0.fst (Int.toNat 1) ++ beS a0.snd.fst (Int.toNat 2) ++ beS a0.snd.snd.fst (Int.toNat 4) ++ beS (nI (ByteArray.size a0.snd.snd.snd.fst)) (Int.toNat 1) ++ a0.snd.snd.snd.fst ++
                  val.fst.fst)
                a1)
              fun val => some ((val, ()), ()))
            fun val_1 =>
            bif
                decide
                  (ByteArray.size val_1.fst.fst +
                      ByteArray.size
                        (beS a0.fst (Int.toNat 1) ++ beS a0.snd.fst (Int.toNat 2) ++ beS a0.snd.snd.fst (Int.toNat 4) ++ beS (nI (ByteArray.size a0.snd.snd.snd.fst)) (Int.toNat 1) ++
                            a0.snd.snd.snd.fst ++
                          val.fst.fst) ≤
                    9223372036854775807) then
              some
                ((val_1.fst.fst ++
                      (beS a0.fst (Int.toNat 1) ++ beS a0.snd.fst (Int.toNat 2) ++ beS a0.snd.snd.fst (Int.toNat 4) ++ beS (nI (ByteArray.size a0.snd.snd.snd.fst)) (Int.toNat 1) ++ a0.snd.snd.snd.fst ++
                        val.fst.fst),
                    ()),
                  ())
            else none
        else none
    else none
theorem eq_impl_FormPage (a0 : Int × Int × Int × ByteArray × Unit) (a1 : Int) : de_impl_FormPage a0 a1 = some (((m_impl_FormPage a0 a1), ()), (())) := by
  unfold de_impl_FormPage m_impl_FormPage pageS
  show (bif !pageOk a0 a1 then _ else _) = _
  cases hp : pageOk a0 a1 with
  | false => rfl
  | true =>
    obtain ⟨hw, k1, k2, kp⟩ := pageOk_w hp
    simp only [Bool.not_true, cond_false, cond_true]
    have hb : bodyS a0 a1 = beS a0.1 1 ++ beS a0.2.1 2 ++ beS a0.2.2.1 4 ++ beS (nI a0.2.2.2.1.size) 1 ++ a0.2.2.2.1 ++ strOfNums (List.replicate (56 - a1 - a0.2.2.2.1.size).toNat 0) := rfl
    have hs4 : (beS a0.1 1 ++ beS a0.2.1 2 ++ beS a0.2.2.1 4 ++ beS (nI a0.2.2.2.1.size) 1).size = 8 := by simp only [ByteArray.size_append, beS_size]
    have hs5 : (beS a0.1 1 ++ beS a0.2.1 2 ++ beS a0.2.2.1 4 ++ beS (nI a0.2.2.2.1.size) 1 ++ a0.2.2.2.1).size = 8 + a0.2.2.2.1.size := by rw [ByteArray.size_append, hs4]
    show (bif decide ((beS a0.1 1 ++ beS a0.2.1 2 ++ beS a0.2.2.1 4 ++ beS (nI a0.2.2.2.1.size) 1).size + a0.2.2.2.1.size ≤ 9223372036854775807) then Option.bind (Option.bind (repStr (ByteArray.mk #[0]) (IntKind.wrap IntKind.i64 (IntKind.wrap IntKind.i64 (64 - a1) - nI (beS a0.1 1 ++ beS a0.2.1 2 ++ beS a0.2.2.1 4 ++ beS (nI a0.2.2.2.1.size) 1 ++ a0.2.2.2.1).size))) _) _ else none) = _
    generalize hB : beS a0.1 1 ++ beS a0.2.1 2 ++ beS a0.2.2.1 4 ++ beS (nI a0.2.2.2.1.size) 1 ++ a0.2.2.2.1 = B at *
    rw [hs4, decide_eq_true (by omega), wrap_ok (n := 64 - a1) (by omega) (by omega), hs5, wrap_ok (by simp only [nI]; omega) (by simp only [nI]; omega)]
    have hr : repStr (ByteArray.mk #[0]) (64 - a1 - nI (8 + a0.2.2.2.1.size)) = some (strOfNums (List.replicate (56 - a1 - a0.2.2.2.1.size).toNat 0)) := by
      have := rep0 (56 - a1 - a0.2.2.2.1.size).toNat (by omega)
      rw [show ((56 - a1 - a0.2.2.2.1.size).toNat : Int) = 64 - a1 - nI (8 + a0.2.2.2.1.size) by simp only [nI]; omega] at this
      exact this
    have hz : (strOfNums (List.replicate (56 - a1 - a0.2.2.2.1.size).toNat 0)).size = (56 - a1 - a0.2.2.2.1.size).toNat := by rw [size_strOfNums, List.length_replicate]
    generalize strOfNums (List.replicate (56 - a1 - a0.2.2.2.1.size).toNat 0) = Z at *
    refine bi_ (bi_ hr rfl) ?_
    have hbs : (bodyS a0 a1).size ≤ 64 := by rw [hb, ByteArray.size_append, hs5, hz]; omega
    dsimp only
    have hB' : beS a0.1 (Int.toNat 1) ++ beS a0.2.1 (Int.toNat 2) ++ beS a0.2.2.1 (Int.toNat 4) ++ beS (nI a0.2.2.2.1.size) (Int.toNat 1) ++ a0.2.2.2.1 = B := hB
    rw [hB']
    show (bif decide (ByteArray.size B + ByteArray.size Z ≤ 9223372036854775807) then Option.bind (Option.bind (m_impl_Sum (B ++ Z) a1) _) _ else none) = _
    have hm : m_impl_Sum (B ++ Z) a1 = some (sumS (bodyS a0 a1) a1) := by
      rw [← hb]
      exact if_pos (by omega)
    rw [hs5, hz, decide_eq_true (by omega)]
    refine bi_ (bi_ hm rfl) ?_
    show (bif decide (ByteArray.size (sumS (bodyS a0 a1) a1) + ByteArray.size (B ++ Z) ≤ 9223372036854775807) then some ((sumS (bodyS a0 a1) a1 ++ (B ++ Z), ()), ()) else none) = _
    rw [← hb, sumS_size hw, decide_eq_true (by omega)]
    rfl
theorem en_impl_FormPage (a0 : Int × Int × Int × ByteArray × Unit) (a1 : Int) : evalF Try.prog ta_impl_FormPage pa_impl_FormPage sg_impl_FormPage Try.f31 noL (a0, a1, ()) = de_impl_FormPage a0 a1 := by kernel_rfl
theorem si_impl_FormPage : SigsOk Try.prog ta_impl_FormPage := SigsOk.of fun f sd h => by
  try dsimp only [Tb.of, ta_impl_FormPage] at h
  split at h
  · rename_i e; subst e; cases h; exact sn_impl_validPage
  split at h
  · rename_i e; subst e; cases h; exact sn_impl_be
  split at h
  · rename_i e; subst e; cases h; exact sn_strings_Repeat
  split at h
  · rename_i e; subst e; cases h; exact sn_impl_Sum
  cases h
theorem sn_impl_FormPage : Callable Try.prog 31 ∧ Sound Try.prog 31 sd_impl_FormPage.sg sd_impl_FormPage.den :=
  fn_plain (pat := pa_impl_FormPage) (by kernel_rfl) si_impl_FormPage Try.func31 (by kernel_rfl) (by kernel_rfl) (by kernel_rfl) fun x r h => by
    obtain ⟨a0, a1, ⟨⟩⟩ := x; rw [← h]; exact (en_impl_FormPage a0 a1).trans (eq_impl_FormPage a0 a1)
def m_impl_Cut (e : ByteArray) (life first w : Int) : Option (List ByteArray) := if e.size ≤ 1048576 then some (cutS e life first w) else none
def fu_impl_Cut_7 (v0 : ByteArray) (v1 v2 v3 v9 v11 : Int) (r0 : List ByteArray) : Nat := (v9 - v11).toNat + 1
def sg_impl_Cut : Sig := ⟨[.rd .str, .rd (.int .i64), .rd (.int .i64), .rd (.int .i64)], [none, none, none, none], [.own 9 .str], [none]⟩
noncomputable def sd_impl_Cut : SD := ⟨sg_impl_Cut, fun x => (m_impl_Cut x.1 x.2.1 x.2.2.1 x.2.2.2.1).bind fun r => some ((r, ()), (()))⟩
noncomputable def ta_impl_Cut : Tb := Tb.of fun f => if f = 28 then some sd_impl_Pages else if f = 29 then some sd_impl_in else if f = 30 then some sd_impl_room else if f = 31 then some sd_impl_FormPage else none
def pa_impl_Cut : Nat → Pat × (Nat → Pat) := fun k => if k = 7 then (⟨[.row 10 0 9 .str], [(0, .lf (.d .str)), (1, .lf (.d (.int .i64))), (2, .lf (.d (.int .i64))), (3, .lf (.d (.int .i64))), (9, .lf (.d (.int .i64))), (10, .lf (.row 0)), (11, .lf (.d (.int .i64)))], [.row 9 .str]⟩, fun e => if e = 2 then ⟨[.row 10 0 9 .str], [(10, .lf (.row 0))], [.row 9 .str]⟩ else ⟨[], [], []⟩) else (⟨[], [], []⟩, fun _ => ⟨[], [], []⟩)
noncomputable def co_impl_Cut_7 : Code := (loopsIn (bodyOf Try.f7)).getD 0 .skip
noncomputable def tr_impl_Cut_7 {R : Type}  (NX : ((ByteArray) × (Int) × (Int) × (Int) × (Int) × (Int) × (List ByteArray) × Unit) → Option R) (X2 : ((List ByteArray) × Unit) → Option R) (v0 : ByteArray) (v1 : Int) (v2 : Int) (v3 : Int) (v9 : Int) (v11 : Int) (r0 : List ByteArray) : Option R :=
  bif decide (v11 < v9) then
    bif v11 == IntKind.wrap IntKind.i64 (v9 - 1) then
      bif decide ((List.length r0 + List.length [m_impl_FormPage (2, v1, IntKind.wrap IntKind.i64 (v2 + v11), v0, ()) v3]) * 16 ≤ 140737488355328) then
        NX (v0, v1, v2, v3, v9, IntKind.wrap IntKind.i64 (v11 + 1), r0 ++ [m_impl_FormPage (2, v1, IntKind.wrap IntKind.i64 (v2 + v11), v0, ()) v3], ())
      else none
    else
      bif decide (0 ≤ IntKind.wrap IntKind.i64 (IntKind.wrap IntKind.i64 (64 - v3) - 8)) then
        bif decide (IntKind.wrap IntKind.i64 (IntKind.wrap IntKind.i64 (64 - v3) - 8) ≤ nI (ByteArray.size v0)) then
          bif decide (0 ≤ IntKind.wrap IntKind.i64 (IntKind.wrap IntKind.i64 (64 - v3) - 8)) then
            bif decide (IntKind.wrap IntKind.i64 (IntKind.wrap IntKind.i64 (64 - v3) - 8) ≤ nI (ByteArray.size v0)) then
              bif
                  decide
                    ((List.length r0 +
                          List.length [m_impl_FormPage (1, v1, IntKind.wrap IntKind.i64 (v2 + v11), cutOf v0 0 (IntKind.wrap IntKind.i64 (IntKind.wrap IntKind.i64 (64 - v3) - 8)), ()) v3]) *
                        16 ≤
                      140737488355328) then
                NX
                  (cutOf v0 (IntKind.wrap IntKind.i64 (IntKind.wrap IntKind.i64 (64 - v3) - 8)) (nI (ByteArray.size v0)), v1, v2, v3, v9, IntKind.wrap IntKind.i64 (v11 + 1),
                    r0 ++ [m_impl_FormPage (1, v1, IntKind.wrap IntKind.i64 (v2 + v11), cutOf v0 0 (IntKind.wrap IntKind.i64 (IntKind.wrap IntKind.i64 (64 - v3) - 8)), ()) v3], ())
              else none
            else none
          else none
        else none
      else none
  else X2 (r0, ())
noncomputable def lo_impl_Cut_7 : Nat → (ByteArray) → (Int) → (Int) → (Int) → (Int) → (Int) → (List ByteArray) →  Option ((List ByteArray) × Unit)
  | 0, _, _, _, _, _, _, _ => none
  | m + 1, v0, v1, v2, v3, v9, v11, r0 => tr_impl_Cut_7  (fun d => lo_impl_Cut_7 m d.1 d.2.1 d.2.2.1 d.2.2.2.1 d.2.2.2.2.1 d.2.2.2.2.2.1 d.2.2.2.2.2.2.1) (fun d => some (d)) v0 v1 v2 v3 v9 v11 r0
theorem na_impl_Cut_7 {R S : Type}  (NX : ((ByteArray) × (Int) × (Int) × (Int) × (Int) × (Int) × (List ByteArray) × Unit) → Option R) (X2 : ((List ByteArray) × Unit) → Option R) (v0 : ByteArray) (v1 : Int) (v2 : Int) (v3 : Int) (v9 : Int) (v11 : Int) (r0 : List ByteArray) (f : R → Option S) : tr_impl_Cut_7  (fun d => (NX d).bind f) (fun d => (X2 d).bind f) v0 v1 v2 v3 v9 v11 r0 = (tr_impl_Cut_7  NX X2 v0 v1 v2 v3 v9 v11 r0).bind f := by
  unfold tr_impl_Cut_7
  simp only [cond_bind, ite_bind, onSum_bind, Option.bind_assoc, Option.bind_none, Option.bind_some]
noncomputable def de_impl_Cut (a0 : ByteArray) (a1 : Int) (a2 : Int) (a3 : Int) : Option ((((List ByteArray) × Unit) × (Unit))) :=
  Option.bind (Option.bind (m_impl_Pages a0 a3) fun val => some ((val, ()), ())) fun val =>
    bif val.fst.fst == 0 then some (([], ()), ())
    else
      bif !m_impl_in a1 1 60000 then some (([], ()), ())
      else
        bif decide (a2 < 1) then some (([], ()), ())
        else
          bif decide (a2 > IntKind.wrap IntKind.i64 (IntKind.wrap IntKind.i64 (1000000000 - val.fst.fst) + 1)) then some (([], ()), ())
          else Option.bind ((fun d => lo_impl_Cut_7 (fu_impl_Cut_7 d.1 d.2.1 d.2.2.1 d.2.2.2.1 d.2.2.2.2.1 d.2.2.2.2.2.1 d.2.2.2.2.2.2.1) d.1 d.2.1 d.2.2.1 d.2.2.2.1 d.2.2.2.2.1 d.2.2.2.2.2.1 d.2.2.2.2.2.2.1) (a0, a1, a2, a3, val.fst.fst, 0, [], ())) fun val => some ((val.fst, ()), ())
theorem cut_loop (life first w : Int) (n N : Nat) (hn : 56 - w = (n : Int)) (hw1 : 1 ≤ w) (hw8 : w ≤ 8) (hf1 : 1 ≤ first) (hf2 : first ≤ 1000000000) (hN : N ≤ 2000000) : ∀ (f m i : Nat) (s : ByteArray) (r : List ByteArray), s.size ≤ f → i + (partsGo n f s).length = N → (partsGo n f s).length < m → r.length = i →
    lo_impl_Cut_7 m s life first w N i r = some (r ++ cutGo life w (first + (i : Int)) (partsGo n f s), ()) := by
  have one : ∀ (m i : Nat) (s : ByteArray) (r : List ByteArray), i + 1 = N → 1 < m → r.length = i → lo_impl_Cut_7 m s life first w N i r = some (r ++ cutGo life w (first + (i : Int)) [s], ()) := by
    intro m i s r hi hm hr
    obtain ⟨m, rfl⟩ : ∃ k, m = k + 2 := ⟨m - 2, by omega⟩
    simp only [lo_impl_Cut_7, tr_impl_Cut_7]
    rw [decide_eq_true (show (i : Int) < (N : Int) by omega), wrap_ok (n := (N : Int) - 1) (by omega) (by omega), show (N : Int) - 1 = (i : Int) by omega, beq_self_eq_true, wrap_ok (n := first + (i : Int)) (by omega) (by omega), wrap_ok (n := (i : Int) + 1) (by omega) (by omega), List.length_singleton, decide_eq_true (show (r.length + 1) * 16 ≤ 140737488355328 by omega), decide_eq_false (show ¬ ((i : Int) + 1 < (N : Int)) by omega)]
    rfl
  intro f
  induction f with
  | zero =>
    intro m i s r hs hi hm hr
    exact one m i s r hi hm hr
  | succ f ih =>
    intro m i s r hs hi hm hr
    by_cases q : s.size > n
    · simp only [partsGo, if_pos q, List.length_cons] at hi hm ⊢
      have hc : (cutOf s n (nI s.size)).size = s.size - n := by rw [cutOf_size (by omega) (by simp only [nI]; omega) (by simp [nI])]; simp only [nI]; omega
      obtain ⟨m, rfl⟩ : ∃ k, m = k + 1 := ⟨m - 1, by omega⟩
      have hL : 1 ≤ (partsGo n f (cutOf s n (nI s.size))).length := by
        cases f with
        | zero => simp [partsGo]
        | succ f => unfold partsGo; split <;> simp
      have ih := ih m (i + 1) (cutOf s n (nI s.size)) (r ++ [pageS (1, life, first + (i : Int), cutOf s 0 n, ()) w]) (by omega) (by omega) (by omega) (by rw [List.length_append, List.length_singleton, hr])
      simp only [lo_impl_Cut_7, tr_impl_Cut_7]
      rw [decide_eq_true (show (i : Int) < (N : Int) by omega), wrap_ok (n := (N : Int) - 1) (by omega) (by omega), beq_eq_false_iff_ne.2 (show (i : Int) ≠ (N : Int) - 1 by omega), wrap_ok (n := first + (i : Int)) (by omega) (by omega), wI (show i < 4611686018427387904 by omega), wrap_ok (n := 64 - w) (by omega) (by omega), wrap_ok (n := 64 - w - 8) (by omega) (by omega), show 64 - w - 8 = (n : Int) by omega, decide_eq_true (show (0 : Int) ≤ (n : Int) by omega), decide_eq_true (show (n : Int) ≤ nI s.size by simp only [nI]; omega), List.length_singleton, List.length_singleton, decide_eq_true (show (r.length + 1) * 16 ≤ 140737488355328 by omega)]
      refine Eq.trans ih ?_
      rw [List.append_assoc, show first + ((i + 1 : Nat) : Int) = first + (i : Int) + 1 by omega]
      generalize partsGo n f (cutOf s n (nI s.size)) = L at *
      cases L with
      | nil => simp at hL
      | cons a b => rfl
    · simp only [partsGo, if_neg q, List.length_singleton] at hi hm ⊢
      exact one m i s r hi hm hr
theorem eq_impl_Cut (a0 : ByteArray) (a1 : Int) (a2 : Int) (a3 : Int) r (h : m_impl_Cut a0 a1 a2 a3 = some r) : de_impl_Cut a0 a1 a2 a3 = some ((r, ()), (())) := by
  unfold m_impl_Cut at h
  split at h
  rotate_left
  · cases h
  rename_i hc
  cases h
  have n1 : m_impl_Pages a0 a3 = some (pagesN a0.size a3) := if_pos (by omega)
  unfold de_impl_Cut cutS
  refine bi_ (bi_ n1 rfl) ?_
  show (bif pagesN a0.size a3 == 0 then _ else (bif !inB a1 1 60000 then _ else _)) = _
  cases hw : inB a3 1 8 with
  | false =>
    have : pagesN a0.size a3 = 0 := by unfold pagesN; rw [hw]; rfl
    rw [this]
    rfl
  | true =>
    obtain ⟨k1, k2⟩ := inB_r hw
    have hp := pages_same (s := a0) hw
    have hP : pagesN a0.size a3 = ((partsS a0 a3).length : Int) := by unfold pagesN; rw [hw]; exact hp.symm
    have hlen : (partsS a0 a3).length ≤ a0.size + 1 := parts_count _ _ _
    have h1 : 1 ≤ (partsS a0 a3).length := by
      have : (1 : Int) ≤ ((partsS a0 a3).length : Int) := by rw [hp]; split <;> omega
      omega
    rw [hP, beq_eq_false_iff_ne.2 (show ((partsS a0 a3).length : Int) ≠ 0 by omega)]
    cases hl : inB a1 1 60000 with
    | false => rfl
    | true =>
      show (bif decide (a2 < 1) then _ else (bif decide (a2 > IntKind.wrap IntKind.i64 (IntKind.wrap IntKind.i64 (1000000000 - ((partsS a0 a3).length : Int)) + 1)) then _ else (Option.bind (lo_impl_Cut_7 (fu_impl_Cut_7 a0 a1 a2 a3 ((partsS a0 a3).length : Int) 0 []) a0 a1 a2 a3 ((partsS a0 a3).length : Int) 0 []) _))) = _
      rw [wrap_ok (n := 1000000000 - ((partsS a0 a3).length : Int)) (by omega) (by omega), wrap_ok (n := 1000000000 - ((partsS a0 a3).length : Int) + 1) (by omega) (by omega)]
      by_cases q1 : a2 < 1
      · rw [decide_eq_true q1, decide_eq_false (show ¬ 1 ≤ a2 by omega)]; rfl
      · rw [decide_eq_false q1, decide_eq_true (show 1 ≤ a2 by omega)]
        by_cases q2 : a2 > 1000000000 - ((partsS a0 a3).length : Int) + 1
        · rw [decide_eq_true q2, decide_eq_false (show ¬ a2 ≤ 1000000000 - ((partsS a0 a3).length : Int) + 1 by omega)]; rfl
        · rw [decide_eq_false q2, decide_eq_true (show a2 ≤ 1000000000 - ((partsS a0 a3).length : Int) + 1 by omega)]
          obtain ⟨n, hn⟩ : ∃ n : Nat, 56 - a3 = (n : Int) := ⟨(56 - a3).toNat, by omega⟩
          have hS : partsS a0 a3 = partsGo n a0.size a0 := by unfold partsS; rw [hn, Int.toNat_natCast]
          have hL := cut_loop a1 a2 a3 n (partsS a0 a3).length hn k1 k2 (by omega) (by omega) (by omega) a0.size (fu_impl_Cut_7 a0 a1 a2 a3 ((partsS a0 a3).length : Int) 0 []) 0 a0 [] (Nat.le_refl _) (by rw [← hS]; omega) (by rw [← hS]; simp only [fu_impl_Cut_7]; omega) rfl
          rw [← hS, List.nil_append, show a2 + ((0 : Nat) : Int) = a2 by omega] at hL
          exact bi_ hL rfl
noncomputable def ou_impl_Cut_7 {R : Type} (k : Kt R) : ((List ByteArray) × Unit) → Option R := (fun d => k (.exit 0) (((pa_impl_Cut 7).2 2).st d) (((pa_impl_Cut 7).2 2).nid))
noncomputable def L_impl_Cut {R : Type} : Lt R pa_impl_Cut := (addL (pat := pa_impl_Cut) 7 (fun d k => (lo_impl_Cut_7 (fu_impl_Cut_7 d.1 d.2.1 d.2.2.1 d.2.2.2.1 d.2.2.2.2.1 d.2.2.2.2.2.1 d.2.2.2.2.2.2.1) d.1 d.2.1 d.2.2.1 d.2.2.2.1 d.2.2.2.2.1 d.2.2.2.2.2.1 d.2.2.2.2.2.2.1).bind (ou_impl_Cut_7 k)) noL)
theorem rd_impl_Cut_7 {R : Type} (nx : (pa_impl_Cut 7).1.D → Kt R → Option R) (k : Kt R) (v0 : ByteArray) (v1 : Int) (v2 : Int) (v3 : Int) (v9 : Int) (v11 : Int) (r0 : List ByteArray) : ev Try.prog ⟨ta_impl_Cut, 0, 67, pa_impl_Cut⟩ L_impl_Cut co_impl_Cut_7 ((pa_impl_Cut 7).1.st (v0, v1, v2, v3, v9, v11, r0, ())) (pa_impl_Cut 7).1.nid (roundK 0 (pa_impl_Cut 7) nx k) = tr_impl_Cut_7  (fun d => nx d k) (fun d => k (.exit 0) (((pa_impl_Cut 7).2 2).st d) (((pa_impl_Cut 7).2 2).nid)) v0 v1 v2 v3 v9 v11 r0 := by kernel_rfl
theorem lp_impl_Cut_7 {R : Type} : ∀ (m : Nat) (d : (pa_impl_Cut 7).1.D) (k : Kt R), loopN 0 (pa_impl_Cut 7) (fun s nid k => ev Try.prog ⟨ta_impl_Cut, 0, 67, pa_impl_Cut⟩ L_impl_Cut co_impl_Cut_7 s nid k) m d k = (lo_impl_Cut_7 m d.1 d.2.1 d.2.2.1 d.2.2.2.1 d.2.2.2.2.1 d.2.2.2.2.2.1 d.2.2.2.2.2.2.1).bind (ou_impl_Cut_7 k)
  | 0, _, _ => rfl
  | m + 1, ⟨v0, v1, v2, v3, v9, v11, r0, ⟨⟩⟩, k => (rd_impl_Cut_7 _ k v0 v1 v2 v3 v9 v11 r0).trans ((congrArg (fun F => tr_impl_Cut_7  F (fun d => k (.exit 0) (((pa_impl_Cut 7).2 2).st d) (((pa_impl_Cut 7).2 2).nid)) v0 v1 v2 v3 v9 v11 r0) (funext fun d => lp_impl_Cut_7 m d k)).trans (na_impl_Cut_7 (f := ou_impl_Cut_7 k)  (fun d => lo_impl_Cut_7 m d.1 d.2.1 d.2.2.1 d.2.2.2.1 d.2.2.2.2.1 d.2.2.2.2.2.1 d.2.2.2.2.2.2.1) (fun d => some (d)) v0 v1 v2 v3 v9 v11 r0))
theorem en_impl_Cut (a0 : ByteArray) (a1 : Int) (a2 : Int) (a3 : Int) : evalF Try.prog ta_impl_Cut pa_impl_Cut sg_impl_Cut Try.f7 L_impl_Cut (a0, a1, a2, a3, ()) = de_impl_Cut a0 a1 a2 a3 := by kernel_rfl
theorem si_impl_Cut : SigsOk Try.prog ta_impl_Cut := SigsOk.of fun f sd h => by
  try dsimp only [Tb.of, ta_impl_Cut] at h
  split at h
  · rename_i e; subst e; cases h; exact sn_impl_Pages
  split at h
  · rename_i e; subst e; cases h; exact sn_impl_in
  split at h
  · rename_i e; subst e; cases h; exact sn_impl_room
  split at h
  · rename_i e; subst e; cases h; exact sn_impl_FormPage
  cases h
theorem lk_impl_Cut_7 {R : Type} : LoopOk Try.prog R 67 0 pa_impl_Cut L_impl_Cut co_impl_Cut_7 :=
  loop_key (cfg := ⟨ta_impl_Cut, 0, 67, pa_impl_Cut⟩) (key := 7) (by kernel_rfl) (by kernel_rfl) si_impl_Cut rfl rfl (fun d k r h => ⟨fu_impl_Cut_7 d.1 d.2.1 d.2.2.1 d.2.2.2.1 d.2.2.2.2.1 d.2.2.2.2.2.1 d.2.2.2.2.2.2.1, (lp_impl_Cut_7 _ d k).trans h⟩) (fun c hc => by rw [show loopsIn co_impl_Cut_7 = [] from by kernel_rfl] at hc; cases hc)
theorem sn_impl_Cut : Callable Try.prog 7 ∧ Sound Try.prog 7 sd_impl_Cut.sg sd_impl_Cut.den :=
  fn_loops (pat := pa_impl_Cut) L_impl_Cut (by kernel_rfl) si_impl_Cut Try.func7 (by kernel_rfl) (by kernel_rfl) (fun c hc => by rw [show loopsIn (bodyOf Try.f7) = [co_impl_Cut_7] from by kernel_rfl] at hc; simp only [List.mem_cons, List.not_mem_nil, or_false] at hc; rcases hc with rfl <;> first | exact lk_impl_Cut_7) fun x r h => by
    obtain ⟨a0, a1, a2, a3, ⟨⟩⟩ := x; obtain ⟨y, h1, h2⟩ := Option.bind_eq_some_iff.1 (show (m_impl_Cut a0 a1 a2 a3).bind (fun r => some ((r, ()), (()))) = some r from h); cases h2; exact (en_impl_Cut a0 a1 a2 a3).trans (eq_impl_Cut a0 a1 a2 a3 _ h1)
def m_laws_eqStringS (a b : List ByteArray) : Option Bool := eqM (.sl .str) a b
def sg_laws_eqStringS : Sig := ⟨[.rd (.sl .str), .rd (.sl .str)], [none, none], [.rd .bool], [none]⟩
noncomputable def sd_laws_eqStringS : SD := ⟨sg_laws_eqStringS, fun x => (m_laws_eqStringS x.1 x.2.1).bind fun r => some ((r, ()), (()))⟩
noncomputable def ta_laws_eqStringS : Tb := Tb.of fun f => none
def pa_laws_eqStringS : Nat → Pat × (Nat → Pat) := fun k => if k = 5 then (⟨[.sl 0 0 .str, .sl 1 0 .str], [(0, .lf (.d (.sl .str))), (1, .lf (.d (.sl .str))), (5, .lf (.d (.int .i64)))], []⟩, fun e => if e = 1 then ⟨[], [(4, .lf (.d .bool))], []⟩ else if e = 2 then ⟨[], [], []⟩ else ⟨[], [], []⟩) else (⟨[], [], []⟩, fun _ => ⟨[], [], []⟩)
noncomputable def co_laws_eqStringS_5 : Code := (loopsIn (bodyOf Try.f8)).getD 0 .skip
def fu_laws_eqStringS_5 (v0 : List ByteArray) (v1 : List ByteArray) (v5 : Int) : Nat := ((v0.length : Int) - v5).toNat + 1
noncomputable def tr_laws_eqStringS_5 {R : Type}  (NX : ((List ByteArray) × (List ByteArray) × (Int) × Unit) → Option R) (X2 : (Unit) → Option R) (X1 : ((Bool) × Unit) → Option R) (v0 : List ByteArray) (v1 : List ByteArray) (v5 : Int) : Option R :=
  bif decide (v5 < nI (List.length v0)) then
    bif decide (0 ≤ v5) then
      bif decide (v5 < nI (List.length v0)) then
        bif decide (0 ≤ v5) then
          bif decide (v5 < nI (List.length v1)) then
            bif !ByteArray.toList (List.getD v0 (Int.toNat v5) (ByteArray.mk #[])) == ByteArray.toList (List.getD v1 (Int.toNat v5) (ByteArray.mk #[])) then X1 (false, ())
            else NX (v0, v1, IntKind.wrap IntKind.i64 (v5 + 1), ())
          else none
        else none
      else none
    else none
  else X2 PUnit.unit
noncomputable def lo_laws_eqStringS_5 : Nat → (List ByteArray) → (List ByteArray) → (Int) →  Option ((Unit) ⊕ ((Bool) × Unit))
  | 0, _, _, _ => none
  | m + 1, v0, v1, v5 => tr_laws_eqStringS_5  (fun d => lo_laws_eqStringS_5 m d.1 d.2.1 d.2.2.1) (fun d => some (.inl (d))) (fun d => some (.inr (d))) v0 v1 v5
theorem na_laws_eqStringS_5 {R S : Type}  (NX : ((List ByteArray) × (List ByteArray) × (Int) × Unit) → Option R) (X2 : (Unit) → Option R) (X1 : ((Bool) × Unit) → Option R) (v0 : List ByteArray) (v1 : List ByteArray) (v5 : Int) (f : R → Option S) : tr_laws_eqStringS_5  (fun d => (NX d).bind f) (fun d => (X2 d).bind f) (fun d => (X1 d).bind f) v0 v1 v5 = (tr_laws_eqStringS_5  NX X2 X1 v0 v1 v5).bind f := by
  unfold tr_laws_eqStringS_5
  simp only [cond_bind, ite_bind, onSum_bind, Option.bind_assoc, Option.bind_none, Option.bind_some]
noncomputable def de_laws_eqStringS (a0 : List ByteArray) (a1 : List ByteArray) : Option ((((Bool) × Unit) × (Unit))) :=
  bif nI (List.length a0) != nI (List.length a1) then some ((false, ()), ())
  else Option.bind ((fun d => lo_laws_eqStringS_5 (fu_laws_eqStringS_5 d.1 d.2.1 d.2.2.1) d.1 d.2.1 d.2.2.1) (a0, a1, 0, ())) fun val => onSum (fun val => some ((true, ()), ())) (fun val => some ((val.fst, ()), ())) val
theorem eq_laws_eqStringS (a0 : List ByteArray) (a1 : List ByteArray) r (h : m_laws_eqStringS a0 a1 = some r) : de_laws_eqStringS a0 a1 = some ((r, ()), (())) := by
  obtain ⟨hc, hd, rfl⟩ := eqM_some (t := .sl .str) h
  obtain ⟨hlx0, hx⟩ := fineB_sl hc
  obtain ⟨hly0, hy⟩ := fineB_sl hd
  have hlx : a0.length < 1152921504606846976 := hlx0
  have hly : a1.length < 1152921504606846976 := hly0
  clear hlx0 hly0 hc hd h
  · unfold de_laws_eqStringS
    by_cases hl : a1.length = a0.length
    · have c1 : (nI a0.length != nI a1.length) = false := by simp [nI, hl]
      have hL := eq_loop (xs := a0) (ys := a1) (ByteArray.mk #[]) eqS (g := fun m i => lo_laws_eqStringS_5 m a0 a1 i) (ok := .inl ()) (bad := .inr (false, ())) hl (fun m i hi => by
        show lo_laws_eqStringS_5 (m + 1) a0 a1 i = _
        simp only [lo_laws_eqStringS_5, tr_laws_eqStringS_5]
        rw [cLt hi, cLe0, cLt (show i < a1.length by omega), wI (by omega)]
        simp only [cond_true, Int.toNat_natCast]
        show (bif !(ByteArray.toList (List.getD (α := ByteArray) a0 i (ByteArray.mk #[])) == ByteArray.toList (List.getD (α := ByteArray) a1 i (ByteArray.mk #[]))) then _ else _) = bif (ByteArray.toList (List.getD (α := ByteArray) a0 i (ByteArray.mk #[])) == ByteArray.toList (List.getD (α := ByteArray) a1 i (ByteArray.mk #[]))) then _ else _
        cases (ByteArray.toList (List.getD (α := ByteArray) a0 i (ByteArray.mk #[])) == ByteArray.toList (List.getD (α := ByteArray) a1 i (ByteArray.mk #[]))) <;> rfl) (fun m => by
        show lo_laws_eqStringS_5 (m + 1) a0 a1 a0.length = _
        simp only [lo_laws_eqStringS_5, tr_laws_eqStringS_5]
        rw [cLtF]
        rfl) (fu_laws_eqStringS_5 a0 a1 0) 0 (by omega) (by simp [fu_laws_eqStringS_5])
      rw [c1]
      have hL' : lo_laws_eqStringS_5 (fu_laws_eqStringS_5 a0 a1 0) a0 a1 0 = _ := hL
      show (lo_laws_eqStringS_5 (fu_laws_eqStringS_5 a0 a1 0) a0 a1 0).bind _ = some ((eqL (α := ByteArray) eqS a0 a1, ()), ())
      rw [hL', List.drop_zero, List.drop_zero]
      cases eqL (α := ByteArray) eqS a0 a1 <;> rfl
    · have c1 : (nI a0.length != nI a1.length) = true := by simp [nI]; omega
      rw [c1]
      show _ = some ((eqL (α := ByteArray) eqS a0 a1, ()), ())
      rw [eqL_len (fun q => hl q.symm)]
      rfl
noncomputable def ou_laws_eqStringS_5 {R : Type} (k : Kt R) : ((Unit) ⊕ ((Bool) × Unit)) → Option R := (onSum (fun d => k (.exit 0) (((pa_laws_eqStringS 5).2 2).st d) (((pa_laws_eqStringS 5).2 2).nid)) (fun d => k .ret (((pa_laws_eqStringS 5).2 1).st d) (((pa_laws_eqStringS 5).2 1).nid)))
noncomputable def L_laws_eqStringS {R : Type} : Lt R pa_laws_eqStringS := (addL (pat := pa_laws_eqStringS) 5 (fun d k => (lo_laws_eqStringS_5 (fu_laws_eqStringS_5 d.1 d.2.1 d.2.2.1) d.1 d.2.1 d.2.2.1).bind (ou_laws_eqStringS_5 k)) noL)
theorem rd_laws_eqStringS_5 {R : Type} (nx : (pa_laws_eqStringS 5).1.D → Kt R → Option R) (k : Kt R) (v0 : List ByteArray) (v1 : List ByteArray) (v5 : Int) : ev Try.prog ⟨ta_laws_eqStringS, 0, 26, pa_laws_eqStringS⟩ L_laws_eqStringS co_laws_eqStringS_5 ((pa_laws_eqStringS 5).1.st (v0, v1, v5, ())) (pa_laws_eqStringS 5).1.nid (roundK 0 (pa_laws_eqStringS 5) nx k) = tr_laws_eqStringS_5  (fun d => nx d k) (fun d => k (.exit 0) (((pa_laws_eqStringS 5).2 2).st d) (((pa_laws_eqStringS 5).2 2).nid)) (fun d => k .ret (((pa_laws_eqStringS 5).2 1).st d) (((pa_laws_eqStringS 5).2 1).nid)) v0 v1 v5 := by kernel_rfl
theorem lp_laws_eqStringS_5 {R : Type} : ∀ (m : Nat) (d : (pa_laws_eqStringS 5).1.D) (k : Kt R), loopN 0 (pa_laws_eqStringS 5) (fun s nid k => ev Try.prog ⟨ta_laws_eqStringS, 0, 26, pa_laws_eqStringS⟩ L_laws_eqStringS co_laws_eqStringS_5 s nid k) m d k = (lo_laws_eqStringS_5 m d.1 d.2.1 d.2.2.1).bind (ou_laws_eqStringS_5 k)
  | 0, _, _ => rfl
  | m + 1, ⟨v0, v1, v5, ⟨⟩⟩, k => (rd_laws_eqStringS_5 _ k v0 v1 v5).trans ((congrArg (fun F => tr_laws_eqStringS_5  F (fun d => k (.exit 0) (((pa_laws_eqStringS 5).2 2).st d) (((pa_laws_eqStringS 5).2 2).nid)) (fun d => k .ret (((pa_laws_eqStringS 5).2 1).st d) (((pa_laws_eqStringS 5).2 1).nid)) v0 v1 v5) (funext fun d => lp_laws_eqStringS_5 m d k)).trans (na_laws_eqStringS_5 (f := ou_laws_eqStringS_5 k)  (fun d => lo_laws_eqStringS_5 m d.1 d.2.1 d.2.2.1) (fun d => some (.inl (d))) (fun d => some (.inr (d))) v0 v1 v5))
theorem en_laws_eqStringS (a0 : List ByteArray) (a1 : List ByteArray) : evalF Try.prog ta_laws_eqStringS pa_laws_eqStringS sg_laws_eqStringS Try.f8 L_laws_eqStringS (a0, a1, ()) = de_laws_eqStringS a0 a1 := by kernel_rfl
theorem si_laws_eqStringS : SigsOk Try.prog ta_laws_eqStringS := SigsOk.of fun f sd h => by
  try dsimp only [Tb.of, ta_laws_eqStringS] at h
  cases h
theorem lk_laws_eqStringS_5 {R : Type} : LoopOk Try.prog R 26 0 pa_laws_eqStringS L_laws_eqStringS co_laws_eqStringS_5 :=
  loop_key (cfg := ⟨ta_laws_eqStringS, 0, 26, pa_laws_eqStringS⟩) (key := 5) (by kernel_rfl) (by kernel_rfl) si_laws_eqStringS rfl rfl (fun d k r h => ⟨fu_laws_eqStringS_5 d.1 d.2.1 d.2.2.1, (lp_laws_eqStringS_5 _ d k).trans h⟩) (fun c hc => by rw [show loopsIn co_laws_eqStringS_5 = [] from by kernel_rfl] at hc; cases hc)
theorem sn_laws_eqStringS : Callable Try.prog 8 ∧ Sound Try.prog 8 sd_laws_eqStringS.sg sd_laws_eqStringS.den :=
  fn_loops (pat := pa_laws_eqStringS) L_laws_eqStringS (by kernel_rfl) si_laws_eqStringS Try.func8 (by kernel_rfl) (by kernel_rfl) (fun c hc => by rw [show loopsIn (bodyOf Try.f8) = [co_laws_eqStringS_5] from by kernel_rfl] at hc; simp only [List.mem_cons, List.not_mem_nil, or_false] at hc; rcases hc with rfl <;> first | exact lk_laws_eqStringS_5) fun x r h => by
    obtain ⟨a0, a1, ⟨⟩⟩ := x; obtain ⟨y, h1, h2⟩ := Option.bind_eq_some_iff.1 (show (m_laws_eqStringS a0 a1).bind (fun r => some ((r, ()), (()))) = some r from h); cases h2; exact (en_laws_eqStringS a0 a1).trans (eq_laws_eqStringS a0 a1 _ h1)
def m_laws_markText (k : Int) : Option ByteArray := if k ≤ 36028797018963968 then some (mkT k) else none
def fu_laws_markText_5 (v0 : Int) (v3 : ByteArray) : Nat := 21
def sg_laws_markText : Sig := ⟨[.rd (.int .i64)], [none], [.rd .str], [none]⟩
noncomputable def sd_laws_markText : SD := ⟨sg_laws_markText, fun x => (m_laws_markText x.1).bind fun r => some ((r, ()), (()))⟩
noncomputable def ta_laws_markText : Tb := Tb.of fun f => none
def pa_laws_markText : Nat → Pat × (Nat → Pat) := fun k => if k = 5 then (⟨[], [(0, .lf (.d (.int .i64))), (3, .lf (.d .str))], []⟩, fun e => if e = 2 then ⟨[], [(3, .lf (.d .str))], []⟩ else ⟨[], [], []⟩) else (⟨[], [], []⟩, fun _ => ⟨[], [], []⟩)
noncomputable def co_laws_markText_5 : Code := (loopsIn (bodyOf Try.f32)).getD 0 .skip
noncomputable def tr_laws_markText_5 {R : Type}  (NX : ((Int) × (ByteArray) × Unit) → Option R) (X2 : ((ByteArray) × Unit) → Option R) (v0 : Int) (v3 : ByteArray) : Option R :=
  bif decide (v0 > 0) then
    bif decide (ByteArray.size (strOfNums [IntKind.wrap IntKind.u8 (IntKind.wrap IntKind.i64 (48 + Int.tmod v0 10))]) + ByteArray.size v3 ≤ 9223372036854775807) then
      NX (IntKind.wrap IntKind.i64 (Int.tdiv v0 10), strOfNums [IntKind.wrap IntKind.u8 (IntKind.wrap IntKind.i64 (48 + Int.tmod v0 10))] ++ v3, ())
    else none
  else X2 (v3, ())
noncomputable def lo_laws_markText_5 : Nat → (Int) → (ByteArray) →  Option ((ByteArray) × Unit)
  | 0, _, _ => none
  | m + 1, v0, v3 => tr_laws_markText_5  (fun d => lo_laws_markText_5 m d.1 d.2.1) (fun d => some (d)) v0 v3
theorem na_laws_markText_5 {R S : Type}  (NX : ((Int) × (ByteArray) × Unit) → Option R) (X2 : ((ByteArray) × Unit) → Option R) (v0 : Int) (v3 : ByteArray) (f : R → Option S) : tr_laws_markText_5  (fun d => (NX d).bind f) (fun d => (X2 d).bind f) v0 v3 = (tr_laws_markText_5  NX X2 v0 v3).bind f := by
  unfold tr_laws_markText_5
  simp only [cond_bind, ite_bind, onSum_bind, Option.bind_assoc, Option.bind_none, Option.bind_some]
noncomputable def de_laws_markText (a0 : Int) : Option ((((ByteArray) × Unit) × (Unit))) :=
  bif decide (a0 ≤ 0) then some ((ByteArray.mk #[109, 48], ()), ())
  else
    Option.bind ((fun d => lo_laws_markText_5 (fu_laws_markText_5 d.1 d.2.1) d.1 d.2.1) (a0, ByteArray.mk #[], ())) fun val =>
      bif decide (ByteArray.size (ByteArray.mk #[109]) + ByteArray.size val.fst ≤ 9223372036854775807) then some ((ByteArray.mk #[109] ++ val.fst, ()), ()) else none
theorem digit_byte {k : Int} (h : 0 ≤ k) : IntKind.wrap .u8 (IntKind.wrap .i64 (48 + Int.tmod k 10)) = 48 + k % 10 := by
  rw [Int.tmod_eq_emod_of_nonneg h]
  have h1 : 0 ≤ k % 10 := Int.emod_nonneg _ (by omega)
  have h2 : k % 10 < 10 := Int.emod_lt_of_pos _ (by omega)
  have e1 : IntKind.wrap .i64 (48 + k % 10) = 48 + k % 10 := wrap_ok (by omega) (by omega)
  rw [e1]
  simp [IntKind.wrap, IntKind.bits, IntKind.signed]
  omega
theorem lo_laws_markText : ∀ (m : Nat) (k : Int) (out : ByteArray), 0 ≤ k → k ≤ 36028797018963968 → k < 10 ^ m → out.size + m ≤ 100 → lo_laws_markText_5 (m + 1) k out = some (digsGo m k out, ())
  | 0, k, out, h0, hb, h1, _ => by
    simp only [lo_laws_markText_5, tr_laws_markText_5]
    have : ¬ k > 0 := by simp at h1; omega
    rw [decide_eq_false this]
    rfl
  | m + 1, k, out, h0, hb, h1, h2 => by
    rw [lo_laws_markText_5]
    simp only [tr_laws_markText_5, digsGo]
    by_cases h : k > 0
    · have e : IntKind.wrap .i64 (Int.tdiv k 10) = k / 10 := by
        rw [Int.tdiv_eq_ediv_of_nonneg h0]
        exact wrap_ok (by omega) (by omega)
      have hs : ByteArray.size (strOfNums [48 + k % 10]) = 1 := strOfNums_size _
      have h3 : k / 10 < 10 ^ m := Int.ediv_lt_of_lt_mul (by omega) (by rw [Int.pow_succ] at h1; exact h1)
      have c : ByteArray.size (strOfNums [48 + k % 10]) + ByteArray.size out ≤ 9223372036854775807 := by rw [hs]; omega
      have ih := lo_laws_markText m (k / 10) (strOfNums [48 + k % 10] ++ out) (by omega) (by omega) h3 (by rw [ByteArray.size_append, hs]; omega)
      rw [digit_byte h0, decide_eq_true h, if_pos h, e, decide_eq_true c]
      exact ih
    · rw [decide_eq_false h, if_neg h]
      rfl
theorem digsGo_size : ∀ (m : Nat) (k : Int) (out : ByteArray), (digsGo m k out).size ≤ out.size + m
  | 0, k, out => Nat.le_refl _
  | m + 1, k, out => by
    simp only [digsGo]
    split
    · have := digsGo_size m (k / 10) (strOfNums [48 + k % 10] ++ out)
      rw [ByteArray.size_append, strOfNums_size] at this
      simp at this
      omega
    · omega
theorem eq_laws_markText (a0 : Int) r (h : m_laws_markText a0 = some r) : de_laws_markText a0 = some ((r, ()), (())) := by
  unfold m_laws_markText at h
  split at h
  · rename_i hc
    cases h
    unfold de_laws_markText mkT
    by_cases q : a0 ≤ 0
    · rw [decide_eq_true q, if_pos q]; rfl
    · rw [decide_eq_false q, if_neg q]
      have hL := lo_laws_markText 20 a0 ⟨#[]⟩ (by omega) hc (by omega) (by decide)
      have hL' : lo_laws_markText_5 (fu_laws_markText_5 a0 ⟨#[]⟩) a0 ⟨#[]⟩ = _ := hL
      show (lo_laws_markText_5 (fu_laws_markText_5 a0 ⟨#[]⟩) a0 ⟨#[]⟩).bind _ = _
      rw [hL']
      have := digsGo_size 20 a0 ⟨#[]⟩
      have h0 : ByteArray.size ⟨#[]⟩ = 0 := rfl
      have h1 : ByteArray.size ⟨#[109]⟩ = 1 := rfl
      have c : ByteArray.size ⟨#[109]⟩ + ByteArray.size (digsGo 20 a0 ⟨#[]⟩) ≤ 9223372036854775807 := by omega
      show (bif decide (ByteArray.size ⟨#[109]⟩ + ByteArray.size (digsGo 20 a0 ⟨#[]⟩) ≤ 9223372036854775807) then _ else _) = _
      rw [decide_eq_true c]
      rfl
  · cases h
noncomputable def ou_laws_markText_5 {R : Type} (k : Kt R) : ((ByteArray) × Unit) → Option R := (fun d => k (.exit 0) (((pa_laws_markText 5).2 2).st d) (((pa_laws_markText 5).2 2).nid))
noncomputable def L_laws_markText {R : Type} : Lt R pa_laws_markText := (addL (pat := pa_laws_markText) 5 (fun d k => (lo_laws_markText_5 (fu_laws_markText_5 d.1 d.2.1) d.1 d.2.1).bind (ou_laws_markText_5 k)) noL)
theorem rd_laws_markText_5 {R : Type} (nx : (pa_laws_markText 5).1.D → Kt R → Option R) (k : Kt R) (v0 : Int) (v3 : ByteArray) : ev Try.prog ⟨ta_laws_markText, 0, 20, pa_laws_markText⟩ L_laws_markText co_laws_markText_5 ((pa_laws_markText 5).1.st (v0, v3, ())) (pa_laws_markText 5).1.nid (roundK 0 (pa_laws_markText 5) nx k) = tr_laws_markText_5  (fun d => nx d k) (fun d => k (.exit 0) (((pa_laws_markText 5).2 2).st d) (((pa_laws_markText 5).2 2).nid)) v0 v3 := by kernel_rfl
theorem lp_laws_markText_5 {R : Type} : ∀ (m : Nat) (d : (pa_laws_markText 5).1.D) (k : Kt R), loopN 0 (pa_laws_markText 5) (fun s nid k => ev Try.prog ⟨ta_laws_markText, 0, 20, pa_laws_markText⟩ L_laws_markText co_laws_markText_5 s nid k) m d k = (lo_laws_markText_5 m d.1 d.2.1).bind (ou_laws_markText_5 k)
  | 0, _, _ => rfl
  | m + 1, ⟨v0, v3, ⟨⟩⟩, k => (rd_laws_markText_5 _ k v0 v3).trans ((congrArg (fun F => tr_laws_markText_5  F (fun d => k (.exit 0) (((pa_laws_markText 5).2 2).st d) (((pa_laws_markText 5).2 2).nid)) v0 v3) (funext fun d => lp_laws_markText_5 m d k)).trans (na_laws_markText_5 (f := ou_laws_markText_5 k)  (fun d => lo_laws_markText_5 m d.1 d.2.1) (fun d => some (d)) v0 v3))
theorem en_laws_markText (a0 : Int) : evalF Try.prog ta_laws_markText pa_laws_markText sg_laws_markText Try.f32 L_laws_markText (a0, ()) = de_laws_markText a0 := by kernel_rfl
theorem si_laws_markText : SigsOk Try.prog ta_laws_markText := SigsOk.of fun f sd h => by
  try dsimp only [Tb.of, ta_laws_markText] at h
  cases h
theorem lk_laws_markText_5 {R : Type} : LoopOk Try.prog R 20 0 pa_laws_markText L_laws_markText co_laws_markText_5 :=
  loop_key (cfg := ⟨ta_laws_markText, 0, 20, pa_laws_markText⟩) (key := 5) (by kernel_rfl) (by kernel_rfl) si_laws_markText rfl rfl (fun d k r h => ⟨fu_laws_markText_5 d.1 d.2.1, (lp_laws_markText_5 _ d k).trans h⟩) (fun c hc => by rw [show loopsIn co_laws_markText_5 = [] from by kernel_rfl] at hc; cases hc)
theorem sn_laws_markText : Callable Try.prog 32 ∧ Sound Try.prog 32 sd_laws_markText.sg sd_laws_markText.den :=
  fn_loops (pat := pa_laws_markText) L_laws_markText (by kernel_rfl) si_laws_markText Try.func32 (by kernel_rfl) (by kernel_rfl) (fun c hc => by rw [show loopsIn (bodyOf Try.f32) = [co_laws_markText_5] from by kernel_rfl] at hc; simp only [List.mem_cons, List.not_mem_nil, or_false] at hc; rcases hc with rfl <;> first | exact lk_laws_markText_5) fun x r h => by
    obtain ⟨a0, ⟨⟩⟩ := x; obtain ⟨y, h1, h2⟩ := Option.bind_eq_some_iff.1 (show (m_laws_markText a0).bind (fun r => some ((r, ()), (()))) = some r from h); cases h2; exact (en_laws_markText a0).trans (eq_laws_markText a0 _ h1)
def m_laws_markStringS (a : List ByteArray) (k : Int) : Option (Int × (List ByteArray)) := markM .str a k
def sg_laws_markStringS : Sig := ⟨[.mu 9 .str, .rd (.int .i64)], [none, none], [.rd (.int .i64)], [none]⟩
noncomputable def sd_laws_markStringS : SD := ⟨sg_laws_markStringS, fun x => (m_laws_markStringS x.1 x.2.1).bind fun r => some ((r.1, ()), (r.2, ()))⟩
noncomputable def ta_laws_markStringS : Tb := Tb.of fun f => if f = 32 then some sd_laws_markText else none
def pa_laws_markStringS : Nat → Pat × (Nat → Pat) := fun k => if k = 3 then (⟨[], [(0, .lf (.row 0)), (1, .lf (.d (.int .i64))), (5, .lf (.d (.int .i64)))], [.row 9 .str]⟩, fun e => if e = 2 then ⟨[], [(1, .lf (.d (.int .i64)))], [.row 9 .str]⟩ else ⟨[], [], []⟩) else (⟨[], [], []⟩, fun _ => ⟨[], [], []⟩)
noncomputable def co_laws_markStringS_3 : Code := (loopsIn (bodyOf Try.f9)).getD 0 .skip
def fu_laws_markStringS_3 (v1 : Int) (v5 : Int) (r0 : List ByteArray) : Nat := ((r0.length : Int) - v5).toNat + 1
noncomputable def tr_laws_markStringS_3 {R : Type}  (NX : ((Int) × (Int) × (List ByteArray) × Unit) → Option R) (X2 : ((Int) × (List ByteArray) × Unit) → Option R) (v1 : Int) (v5 : Int) (r0 : List ByteArray) : Option R :=
  bif decide (v5 < nI (List.length r0)) then
    Option.bind (Option.bind (m_laws_markText v1) fun val => some ((val, ()), ())) fun val =>
      bif decide (0 ≤ v5) then
        bif decide (v5 < nI (List.length r0)) then
          bif decide (Int.toNat v5 < List.length r0) then NX (IntKind.wrap IntKind.i64 (v1 + 1), IntKind.wrap IntKind.i64 (v5 + 1), List.set r0 (Int.toNat v5) val.fst.fst, ()) else none
        else none
      else none
  else X2 (v1, r0, ())
noncomputable def lo_laws_markStringS_3 : Nat → (Int) → (Int) → (List ByteArray) →  Option ((Int) × (List ByteArray) × Unit)
  | 0, _, _, _ => none
  | m + 1, v1, v5, r0 => tr_laws_markStringS_3  (fun d => lo_laws_markStringS_3 m d.1 d.2.1 d.2.2.1) (fun d => some (d)) v1 v5 r0
theorem na_laws_markStringS_3 {R S : Type}  (NX : ((Int) × (Int) × (List ByteArray) × Unit) → Option R) (X2 : ((Int) × (List ByteArray) × Unit) → Option R) (v1 : Int) (v5 : Int) (r0 : List ByteArray) (f : R → Option S) : tr_laws_markStringS_3  (fun d => (NX d).bind f) (fun d => (X2 d).bind f) v1 v5 r0 = (tr_laws_markStringS_3  NX X2 v1 v5 r0).bind f := by
  unfold tr_laws_markStringS_3
  simp only [cond_bind, ite_bind, onSum_bind, Option.bind_assoc, Option.bind_none, Option.bind_some]
noncomputable def de_laws_markStringS (a0 : List ByteArray) (a1 : Int) : Option ((((Int) × Unit) × ((List ByteArray) × Unit))) :=
  Option.bind ((fun d => lo_laws_markStringS_3 (fu_laws_markStringS_3 d.1 d.2.1 d.2.2.1) d.1 d.2.1 d.2.2.1) (a1, 0, a0, ())) fun val => some ((val.fst, ()), val.snd.fst, ())
theorem eq_laws_markStringS (a0 : List ByteArray) (a1 : Int) r (h : m_laws_markStringS a0 a1 = some r) : de_laws_markStringS a0 a1 = some ((r.1, ()), (r.2, ())) := by
  obtain ⟨g0, g1, hl0, rfl⟩ := markM_some (t := .str) h
  have hl : a0.length ≤ 1125899906842624 := hl0
  have hEE : (fun k : Int => (show ByteArray from (mkE .str k).1)) = (fun k : Int => mkT (k)) := funext fun k => by
    show mkT (k) = mkT (k)
    try simp only [Int.add_assoc, Int.add_zero]
    try rfl
  show _ = some ((a1 + (a0.length : Int) * 1, ()), (gL (fun k : Int => (show ByteArray from (mkE .str k).1)) 1 a0.length a1, ()))
  rw [hEE]
  unfold de_laws_markStringS
  have hL := mark_loop (fun k : Int => mkT (k)) 1 (n := a0.length) (K := 36028797018963000) (g := fun m k i r => lo_laws_markStringS_3 m k i r) (ok := fun k r => (k, r, ())) (fun m i k r hi hr h1 hK => by
    show lo_laws_markStringS_3 (m + 1) k i r = _
    have hK1 : k + 1 ≤ 36028797018963000 := by
      have : (1 : Int) ≤ (a0.length - i : Nat) := by omega
      omega
    rw [show lo_laws_markStringS_3 (m + 1) k i r = lo_laws_markStringS_3 (m + 1) (k + 0) i r from by rw [Int.add_zero]]
    have k0 : k = k + 0 := (Int.add_zero k).symm
    have t0 : m_laws_markText (k + 0) = some (mkT (k + 0)) := if_pos (by omega)
    have w0 : IntKind.wrap IntKind.i64 (k + 0 + 1) = k + 1 := by rw [wrap_ok (by omega) (by omega)]; omega
    have hir : i < r.length := by omega
    simp only [lo_laws_markStringS_3, tr_laws_markStringS_3]
    simp only [t0,  Option.bind_some, w0,  List.length_set, List.set_set, cLt hir, cLe0, cLtN hir, wI (show i < 4611686018427387904 by omega), cond_true, Int.toNat_natCast, getD_set hir]
    first | rfl | (rw [Int.add_zero]; rfl) | (simp only [Int.add_zero]; rfl)) (fun m k r hr => by
    show lo_laws_markStringS_3 (m + 1) k a0.length r = _
    simp only [lo_laws_markStringS_3, tr_laws_markStringS_3, hr]
    rw [cLtF]
    rfl) (fu_laws_markStringS_3 a1 0 a0) 0 a1 a0 (by omega) (by simp [fu_laws_markStringS_3]) rfl g0 (by omega)
  have hL' : lo_laws_markStringS_3 (fu_laws_markStringS_3 a1 0 a0) a1 0 a0 = _ := hL
  show (lo_laws_markStringS_3 (fu_laws_markStringS_3 a1 0 a0) a1 0 a0).bind _ = _
  rw [hL']
  rfl
noncomputable def ou_laws_markStringS_3 {R : Type} (k : Kt R) : ((Int) × (List ByteArray) × Unit) → Option R := (fun d => k (.exit 0) (((pa_laws_markStringS 3).2 2).st d) (((pa_laws_markStringS 3).2 2).nid))
noncomputable def L_laws_markStringS {R : Type} : Lt R pa_laws_markStringS := (addL (pat := pa_laws_markStringS) 3 (fun d k => (lo_laws_markStringS_3 (fu_laws_markStringS_3 d.1 d.2.1 d.2.2.1) d.1 d.2.1 d.2.2.1).bind (ou_laws_markStringS_3 k)) noL)
theorem rd_laws_markStringS_3 {R : Type} (nx : (pa_laws_markStringS 3).1.D → Kt R → Option R) (k : Kt R) (v1 : Int) (v5 : Int) (r0 : List ByteArray) : ev Try.prog ⟨ta_laws_markStringS, 1, 20, pa_laws_markStringS⟩ L_laws_markStringS co_laws_markStringS_3 ((pa_laws_markStringS 3).1.st (v1, v5, r0, ())) (pa_laws_markStringS 3).1.nid (roundK 1 (pa_laws_markStringS 3) nx k) = tr_laws_markStringS_3  (fun d => nx d k) (fun d => k (.exit 0) (((pa_laws_markStringS 3).2 2).st d) (((pa_laws_markStringS 3).2 2).nid)) v1 v5 r0 := by kernel_rfl
theorem lp_laws_markStringS_3 {R : Type} : ∀ (m : Nat) (d : (pa_laws_markStringS 3).1.D) (k : Kt R), loopN 1 (pa_laws_markStringS 3) (fun s nid k => ev Try.prog ⟨ta_laws_markStringS, 1, 20, pa_laws_markStringS⟩ L_laws_markStringS co_laws_markStringS_3 s nid k) m d k = (lo_laws_markStringS_3 m d.1 d.2.1 d.2.2.1).bind (ou_laws_markStringS_3 k)
  | 0, _, _ => rfl
  | m + 1, ⟨v1, v5, r0, ⟨⟩⟩, k => (rd_laws_markStringS_3 _ k v1 v5 r0).trans ((congrArg (fun F => tr_laws_markStringS_3  F (fun d => k (.exit 0) (((pa_laws_markStringS 3).2 2).st d) (((pa_laws_markStringS 3).2 2).nid)) v1 v5 r0) (funext fun d => lp_laws_markStringS_3 m d k)).trans (na_laws_markStringS_3 (f := ou_laws_markStringS_3 k)  (fun d => lo_laws_markStringS_3 m d.1 d.2.1 d.2.2.1) (fun d => some (d)) v1 v5 r0))
theorem en_laws_markStringS (a0 : List ByteArray) (a1 : Int) : evalF Try.prog ta_laws_markStringS pa_laws_markStringS sg_laws_markStringS Try.f9 L_laws_markStringS (a0, a1, ()) = de_laws_markStringS a0 a1 := by kernel_rfl
theorem si_laws_markStringS : SigsOk Try.prog ta_laws_markStringS := SigsOk.of fun f sd h => by
  try dsimp only [Tb.of, ta_laws_markStringS] at h
  split at h
  · rename_i e; subst e; cases h; exact sn_laws_markText
  cases h
theorem lk_laws_markStringS_3 {R : Type} : LoopOk Try.prog R 20 1 pa_laws_markStringS L_laws_markStringS co_laws_markStringS_3 :=
  loop_key (cfg := ⟨ta_laws_markStringS, 1, 20, pa_laws_markStringS⟩) (key := 3) (by kernel_rfl) (by kernel_rfl) si_laws_markStringS rfl rfl (fun d k r h => ⟨fu_laws_markStringS_3 d.1 d.2.1 d.2.2.1, (lp_laws_markStringS_3 _ d k).trans h⟩) (fun c hc => by rw [show loopsIn co_laws_markStringS_3 = [] from by kernel_rfl] at hc; cases hc)
theorem sn_laws_markStringS : Callable Try.prog 9 ∧ Sound Try.prog 9 sd_laws_markStringS.sg sd_laws_markStringS.den :=
  fn_loops (pat := pa_laws_markStringS) L_laws_markStringS (by kernel_rfl) si_laws_markStringS Try.func9 (by kernel_rfl) (by kernel_rfl) (fun c hc => by rw [show loopsIn (bodyOf Try.f9) = [co_laws_markStringS_3] from by kernel_rfl] at hc; simp only [List.mem_cons, List.not_mem_nil, or_false] at hc; rcases hc with rfl <;> first | exact lk_laws_markStringS_3) fun x r h => by
    obtain ⟨a0, a1, ⟨⟩⟩ := x; obtain ⟨y, h1, h2⟩ := Option.bind_eq_some_iff.1 (show (m_laws_markStringS a0 a1).bind (fun r => some ((r.1, ()), (r.2, ()))) = some r from h); cases h2; exact (en_laws_markStringS a0 a1).trans (eq_laws_markStringS a0 a1 _ h1)
def m_laws_heldStringS (a : List ByteArray) (k : Int) : Option Int := heldM .str a k
def sg_laws_heldStringS : Sig := ⟨[.rd (.sl .str), .rd (.int .i64)], [none, none], [.rd (.int .i64)], [none]⟩
noncomputable def sd_laws_heldStringS : SD := ⟨sg_laws_heldStringS, fun x => (m_laws_heldStringS x.1 x.2.1).bind fun r => some ((r, ()), (()))⟩
noncomputable def ta_laws_heldStringS : Tb := Tb.of fun f => if f = 32 then some sd_laws_markText else none
def pa_laws_heldStringS : Nat → Pat × (Nat → Pat) := fun k => if k = 3 then (⟨[.sl 0 0 .str], [(0, .lf (.d (.sl .str))), (1, .lf (.d (.int .i64))), (5, .lf (.d (.int .i64)))], []⟩, fun e => if e = 1 then ⟨[], [(4, .lf (.d (.int .i64)))], []⟩ else if e = 2 then ⟨[], [(1, .lf (.d (.int .i64)))], []⟩ else ⟨[], [], []⟩) else (⟨[], [], []⟩, fun _ => ⟨[], [], []⟩)
noncomputable def co_laws_heldStringS_3 : Code := (loopsIn (bodyOf Try.f10)).getD 0 .skip
def fu_laws_heldStringS_3 (v0 : List ByteArray) (v1 : Int) (v5 : Int) : Nat := ((v0.length : Int) - v5).toNat + 1
noncomputable def tr_laws_heldStringS_3 {R : Type}  (NX : ((List ByteArray) × (Int) × (Int) × Unit) → Option R) (X2 : ((Int) × Unit) → Option R) (X1 : ((Int) × Unit) → Option R) (v0 : List ByteArray) (v1 : Int) (v5 : Int) : Option R :=
  bif decide (v5 < nI (List.length v0)) then
    bif decide (0 ≤ v5) then
      bif decide (v5 < nI (List.length v0)) then
        Option.bind (Option.bind (m_laws_markText v1) fun val => some ((val, ()), ())) fun val =>
          bif !ByteArray.toList (List.getD v0 (Int.toNat v5) (ByteArray.mk #[])) == ByteArray.toList val.fst.fst then X1 (-1, ())
          else NX (v0, IntKind.wrap IntKind.i64 (v1 + 1), IntKind.wrap IntKind.i64 (v5 + 1), ())
      else none
    else none
  else X2 (v1, ())
noncomputable def lo_laws_heldStringS_3 : Nat → (List ByteArray) → (Int) → (Int) →  Option (((Int) × Unit) ⊕ ((Int) × Unit))
  | 0, _, _, _ => none
  | m + 1, v0, v1, v5 => tr_laws_heldStringS_3  (fun d => lo_laws_heldStringS_3 m d.1 d.2.1 d.2.2.1) (fun d => some (.inl (d))) (fun d => some (.inr (d))) v0 v1 v5
theorem na_laws_heldStringS_3 {R S : Type}  (NX : ((List ByteArray) × (Int) × (Int) × Unit) → Option R) (X2 : ((Int) × Unit) → Option R) (X1 : ((Int) × Unit) → Option R) (v0 : List ByteArray) (v1 : Int) (v5 : Int) (f : R → Option S) : tr_laws_heldStringS_3  (fun d => (NX d).bind f) (fun d => (X2 d).bind f) (fun d => (X1 d).bind f) v0 v1 v5 = (tr_laws_heldStringS_3  NX X2 X1 v0 v1 v5).bind f := by
  unfold tr_laws_heldStringS_3
  simp only [cond_bind, ite_bind, onSum_bind, Option.bind_assoc, Option.bind_none, Option.bind_some]
noncomputable def de_laws_heldStringS (a0 : List ByteArray) (a1 : Int) : Option ((((Int) × Unit) × (Unit))) :=
  Option.bind ((fun d => lo_laws_heldStringS_3 (fu_laws_heldStringS_3 d.1 d.2.1 d.2.2.1) d.1 d.2.1 d.2.2.1) (a0, a1, 0, ())) fun val => onSum (fun val => some ((val.fst, ()), ())) (fun val => some ((val.fst, ()), ())) val
theorem eq_laws_heldStringS (a0 : List ByteArray) (a1 : Int) r (h : m_laws_heldStringS a0 a1 = some r) : de_laws_heldStringS a0 a1 = some ((r, ()), (())) := by
  obtain ⟨g0, g1, hl0, rfl⟩ := heldM_some (t := .str) h
  have hl : a0.length ≤ 1125899906842624 := hl0
  have hEE : (fun k : Int => (show ByteArray from (mkE .str k).1)) = (fun k : Int => mkT (k)) := funext fun k => by
    show mkT (k) = mkT (k)
    try simp only [Int.add_assoc, Int.add_zero]
    try rfl
  show _ = some ((if eqL (α := ByteArray) eqS a0 (gL (fun k : Int => (show ByteArray from (mkE .str k).1)) 1 a0.length a1) = true then a1 + (a0.length : Int) * 1 else -1, ()), ())
  rw [hEE]
  unfold de_laws_heldStringS
  have hL := held_loop (xs := a0) (ByteArray.mk #[]) eqS (fun k : Int => mkT (k)) 1 (K := 36028797018963000) (g := fun m k i => lo_laws_heldStringS_3 m a0 k i) (ok := fun k => .inl (k, ())) (bad := .inr (-1, ())) (fun m i k hi h1 hK => by
    show lo_laws_heldStringS_3 (m + 1) a0 k i = bif eqS (List.getD (α := ByteArray) a0 i (ByteArray.mk #[])) ((fun k : Int => mkT (k)) k) then lo_laws_heldStringS_3 m a0 (k + 1) ((i + 1 : Nat) : Int) else _
    have hK1 : k + 1 ≤ 36028797018963000 := by
      have : (1 : Int) ≤ (a0.length - i : Nat) := by omega
      omega
    have hE : eqS (List.getD (α := ByteArray) a0 i (ByteArray.mk #[])) ((fun k : Int => mkT (k)) k) = eqS (List.getD (α := ByteArray) a0 i (ByteArray.mk #[])) (mkT (k + 0)) := by
      try simp only [Int.add_zero]
      try rfl
    rw [hE, show lo_laws_heldStringS_3 (m + 1) a0 k i = lo_laws_heldStringS_3 (m + 1) a0 (k + 0) i from by rw [Int.add_zero]]
    have k0 : k = k + 0 := (Int.add_zero k).symm
    have t0 : m_laws_markText (k + 0) = some (mkT (k + 0)) := if_pos (by omega)
    have w0 : IntKind.wrap IntKind.i64 (k + 0 + 1) = k + 1 := by rw [wrap_ok (by omega) (by omega)]; omega
    have v0 : (!(ByteArray.toList (List.getD (α := ByteArray) a0 i (ByteArray.mk #[])) == ByteArray.toList (mkT (k + 0)))) = !eqS (List.getD (α := ByteArray) a0 i (ByteArray.mk #[])) (mkT (k + 0)) := rfl
    simp only [lo_laws_heldStringS_3, tr_laws_heldStringS_3]
    simp only [t0,  Option.bind_some, w0,  cLt hi, cLe0, wI (show i < 4611686018427387904 by omega), cond_true, Int.toNat_natCast, v0]
    generalize eqS (List.getD (α := ByteArray) a0 i (ByteArray.mk #[])) (mkT (k + 0)) = p0
    cases p0 <;> rfl) (fun m k => by
    show lo_laws_heldStringS_3 (m + 1) a0 k a0.length = _
    simp only [lo_laws_heldStringS_3, tr_laws_heldStringS_3]
    rw [cLtF]
    rfl) (fu_laws_heldStringS_3 a0 a1 0) 0 a1 (by omega) (by simp [fu_laws_heldStringS_3]) g0 (by omega)
  have hL' : lo_laws_heldStringS_3 (fu_laws_heldStringS_3 a0 a1 0) a0 a1 0 = _ := hL
  show (lo_laws_heldStringS_3 (fu_laws_heldStringS_3 a0 a1 0) a0 a1 0).bind _ = some ((if eqL (α := ByteArray) eqS a0 (gL (fun k : Int => mkT (k)) 1 a0.length a1) = true then a1 + (a0.length : Int) * 1 else -1, ()), ())
  rw [hL', List.drop_zero]
  cases eqL (α := ByteArray) eqS a0 (gL (fun k : Int => mkT (k)) 1 a0.length a1) <;> rfl
noncomputable def ou_laws_heldStringS_3 {R : Type} (k : Kt R) : (((Int) × Unit) ⊕ ((Int) × Unit)) → Option R := (onSum (fun d => k (.exit 0) (((pa_laws_heldStringS 3).2 2).st d) (((pa_laws_heldStringS 3).2 2).nid)) (fun d => k .ret (((pa_laws_heldStringS 3).2 1).st d) (((pa_laws_heldStringS 3).2 1).nid)))
noncomputable def L_laws_heldStringS {R : Type} : Lt R pa_laws_heldStringS := (addL (pat := pa_laws_heldStringS) 3 (fun d k => (lo_laws_heldStringS_3 (fu_laws_heldStringS_3 d.1 d.2.1 d.2.2.1) d.1 d.2.1 d.2.2.1).bind (ou_laws_heldStringS_3 k)) noL)
theorem rd_laws_heldStringS_3 {R : Type} (nx : (pa_laws_heldStringS 3).1.D → Kt R → Option R) (k : Kt R) (v0 : List ByteArray) (v1 : Int) (v5 : Int) : ev Try.prog ⟨ta_laws_heldStringS, 0, 22, pa_laws_heldStringS⟩ L_laws_heldStringS co_laws_heldStringS_3 ((pa_laws_heldStringS 3).1.st (v0, v1, v5, ())) (pa_laws_heldStringS 3).1.nid (roundK 0 (pa_laws_heldStringS 3) nx k) = tr_laws_heldStringS_3  (fun d => nx d k) (fun d => k (.exit 0) (((pa_laws_heldStringS 3).2 2).st d) (((pa_laws_heldStringS 3).2 2).nid)) (fun d => k .ret (((pa_laws_heldStringS 3).2 1).st d) (((pa_laws_heldStringS 3).2 1).nid)) v0 v1 v5 := by kernel_rfl
theorem lp_laws_heldStringS_3 {R : Type} : ∀ (m : Nat) (d : (pa_laws_heldStringS 3).1.D) (k : Kt R), loopN 0 (pa_laws_heldStringS 3) (fun s nid k => ev Try.prog ⟨ta_laws_heldStringS, 0, 22, pa_laws_heldStringS⟩ L_laws_heldStringS co_laws_heldStringS_3 s nid k) m d k = (lo_laws_heldStringS_3 m d.1 d.2.1 d.2.2.1).bind (ou_laws_heldStringS_3 k)
  | 0, _, _ => rfl
  | m + 1, ⟨v0, v1, v5, ⟨⟩⟩, k => (rd_laws_heldStringS_3 _ k v0 v1 v5).trans ((congrArg (fun F => tr_laws_heldStringS_3  F (fun d => k (.exit 0) (((pa_laws_heldStringS 3).2 2).st d) (((pa_laws_heldStringS 3).2 2).nid)) (fun d => k .ret (((pa_laws_heldStringS 3).2 1).st d) (((pa_laws_heldStringS 3).2 1).nid)) v0 v1 v5) (funext fun d => lp_laws_heldStringS_3 m d k)).trans (na_laws_heldStringS_3 (f := ou_laws_heldStringS_3 k)  (fun d => lo_laws_heldStringS_3 m d.1 d.2.1 d.2.2.1) (fun d => some (.inl (d))) (fun d => some (.inr (d))) v0 v1 v5))
theorem en_laws_heldStringS (a0 : List ByteArray) (a1 : Int) : evalF Try.prog ta_laws_heldStringS pa_laws_heldStringS sg_laws_heldStringS Try.f10 L_laws_heldStringS (a0, a1, ()) = de_laws_heldStringS a0 a1 := by kernel_rfl
theorem si_laws_heldStringS : SigsOk Try.prog ta_laws_heldStringS := SigsOk.of fun f sd h => by
  try dsimp only [Tb.of, ta_laws_heldStringS] at h
  split at h
  · rename_i e; subst e; cases h; exact sn_laws_markText
  cases h
theorem lk_laws_heldStringS_3 {R : Type} : LoopOk Try.prog R 22 0 pa_laws_heldStringS L_laws_heldStringS co_laws_heldStringS_3 :=
  loop_key (cfg := ⟨ta_laws_heldStringS, 0, 22, pa_laws_heldStringS⟩) (key := 3) (by kernel_rfl) (by kernel_rfl) si_laws_heldStringS rfl rfl (fun d k r h => ⟨fu_laws_heldStringS_3 d.1 d.2.1 d.2.2.1, (lp_laws_heldStringS_3 _ d k).trans h⟩) (fun c hc => by rw [show loopsIn co_laws_heldStringS_3 = [] from by kernel_rfl] at hc; cases hc)
theorem sn_laws_heldStringS : Callable Try.prog 10 ∧ Sound Try.prog 10 sd_laws_heldStringS.sg sd_laws_heldStringS.den :=
  fn_loops (pat := pa_laws_heldStringS) L_laws_heldStringS (by kernel_rfl) si_laws_heldStringS Try.func10 (by kernel_rfl) (by kernel_rfl) (fun c hc => by rw [show loopsIn (bodyOf Try.f10) = [co_laws_heldStringS_3] from by kernel_rfl] at hc; simp only [List.mem_cons, List.not_mem_nil, or_false] at hc; rcases hc with rfl <;> first | exact lk_laws_heldStringS_3) fun x r h => by
    obtain ⟨a0, a1, ⟨⟩⟩ := x; obtain ⟨y, h1, h2⟩ := Option.bind_eq_some_iff.1 (show (m_laws_heldStringS a0 a1).bind (fun r => some ((r, ()), (()))) = some r from h); cases h2; exact (en_laws_heldStringS a0 a1).trans (eq_laws_heldStringS a0 a1 _ h1)
def sg_laws_FnExactCut : Sig := ⟨[.rd .str, .rd (.int .i64), .rd (.int .i64), .rd (.int .i64)], [none, none, none, none], [.rd .bool], [none]⟩
noncomputable def ta_laws_FnExactCut : Tb := Tb.of fun f => if f = 6 then some sd_spec_Cut else if f = 7 then some sd_impl_Cut else if f = 8 then some sd_laws_eqStringS else if f = 9 then some sd_laws_markStringS else if f = 10 then some sd_laws_heldStringS else none
def pa_laws_FnExactCut : Nat → Pat × (Nat → Pat) := fun k => (⟨[], [], []⟩, fun _ => ⟨[], [], []⟩)
noncomputable def de_laws_FnExactCut (a0 : ByteArray) (a1 : Int) (a2 : Int) (a3 : Int) : Option ((((Bool) × Unit) × (Unit))) :=
  bif decide (nI (ByteArray.size a0) > 1048576) then some ((true, ()), ())
  else
    Option.bind (Option.bind (m_spec_Cut a0 a1 a2 a3) fun val => some ((val, ()), ())) fun val =>
      Option.bind (Option.bind (m_impl_Cut a0 a1 a2 a3) fun val => some ((val, ()), ())) fun val_1 =>
        Option.bind (Option.bind (m_laws_eqStringS val_1.fst.fst val.fst.fst) fun val => some ((val, ()), ())) fun val_2 =>
          bif !val_2.fst.fst then some ((false, ()), ())
          else
            Option.bind (Option.bind (m_laws_markStringS val_1.fst.fst 1) fun val => some ((val.fst, ()), val.snd, ())) fun val_3 =>
              Option.bind (Option.bind (m_laws_heldStringS val_3.snd.fst 1) fun val => some ((val, ()), ())) fun val_4 =>
                bif decide (val_4.fst.fst < 0) then some ((false, ()), ())
                else
                  bif val_4.fst.fst != val_3.fst.fst then some ((false, ()), ())
                  else
                    Option.bind (Option.bind (m_impl_Cut a0 a1 a2 a3) fun val => some ((val, ()), ())) fun val_5 =>
                      Option.bind (Option.bind (m_laws_eqStringS val_5.fst.fst val.fst.fst) fun val => some ((val, ()), ())) fun val =>
                        bif !val.fst.fst then some ((false, ()), ())
                        else
                          Option.bind (Option.bind (m_laws_heldStringS val_3.snd.fst 1) fun val => some ((val, ()), ())) fun val =>
                            bif decide (val.fst.fst < 0) then some ((false, ()), ()) else bif val.fst.fst != val_3.fst.fst then some ((false, ()), ()) else some ((true, ()), ())
noncomputable def sd_laws_FnExactCut : SD := ⟨sg_laws_FnExactCut, fun x => de_laws_FnExactCut x.1 x.2.1 x.2.2.1 x.2.2.2.1⟩
theorem law_FnExactCut (a0 : ByteArray)  (a1 : Int)  (a2 : Int)  (a3 : Int) (h0 : FineD .str a0) (h1 : FineD (.int .i64) a1) (h2 : FineD (.int .i64) a2) (h3 : FineD (.int .i64) a3) : de_laws_FnExactCut a0 a1 a2 a3 = some ((true, ()), ()) := by
  have hf0 := fine_of h0
  have hf1 := fine_of h1
  have hf2 := fine_of h2
  have hf3 := fine_of h3
  unfold de_laws_FnExactCut
  by_cases p0 : nI (ByteArray.size a0) > 1048576
  · rw [decide_eq_true p0]; rfl
  · rw [decide_eq_false p0]
    simp only [cond_false]
    have gi : m_impl_Cut a0 a1 a2 a3 = some (cutS a0 a1 a2 a3) := if_pos (by simp only [nI] at p0; omega)
    have gw : m_spec_Cut a0 a1 a2 a3 = some (cutS a0 a1 a2 a3) := if_pos (by simp only [nI] at p0; omega)
    have gg0 : goodB (.sl .str) (cutS a0 a1 a2 a3) = true := cutS_good (by simp only [nI] at p0; omega)
    simp only [Option.bind_some, cond_false, gw, gi]
    generalize cutS a0 a1 a2 a3 = g at *
    have v0 : m_laws_eqStringS g g = some true := eqM_self (t := (.sl .str)) (x := g) (good_fine gg0)
    have Lz0 := gg0
    simp only [smallB, goodB, Bool.and_eq_true, decide_eq_true_eq, and_true, true_and] at Lz0
    obtain ⟨kz0_0, yz0_0, mz0_0, bz0_0, cz0_0, dz0_0⟩ : ∃ (k2 : Int) (ys : List (ByteArray)), markM .str g 1 = (some (k2, ys) : Option (Int × List (ByteArray))) ∧ 1 ≤ k2 ∧ k2 ≤ 1 + 1073741824 * ((1 : Nat) : Int) ∧ heldM .str ys 1 = some k2 := mk_ex (t := .str) (xs := g) (k := 1) 1 rfl (by omega) (by omega) (by omega)
    have mkz0 : m_laws_markStringS g 1 = some (kz0_0, yz0_0) := mz0_0
    have nnz0_0 : ¬ kz0_0 < 0 := by omega
    have hdz0 : m_laws_heldStringS yz0_0 1 = some kz0_0 := dz0_0
    have nkz : decide (kz0_0 < 0) = false := decide_eq_false (by omega)
    simp only [v0, mkz0, hdz0, nkz, Option.bind_some, cond_false, cond_true, beq_self_eq_true, bne_self_eq_false, Bool.not_true, Bool.or_self, Bool.false_or]
theorem en_laws_FnExactCut (a0 : ByteArray) (a1 : Int) (a2 : Int) (a3 : Int) : evalF Try.prog ta_laws_FnExactCut pa_laws_FnExactCut sg_laws_FnExactCut Try.f3 noL (a0, a1, a2, a3, ()) = de_laws_FnExactCut a0 a1 a2 a3 := by kernel_rfl
theorem si_laws_FnExactCut : SigsOk Try.prog ta_laws_FnExactCut := SigsOk.of fun f sd h => by
  try dsimp only [Tb.of, ta_laws_FnExactCut] at h
  split at h
  · rename_i e; subst e; cases h; exact sn_spec_Cut
  split at h
  · rename_i e; subst e; cases h; exact sn_impl_Cut
  split at h
  · rename_i e; subst e; cases h; exact sn_laws_eqStringS
  split at h
  · rename_i e; subst e; cases h; exact sn_laws_markStringS
  split at h
  · rename_i e; subst e; cases h; exact sn_laws_heldStringS
  cases h
theorem sn_laws_FnExactCut : Callable Try.prog 3 ∧ Sound Try.prog 3 sd_laws_FnExactCut.sg sd_laws_FnExactCut.den :=
  fn_plain (pat := pa_laws_FnExactCut) (by kernel_rfl) si_laws_FnExactCut Try.func3 (by kernel_rfl) (by kernel_rfl) (by kernel_rfl) fun x r h => by
    obtain ⟨a0, a1, a2, a3, ⟨⟩⟩ := x; exact (en_laws_FnExactCut a0 a1 a2 a3).trans h
end Go.Proofs.Yteohpbmjaobpbaa.V
