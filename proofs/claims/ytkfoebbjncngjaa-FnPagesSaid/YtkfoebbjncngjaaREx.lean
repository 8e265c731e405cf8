/- The evaluator's operations on texts, records compared, and division. No condition. -/
import Derived.Test.YtkfoebbjncngjaaRCall
import Derived.Laws.Concat
import Derived.Laws.StructEq
import Derived.Laws.Strings3
import Derived.Laws.DeepStrings4
import Derived.Laws.Slices
import Derived.Laws.IdiomStrings
namespace Go.Proofs.Ytkfoebbjncngjaa.R
open Go Go.RowKit
set_option linter.unusedVariables false
set_option linter.unusedSimpArgs false
def Fm : List Bool → Bool
 | [] => true
 | c :: r => c && Fm r
def Dt {α : Type} (x : Option (List Bool × α)) : Option α := match x with
 | some (cs, r) => if Fm cs = true then some r else none
 | none => none
theorem Av {α : Type} {x : Option (List Bool × α)} {r : α} (h : Dt x = some r) : ∃ cs, x = some (cs, r) ∧ Fm cs = true := by
 unfold Dt at h
 split at h
 ·rename_i cs r'
  split at h <;> cases h
  exact ⟨cs, rfl, by assumption⟩
 ·cases h
def Ah (s : ByteArray) (i : Int) : Int := ((s.data.toList.getD i.toNat 0).toNat : Int)
def Ac (s : ByteArray) (i j : Int) : ByteArray := s.extract i.toNat j.toNat
def Kv (P : Program) (s : St) (T : TypeId) (x y : Operand) : Option (List Bool × Value) :=
 match P.underlying T, s.conc x, s.conc y with
 | some .string, some (.string q), some (.int _ i) => some ([decide (0 ≤ i), decide (i < (q.size : Int))], .int .u8 (Ah q i))
 | _, _, _ => none
def Kw (P : Program) (s : St) (T : TypeId) (x : Operand) (lo hi mx : Option Operand) : Option (List Bool × Value) :=
 match P.underlying T, s.conc x, mx with
 | some .string, some (.string q), none => match lo, hi with
  | none, none => some ([], .string q)
  | some l, none => match s.conc l with
   | some (.int _ i) => some ([decide (0 ≤ i), decide (i ≤ (q.size : Int))], .string (Ac q i q.size))
   | _ => none
  | none, some h => match s.conc h with
   | some (.int _ j) => some ([decide (0 ≤ j), decide (j ≤ (q.size : Int))], .string (Ac q 0 j))
   | _ => none
  | some l, some h => match s.conc l, s.conc h with
   | some (.int _ i), some (.int _ j) => some ([decide (0 ≤ i), decide (i ≤ j), decide (j ≤ (q.size : Int))], .string (Ac q i j))
   | _, _ => none
 | _, _, _ => none
def Qd (s : St) (op : BinOp) (x y : Operand) : Option (List Bool × Value) :=
 match op, s.conc x, s.conc y with
 | .add, some (.string p), some (.string q) => some ([decide (p.size + q.size ≤ 9223372036854775807)], .string (p ++ q))
 | _, _, _ => none
def Vg (s : St) (op : BinOp) (x y : Operand) : Option (List Bool × Value) :=
 match op, s.conc x, s.conc y with
 | .rem, some (.int k a), some (.int k' b) => if k = k' then some ([!decide (b = 0)], .int k (a.tmod b)) else none
 | .quo, some (.int k a), some (.int k' b) => if k = k' then some ([!decide (b = 0)], .int k (k.wrap (a.tdiv b))) else none
 | .shl, some (.int k a), some (.int _ b) => some ([decide (0 ≤ b)], .int k (k.wrap (a * 2 ^ min b.toNat k.bits)))
 | _, _, _ => none
def Xm (P : Program) : List Field → List Lf → List Lf → Option Bool
 | [], _, _ => some true
 | f :: fs, xs, ys => if f.name = "_" then none else match P.underlying f.type, xs[f.offset]?, ys[f.offset]? with
  | some (.int _), some (.c (.int k a)), some (.c (.int k' b)) => if k = k' then (Xm P fs xs ys).bind fun r => some (a == b && r) else none
  | some .bool, some (.c (.bool a)), some (.c (.bool b)) => (Xm P fs xs ys).bind fun r => some (a == b && r)
  | some .string, some (.c (.string a)), some (.c (.string b)) => (Xm P fs xs ys).bind fun r => some (a.toList == b.toList && r)
  | _, _, _ => none
def T8 (P : Program) (s : St) (op : BinOp) (T : TypeId) (x y : Operand) : Option Value :=
 match P.underlying T, s.value x, s.value y with
 | some (.struct fs), some (.ag xs), some (.ag ys) => if P.stoodInHeld T = false then (if P.eqGuardType P.depth T = false then (Xm P fs.toList xs ys).bind fun r => match op with
  | .eql => some (.bool r)
  | .neq => some (.bool (!r))
  | _ => none else none) else none
 | _, _, _ => none
section
variable {P : Program} {n B : Nat} {Iq : List Nat} {s : St} {g : Gh} {a : Act} {w : World}
theorem Ev {c : Bool} {r : List Bool} (h : Fm (c :: r) = true) : c = true ∧ Fm r = true := by simpa [Fm] using h
theorem Ao {c : Prop} [Decidable c] {r : List Bool} (h : Fm (decide c :: r) = true) : c ∧ Fm r = true := by
 obtain ⟨h1, h2⟩ := Ev h
 exact ⟨of_decide_eq_true h1, h2⟩
theorem Rx (h : As n B Iq s g a w) {T : TypeId} {x y : Operand} {v : Value} (e : Dt (Kv P s T x y) = some v) : (Instr.index T (a.eval x) (a.eval y)).run P w = .ok v w ∧ v.oneCell' = true := by
 obtain ⟨cs, e, hc⟩ := Av e
 unfold Kv at e
 split at e <;> cases e
 rename_i q k i hU hx hy
 obtain ⟨h0, hc⟩ := Ao hc
 obtain ⟨h1, _⟩ := Ao hc
 rw [(Az h hx).1, (Az h hy).1, run_index_string w T q k i hU, dif_pos ⟨h0, h1⟩]
 refine ⟨?_, rfl⟩
 have hlt : i.toNat < q.data.toList.length := by
  rw [Array.length_toList]
  show i.toNat < q.size
  omega
 unfold Ah
 rw [List.getD_eq_getElem?_getD, List.getElem?_eq_getElem hlt]
 rfl
theorem Ry (h : As n B Iq s g a w) {T : TypeId} {x : Operand} {lo hi mx : Option Operand} {v : Value} (e : Dt (Kw P s T x lo hi mx) = some v) :
  (Instr.sliceAt T (a.eval x) (lo.map a.eval) (hi.map a.eval) (mx.map a.eval)).run P w = .ok v w ∧ v.oneCell' = true := by
 obtain ⟨cs, e, hc⟩ := Av e
 unfold Kw at e
 split at e
 ·rename_i q hU hx hm
  rw [Option.map_none, run_sliceAt_string _ _ _ _ _ _ hU, (Az h hx).1]
  split at e
  ·cases e
   refine ⟨?_, rfl⟩
   have : q.extract 0 q.size = q := by
    apply ByteArray.ext
    rw [ByteArray.data_extract]
    exact Array.extract_size
   show (Instr.slice T (.string q) none none none).run P w = _
   rw [Go.run_slice_string_all _ _ _ hU, this]
  ·rename_i l
   split at e <;> cases e
   rename_i k i hl
   obtain ⟨h0, hc⟩ := Ao hc
   obtain ⟨h1, _⟩ := Ao hc
   refine ⟨?_, rfl⟩
   rw [Option.map_some, (Az h hl).1, Option.map_none, run_slice_string_from_if _ _ _ _ _ hU, if_pos ⟨h0, h1⟩]
   rfl
  ·rename_i l
   split at e <;> cases e
   rename_i k j hl
   obtain ⟨h0, hc⟩ := Ao hc
   obtain ⟨h1, _⟩ := Ao hc
   refine ⟨?_, rfl⟩
   rw [Option.map_some, (Az h hl).1, Option.map_none, run_slice_string_to_if _ _ _ _ _ hU, if_pos ⟨h0, h1⟩]
   rfl
  ·rename_i l hh
   split at e <;> cases e
   rename_i k i k' j hl hr
   obtain ⟨h0, hc⟩ := Ao hc
   obtain ⟨h1, hc⟩ := Ao hc
   obtain ⟨h2, _⟩ := Ao hc
   refine ⟨?_, rfl⟩
   rw [Option.map_some, Option.map_some, (Az h hl).1, (Az h hr).1, run_slice_string _ _ _ _ _ _ _ hU h0 h1 h2]
   rfl
 ·cases e
theorem Vh (h : As n B Iq s g a w) {op : BinOp} {T : TypeId} {x y : Operand} {v : Value} (e : Dt (Qd s op x y) = some v) :
  ((do eqGuard op T x y (a.eval x) (a.eval y); binOp op T (a.eval x) (a.eval y)) : Sem Value).run P w = .ok v w ∧ v.oneCell' = true := by
 obtain ⟨cs, e, hc⟩ := Av e
 unfold Qd at e
 split at e <;> cases e
 rename_i p q hx hy
 obtain ⟨h0, _⟩ := Ao hc
 rw [(Az h hx).1, (Az h hy).1, eqGuard_add, binOp_string_add]
 refine ⟨?_, rfl⟩
 simp only [Sem.run_bind, Sem.run_pure, Result.andThen_ok]
 exact run_string_add_sum w p q h0
theorem Qe (h : As n B Iq s g a w) {op : BinOp} {T : TypeId} {x y : Operand} {v : Value} (e : Dt (Vg s op x y) = some v) :
  ((do eqGuard op T x y (a.eval x) (a.eval y); binOp op T (a.eval x) (a.eval y)) : Sem Value).run P w = .ok v w ∧ v.oneCell' = true := by
 obtain ⟨cs, e, hc⟩ := Av e
 unfold Vg at e
 split at e
 ·split at e <;> cases e
  rename_i k p k' q hx hy hk
  subst hk
  obtain ⟨h0, _⟩ := Ev hc
  have h0 : ¬ q = 0 := by simpa using h0
  rw [(Az h hx).1, (Az h hy).1, eqGuard_rem]
  refine ⟨?_, rfl⟩
  simp [binOp, Op.intDiv, h0]
 ·split at e <;> cases e
  rename_i k p k' q hx hy hk
  subst hk
  obtain ⟨h0, _⟩ := Ev hc
  have h0 : ¬ q = 0 := by simpa using h0
  rw [(Az h hx).1, (Az h hy).1, eqGuard_quo]
  refine ⟨?_, rfl⟩
  simp [binOp, Op.intDiv, h0]
 ·cases e
  rename_i k p k' q hx hy
  obtain ⟨h0, _⟩ := Ev hc
  have h0 : ¬ q < 0 := by simpa using h0
  rw [(Az h hx).1, (Az h hy).1, eqGuard_shl]
  refine ⟨?_, rfl⟩
  simp [binOp, Op.shift, h0]
 ·cases e
theorem Yo {t : TypeId} (hA : Lr P t = some false) {cs : Array Value} {off : Nat} {v : Value} (hv : cs[off]? = some v) : (part t cs off).run P w = .ok v w := by
 simp [part, G7 hA w, hv]
theorem Vi : ∀ {fs : List Field} {xs ys : List Lf} {r : Bool}, Xm P fs xs ys = some r → ∀ {cs ds : Array Value}, Bt s g w xs cs.toList → Bt s g w ys ds.toList → (Op.eqFields 9999 cs ds fs).run P w = .ok r w
 | [], xs, ys, r, e, cs, ds, _, _ => by cases e; rfl
 | f :: fs, xs, ys, r, e, cs, ds, hx, hy => by
  unfold Xm at e
  split at e
  ·cases e
  ·rename_i hn
   have fin : ∀ {u v : Value} {q : Bool}, Lr P f.type = some false → cs[f.offset]? = some u → ds[f.offset]? = some v → (Op.equalIn 9999 f.type u v).run P w = .ok q w →
     ((Xm P fs xs ys).bind fun r => some (q && r)) = some r → (Op.eqFields 9999 cs ds (f :: fs)).run P w = .ok r w := by
    intro u v q hA h1 h2 h3 h4
    obtain ⟨r', e1, e2⟩ := Option.bind_eq_some_iff.1 h4
    cases e2
    have ih := Vi e1 hx hy
    simp only [Op.eqFields, ne_eq, hn, not_false_eq_true, if_true, Sem.run_bind, Yo hA h1, Yo hA h2, Result.andThen_ok, h3]
    cases q
    ·simp
    ·simpa using ih
   have cell : ∀ {l : List Lf} {c : Array Value} {u : Value}, Bt s g w l c.toList → l[f.offset]? = some (.c u) → c[f.offset]? = some u := by
    intro l c u hL hl
    obtain ⟨v, e1, e2, _⟩ := hL.get hl
    cases e2
    rw [← Array.getElem?_toList]
    exact e1
   split at e
   ·rename_i k0 k p k' q hU h1 h2
    split at e
    ·rename_i hk
     subst hk
     refine fin (q := p == q) (by unfold Lr; rw [hU]) (cell hx h1) (cell hy h2) (run_equalIn_int w 9998 _ _ _ _ _ hU) e
    ·cases e
   ·rename_i p q hU h1 h2
    exact fin (q := p == q) (by unfold Lr; rw [hU]) (cell hx h1) (cell hy h2) (run_equalIn_bool' w 9998 _ _ _ hU) e
   ·rename_i p q hU h1 h2
    exact fin (q := p.toList == q.toList) (by unfold Lr; rw [hU]) (cell hx h1) (cell hy h2) (run_equalIn_string w 9998 _ _ _ hU) e
   ·cases e
theorem Ss (h : As n B Iq s g a w) {op : BinOp} {T : TypeId} {x y : Operand} {v : Value} (e : T8 P s op T x y = some v) :
  ((do eqGuard op T x y (a.eval x) (a.eval y); binOp op T (a.eval x) (a.eval y)) : Sem Value).run P w = .ok v w ∧ v.oneCell' = true := by
 unfold T8 at e
 split at e
 ·rename_i fs xs ys hU hx hy
  split at e
  ·rename_i hp
   split at e
   ·rename_i hm
    obtain ⟨r, e1, e⟩ := Option.bind_eq_some_iff.1 e
    obtain ⟨cs, hcs, hX⟩ := Ht h hx
    obtain ⟨ds, hds, hY⟩ := Ht h hy
    have hf : P.fieldsOf T = fs := by simp [Program.fieldsOf, hU]
    have hrun := Vi e1 hX hY
    have heq : (Op.equalIn 10000 T (.agg cs) (.agg ds)).run P w = .ok r w := by
     rw [run_equalIn_agg w 9999 T cs ds (by rw [hf]; exact hU) hp, hf]
     exact hrun
    rw [hcs, hds]
    simp only [Sem.run_bind, run_eqGuard_agg w _ _ _ _ _ _ hm, Result.andThen_ok]
    split at e <;> cases e
    ·exact ⟨by rw [run_eql_struct, heq]; rfl, rfl⟩
    ·exact ⟨by rw [run_neq_struct, heq]; rfl, rfl⟩
   ·cases e
  ·cases e
 ·cases e
theorem i6 {w : World} {S : Nat → Prop} (q : ByteArray) : B4 w S tMk (Xb (Ab q)) (byteCells q) := by
 obtain ⟨h1, h2⟩ := B4.bytes (w := w) (S := S) q
 refine ⟨?_, fun i x hx => ?_⟩
 ·rw [h1]
  show (Ab q).length * 1 = (Xb (Ab q)).length * 1
  simp [Xb]
 ·have hx' : ((Ab q).map fun x => (x, ()))[i]? = some x := hx
  rw [List.getElem?_map] at hx'
  cases hq : (Ab q)[i]? with
  | none => rw [hq] at hx'; cases hx'
  | some y =>
   rw [hq] at hx'
   cases hx'
   have := h2 i y hq
   exact ⟨_, [], (List.append_nil _).symm, this, rfl⟩
theorem Rz (h : As n B Iq s g a w) {nid : Nat} {src dst : TypeId} {x : Operand} {l : Lf} {s' : St} (e : Dt (Kn P s nid src dst x) = some (l, s')) :
  ∃ u w' g', (convert src dst (a.eval x)).run P w = .ok u w' ∧ Go B Iq s g w s' g' w' ∧ As n B Iq s' g' a w' ∧ A1 s' g' w' l u ∧ u.oneCell' = true := by
 obtain ⟨cs, e, hc⟩ := Av e
 unfold Kn at e
 split at e
 ·rename_i el q hf hU hD hq
  split at e
  ·rename_i hE
   cases e
   obtain ⟨hc, _⟩ := Ao hc
   have hlen : (Xb (Ab q)).length = q.size := by simp [Xb, Ab]
   have hge := grownCap_ge w q.size 0 el
   have hcm := grownCap_le_maxLen w q.size 0 el (by simp only [maxLen]; omega)
   have hsz : (bytesRow q (grownCap w q.size 0 el)).size = grownCap w q.size 0 el := by
    unfold bytesRow
    simp
    omega
   have hrun := run_bytes_of_string (P := P) w src dst el q hU hD hE
   rw [hsz] at hrun
   have hg : w.grownBy (w.drew.alloc (.cells (bytesRow q (grownCap w q.size 0 el)) el (grownCap w q.size 0 el, grownCap w q.size 0 el + 1))) (Value.ownBlock (.slice none 0 0)) :=
    ⟨rfl, rfl, rfl, by simp, fun j hj _ => heap_alloc_old w.drew _ j hj⟩
   have hown : Dw (w.drew.alloc (.cells (bytesRow q (grownCap w q.size 0 el)) el (grownCap w q.size 0 el, grownCap w q.size 0 el + 1))) tMk 0 el (Ty.sz tMk) (.slice (some ⟨w.heap.size, 0, none⟩) q.size (grownCap w q.size 0 el)) (Xb (Ab q)).length (byteCells q) := by
    rw [hlen]
    refine ⟨by simp [byteCells, Ty.sz], .inr ⟨w.heap.size, grownCap w q.size 0 el, _, rfl, Nat.zero_le _, ?_, hge, hcm, by rw [hsz]; exact (Nat.mul_one _).symm, ?_⟩⟩
    ·have : Xa tMk (grownCap w q.size 0 el * Ty.sz tMk) = (grownCap w q.size 0 el, grownCap w q.size 0 el + 1) := by
      show (grownCap w q.size 0 el * 1, grownCap w q.size 0 el * 1 + 1) = _
      rw [Nat.mul_one]
     rw [this]
     exact heap_alloc_new w.drew _
    ·show (bytesRow q (grownCap w q.size 0 el)).toList.take (q.size * 1) = byteCells q
     rw [Nat.mul_one]
     unfold bytesRow byteCells
     rw [Array.toList_append, List.take_append_of_le_length (by simp)]
     rw [List.take_of_length_le (by simp)]
     simp
   obtain ⟨m1, m2, m3, m4⟩ := h.grow (o := none) hf (v := .slice none 0 0) (v' := .slice (some ⟨w.heap.size, 0, none⟩) q.size (grownCap w q.size 0 el)) (fun id q => by cases q) (fun _ => rfl) hg (.inr rfl) (Ly hown) hown (fun _ => i6 q)
   refine ⟨_, _, _, ?_, ⟨m4, m1, m2, rfl⟩, m3, ?_, Jv hown⟩
   ·rw [(Az h hq).1]
    exact hrun
   ·simp only [A1, Ae]
    simp [Gh.mv]
  ·cases e
 ·cases e
end
end Go.Proofs.Ytkfoebbjncngjaa.R

