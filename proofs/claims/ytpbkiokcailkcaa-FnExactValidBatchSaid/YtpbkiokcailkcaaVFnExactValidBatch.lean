/- The functions that FnExactValidBatch reaches do what their models say. No condition. -/
import Derived.Test.YtpbkiokcailkcaaRRow
import Derived.Test.YtpbkiokcailkcaaProg
import Derived.KernelRfl
namespace Go.Proofs.Ytpbkiokcailkcaa.V
open Go Go.Proofs.Ytpbkiokcailkcaa.R Go.Proofs
set_option maxRecDepth 100000
set_option linter.unusedVariables false
set_option linter.unusedSimpArgs false
abbrev Chg := ByteArray × ByteArray × Bool × Unit
def m_impl_in (v lo hi : Int) : Bool := decide (lo ≤ v) && decide (v ≤ hi)
def m_impl_goodKey (k : ByteArray) : Bool := m_impl_in (k.size : Int) 1 20
def m_spec_l4KeyOk (k : ByteArray) : Bool := m_impl_goodKey k
def okChg (c : Chg) : Bool := m_impl_goodKey c.1 && (decide (c.2.1.size ≤ 100) && !(c.2.2.1 && !(c.2.1.toList == [])))
def m_impl_ValidBatch (b : List Chg) : Bool := m_impl_in (b.length : Int) 1 20 && b.all okChg
def m_spec_ValidBatch (b : List Chg) : Bool := m_impl_ValidBatch b
def m_laws_toChange (c : Chg) : Chg := c
def m_laws_toChangeS (b : List Chg) : Option (List Chg) := if b.length ≤ 1048576 then some b else none
def m_laws_szChange (c : Chg) (left : Int) : Int := if IntKind.i64.wrap (left - nI c.1.size) < 0 then -1 else if IntKind.i64.wrap (IntKind.i64.wrap (left - nI c.1.size) - nI c.2.1.size) < 0 then -1 else IntKind.i64.wrap (IntKind.i64.wrap (left - nI c.1.size) - nI c.2.1.size)
def szChgGo : List Chg → Int → Int
  | [], l => l
  | c :: r, l => if m_laws_szChange c l < 0 then -1 else szChgGo r (m_laws_szChange c l)
def m_laws_szChangeS (b : List Chg) (left : Int) : Option Int := if b.length < 4611686018427387904 then some (if IntKind.i64.wrap (left - nI b.length) < 0 then -1 else szChgGo b (IntKind.i64.wrap (left - nI b.length))) else none
def m_laws_eqChange (a b : Chg) : Bool := a.1.toList == b.1.toList && (a.2.1.toList == b.2.1.toList && a.2.2.1 == b.2.2.1)
def eqChgs : List Chg → List Chg → Bool
  | [], [] => true
  | a :: r, b :: q => m_laws_eqChange a b && eqChgs r q
  | _, _ => false
def m_laws_eqChangeS (a b : List Chg) : Option Bool := if a.length < 4611686018427387904 then some (eqChgs a b) else none
def fu_laws_szChangeS_6 (v0 : List Chg) (v1 v5 : Int) : Nat := (v0.length - v5).toNat + 1
def fu_spec_ValidBatch_5 (v0 : List Chg) (v3 : Int) : Nat := (v0.length - v3).toNat + 1
def fu_laws_toChangeS_4 (v0 : List Chg) (v4 : Int) (r0 : List Chg) : Nat := (v0.length - v4).toNat + 1
def fu_impl_ValidBatch_5 (v9 : List Chg) (v10 v11 : Int) : Nat := (v10 - v11).toNat + 1
def fu_laws_eqChangeS_5 (v0 v1 : List Chg) (v5 : Int) : Nat := (v0.length - v5).toNat + 1
def m_laws_FnExactValidBatch (b : List Chg) : Option Bool := if b.length ≤ 140737488351232 then some true else none

def sg_laws_szChange : Sig := ⟨[.rd (.pair .str (.pair .str (.pair .bool .unit))), .rd (.int .i64)], [some 3, none], [.rd (.int .i64)], [none]⟩
def sd_laws_szChange : SD := ⟨sg_laws_szChange, fun x => some ((m_laws_szChange x.1 x.2.1, ()), ())⟩
def sg_laws_szChangeS : Sig := ⟨[.rd (.sl (.pair .str (.pair .str (.pair .bool .unit)))), .rd (.int .i64)], [none, none], [.rd (.int .i64)], [none]⟩
def sd_laws_szChangeS : SD := ⟨sg_laws_szChangeS, fun x => (m_laws_szChangeS x.1 x.2.1).bind fun r => some ((r, ()), ())⟩
def sg_spec_l4KeyOk : Sig := ⟨[.rd .str], [none], [.rd .bool], [none]⟩
def sd_spec_l4KeyOk : SD := ⟨sg_spec_l4KeyOk, fun x => some ((m_spec_l4KeyOk x.1, ()), ())⟩
def sg_spec_ValidBatch : Sig := ⟨[.rd (.sl (.pair .str (.pair .str (.pair .bool .unit))))], [none], [.rd .bool], [none]⟩
def sd_spec_ValidBatch : SD := ⟨sg_spec_ValidBatch, fun x => some ((m_spec_ValidBatch x.1, ()), ())⟩
def sg_laws_toChange : Sig := ⟨[.rd (.pair .str (.pair .str (.pair .bool .unit)))], [some 3], [.rd (.pair .str (.pair .str (.pair .bool .unit)))], [some 3]⟩
def sd_laws_toChange : SD := ⟨sg_laws_toChange, fun x => some ((m_laws_toChange x.1, ()), ())⟩
def sg_laws_toChangeS : Sig := ⟨[.rd (.sl (.pair .str (.pair .str (.pair .bool .unit))))], [none], [.rd (.sl (.pair .str (.pair .str (.pair .bool .unit))))], [none]⟩
def sd_laws_toChangeS : SD := ⟨sg_laws_toChangeS, fun x => (m_laws_toChangeS x.1).bind fun r => some ((r, ()), ())⟩
def sg_impl_in : Sig := ⟨[.rd (.int .i64), .rd (.int .i64), .rd (.int .i64)], [none, none, none], [.rd .bool], [none]⟩
def sd_impl_in : SD := ⟨sg_impl_in, fun x => some ((m_impl_in x.1 x.2.1 x.2.2.1, ()), ())⟩
def sg_impl_goodKey : Sig := ⟨[.rd .str], [none], [.rd .bool], [none]⟩
def sd_impl_goodKey : SD := ⟨sg_impl_goodKey, fun x => some ((m_impl_goodKey x.1, ()), ())⟩
def sg_impl_ValidBatch : Sig := ⟨[.rd (.sl (.pair .str (.pair .str (.pair .bool .unit))))], [none], [.rd .bool], [none]⟩
def sd_impl_ValidBatch : SD := ⟨sg_impl_ValidBatch, fun x => some ((m_impl_ValidBatch x.1, ()), ())⟩
def sg_laws_eqChange : Sig := ⟨[.rd (.pair .str (.pair .str (.pair .bool .unit))), .rd (.pair .str (.pair .str (.pair .bool .unit)))], [some 3, some 3], [.rd .bool], [none]⟩
def sd_laws_eqChange : SD := ⟨sg_laws_eqChange, fun x => some ((m_laws_eqChange x.1 x.2.1, ()), ())⟩
def sg_laws_eqChangeS : Sig := ⟨[.rd (.sl (.pair .str (.pair .str (.pair .bool .unit)))), .rd (.sl (.pair .str (.pair .str (.pair .bool .unit))))], [none, none], [.rd .bool], [none]⟩
def sd_laws_eqChangeS : SD := ⟨sg_laws_eqChangeS, fun x => (m_laws_eqChangeS x.1 x.2.1).bind fun r => some ((r, ()), ())⟩
def sg_laws_FnExactValidBatch : Sig := ⟨[.rd (.sl (.pair .str (.pair .str (.pair .bool .unit))))], [none], [.rd .bool], [none]⟩
def sd_laws_FnExactValidBatch : SD := ⟨sg_laws_FnExactValidBatch, fun x => (m_laws_FnExactValidBatch x.1).bind fun r => some ((r, ()), ())⟩
def ta_laws_szChange : FuncId → Option SD := fun f => none
def pa_laws_szChange : Nat → Pat × (Nat → Pat) := fun k => (⟨[], [], []⟩, fun _ => ⟨[], [], []⟩)
def de_laws_szChange (a0 : ByteArray × ByteArray × Bool × Unit) (a1 : Int) : Option ((((Int) × Unit) × (Unit))) :=
  bif decide (IntKind.wrap IntKind.i64 (a1 - nI (ByteArray.size a0.fst)) < 0) then some ((-1, ()), ())
  else
    bif decide (IntKind.wrap IntKind.i64 (IntKind.wrap IntKind.i64 (a1 - nI (ByteArray.size a0.fst)) - nI (ByteArray.size a0.snd.fst)) < 0) then some ((-1, ()), ())
    else some ((IntKind.wrap IntKind.i64 (IntKind.wrap IntKind.i64 (a1 - nI (ByteArray.size a0.fst)) - nI (ByteArray.size a0.snd.fst)), ()), ())
def ta_laws_szChangeS : FuncId → Option SD := fun f => if f = 30 then some sd_laws_szChange else none
def pa_laws_szChangeS : Nat → Pat × (Nat → Pat) := fun k => if k = 6 then (⟨[.sl 0 0 (.pair .str (.pair .str (.pair .bool .unit)))], [(0, .lf (.d (.sl (.pair .str (.pair .str (.pair .bool .unit)))))), (1, .lf (.d (.int .i64))), (5, .lf (.d (.int .i64)))], []⟩, fun e => if e = 1 then ⟨[], [(4, .lf (.d (.int .i64)))], []⟩ else if e = 2 then ⟨[], [(1, .lf (.d (.int .i64)))], []⟩ else ⟨[], [], []⟩) else (⟨[], [], []⟩, fun _ => ⟨[], [], []⟩)
noncomputable def co_laws_szChangeS_6 : Code := (loopsIn (bodyOf Try.f15)).getD 0 .skip
def tr_laws_szChangeS_6 {R : Type}  (NX : ((List (ByteArray × ByteArray × Bool × Unit)) × (Int) × (Int) × Unit) → Option R) (X2 : ((Int) × Unit) → Option R) (X1 : ((Int) × Unit) → Option R) (v0 : List (ByteArray × ByteArray × Bool × Unit)) (v1 : Int) (v5 : Int) : Option R :=
  bif decide (v5 < nI (List.length v0)) then
    bif decide (0 ≤ v5) then
      bif decide (v5 < nI (List.length v0)) then
        bif
            decide
              (m_laws_szChange
                  ((List.getD v0 (Int.toNat v5) (ByteArray.mk #[], ByteArray.mk #[], false, ())).fst, (List.getD v0 (Int.toNat v5) (ByteArray.mk #[], ByteArray.mk #[], false, ())).snd.fst,
                    (List.getD v0 (Int.toNat v5) (ByteArray.mk #[], ByteArray.mk #[], false, ())).snd.snd.fst, ())
                  v1 <
                0) then
          X1 (-1, ())
        else
          NX
            (v0,
              m_laws_szChange
                ((List.getD v0 (Int.toNat v5) (ByteArray.mk #[], ByteArray.mk #[], false, ())).fst, (List.getD v0 (Int.toNat v5) (ByteArray.mk #[], ByteArray.mk #[], false, ())).snd.fst,
                  (List.getD v0 (Int.toNat v5) (ByteArray.mk #[], ByteArray.mk #[], false, ())).snd.snd.fst, ())
                v1,
              IntKind.wrap IntKind.i64 (v5 + 1), ())
      else none
    else none
  else X2 (v1, ())
def lo_laws_szChangeS_6 : Nat → (List (ByteArray × ByteArray × Bool × Unit)) → (Int) → (Int) →  Option (((Int) × Unit) ⊕ ((Int) × Unit))
  | 0, _, _, _ => none
  | m + 1, v0, v1, v5 => tr_laws_szChangeS_6  (fun d => lo_laws_szChangeS_6 m d.1 d.2.1 d.2.2.1) (fun d => some (.inl (d))) (fun d => some (.inr (d))) v0 v1 v5
theorem na_laws_szChangeS_6 {R S : Type}  (NX : ((List (ByteArray × ByteArray × Bool × Unit)) × (Int) × (Int) × Unit) → Option R) (X2 : ((Int) × Unit) → Option R) (X1 : ((Int) × Unit) → Option R) (v0 : List (ByteArray × ByteArray × Bool × Unit)) (v1 : Int) (v5 : Int) (f : R → Option S) : tr_laws_szChangeS_6  (fun d => (NX d).bind f) (fun d => (X2 d).bind f) (fun d => (X1 d).bind f) v0 v1 v5 = (tr_laws_szChangeS_6  NX X2 X1 v0 v1 v5).bind f := by
  unfold tr_laws_szChangeS_6
  simp only [cond_bind, ite_bind, onSum_bind, Option.bind_assoc, Option.bind_none, Option.bind_some]
def de_laws_szChangeS (a0 : List (ByteArray × ByteArray × Bool × Unit)) (a1 : Int) : Option ((((Int) × Unit) × (Unit))) :=
  bif decide (IntKind.wrap IntKind.i64 (a1 - nI (List.length a0)) < 0) then some ((-1, ()), ())
  else Option.bind ((fun d => lo_laws_szChangeS_6 (fu_laws_szChangeS_6 d.1 d.2.1 d.2.2.1) d.1 d.2.1 d.2.2.1) (a0, IntKind.wrap IntKind.i64 (a1 - nI (List.length a0)), 0, ())) fun val => onSum (fun val => some ((val.fst, ()), ())) (fun val => some ((val.fst, ()), ())) val
def ta_spec_l4KeyOk : FuncId → Option SD := fun f => none
def pa_spec_l4KeyOk : Nat → Pat × (Nat → Pat) := fun k => (⟨[], [], []⟩, fun _ => ⟨[], [], []⟩)
def de_spec_l4KeyOk (a0 : ByteArray) : Option ((((Bool) × Unit) × (Unit))) :=
  bif decide (nI (ByteArray.size a0) ≥ 1) then some ((decide (nI (ByteArray.size a0) ≤ 20), ()), ()) else some ((false, ()), ())
def ta_spec_ValidBatch : FuncId → Option SD := fun f => if f = 31 then some sd_spec_l4KeyOk else none
def pa_spec_ValidBatch : Nat → Pat × (Nat → Pat) := fun k => if k = 5 then (⟨[.sl 0 0 (.pair .str (.pair .str (.pair .bool .unit)))], [(0, .lf (.d (.sl (.pair .str (.pair .str (.pair .bool .unit)))))), (3, .lf (.d (.int .i64)))], []⟩, fun e => if e = 1 then ⟨[], [(2, .lf (.d .bool))], []⟩ else if e = 2 then ⟨[], [], []⟩ else ⟨[], [], []⟩) else (⟨[], [], []⟩, fun _ => ⟨[], [], []⟩)
noncomputable def co_spec_ValidBatch_5 : Code := (loopsIn (bodyOf Try.f16)).getD 0 .skip
def tr_spec_ValidBatch_5 {R : Type}  (NX : ((List (ByteArray × ByteArray × Bool × Unit)) × (Int) × Unit) → Option R) (X2 : (Unit) → Option R) (X1 : ((Bool) × Unit) → Option R) (v0 : List (ByteArray × ByteArray × Bool × Unit)) (v3 : Int) : Option R :=
  bif decide (v3 < nI (List.length v0)) then
    bif decide (0 ≤ v3) then
      bif decide (v3 < nI (List.length v0)) then
        bif !m_spec_l4KeyOk (List.getD v0 (Int.toNat v3) (ByteArray.mk #[], ByteArray.mk #[], false, ())).fst then X1 (false, ())
        else
          bif decide (0 ≤ v3) then
            bif decide (v3 < nI (List.length v0)) then
              bif decide (nI (ByteArray.size (List.getD v0 (Int.toNat v3) (ByteArray.mk #[], ByteArray.mk #[], false, ())).snd.fst) > 100) then X1 (false, ())
              else
                bif decide (0 ≤ v3) then
                  bif decide (v3 < nI (List.length v0)) then
                    bif (List.getD v0 (Int.toNat v3) (ByteArray.mk #[], ByteArray.mk #[], false, ())).snd.snd.fst then
                      bif decide (0 ≤ v3) then
                        bif decide (v3 < nI (List.length v0)) then
                          bif !ByteArray.toList (List.getD v0 (Int.toNat v3) (ByteArray.mk #[], ByteArray.mk #[], false, ())).snd.fst == ByteArray.toList (ByteArray.mk #[]) then X1 (false, ())
                          else NX (v0, IntKind.wrap IntKind.i64 (v3 + 1), ())
                        else none
                      else none
                    else NX (v0, IntKind.wrap IntKind.i64 (v3 + 1), ())
                  else none
                else none
            else none
          else none
      else none
    else none
  else X2 PUnit.unit
def lo_spec_ValidBatch_5 : Nat → (List (ByteArray × ByteArray × Bool × Unit)) → (Int) →  Option ((Unit) ⊕ ((Bool) × Unit))
  | 0, _, _ => none
  | m + 1, v0, v3 => tr_spec_ValidBatch_5  (fun d => lo_spec_ValidBatch_5 m d.1 d.2.1) (fun d => some (.inl (d))) (fun d => some (.inr (d))) v0 v3
theorem na_spec_ValidBatch_5 {R S : Type}  (NX : ((List (ByteArray × ByteArray × Bool × Unit)) × (Int) × Unit) → Option R) (X2 : (Unit) → Option R) (X1 : ((Bool) × Unit) → Option R) (v0 : List (ByteArray × ByteArray × Bool × Unit)) (v3 : Int) (f : R → Option S) : tr_spec_ValidBatch_5  (fun d => (NX d).bind f) (fun d => (X2 d).bind f) (fun d => (X1 d).bind f) v0 v3 = (tr_spec_ValidBatch_5  NX X2 X1 v0 v3).bind f := by
  unfold tr_spec_ValidBatch_5
  simp only [cond_bind, ite_bind, onSum_bind, Option.bind_assoc, Option.bind_none, Option.bind_some]
def de_spec_ValidBatch (a0 : List (ByteArray × ByteArray × Bool × Unit)) : Option ((((Bool) × Unit) × (Unit))) :=
  bif decide (nI (List.length a0) < 1) then some ((false, ()), ())
  else bif decide (nI (List.length a0) > 20) then some ((false, ()), ()) else Option.bind ((fun d => lo_spec_ValidBatch_5 (fu_spec_ValidBatch_5 d.1 d.2.1) d.1 d.2.1) (a0, 0, ())) fun val => onSum (fun val => some ((true, ()), ())) (fun val => some ((val.fst, ()), ())) val
def ta_laws_toChange : FuncId → Option SD := fun f => none
def pa_laws_toChange : Nat → Pat × (Nat → Pat) := fun k => (⟨[], [], []⟩, fun _ => ⟨[], [], []⟩)
def de_laws_toChange (a0 : ByteArray × ByteArray × Bool × Unit) : Option ((((ByteArray × ByteArray × Bool × Unit) × Unit) × (Unit))) :=
  some (((a0.fst, a0.snd.fst, a0.snd.snd.fst, ()), ()), ())
def ta_laws_toChangeS : FuncId → Option SD := fun f => if f = 32 then some sd_laws_toChange else none
def pa_laws_toChangeS : Nat → Pat × (Nat → Pat) := fun k => if k = 4 then (⟨[.sl 0 0 (.pair .str (.pair .str (.pair .bool .unit))), .row 3 0 56 (.pair .str (.pair .str (.pair .bool .unit)))], [(0, .lf (.d (.sl (.pair .str (.pair .str (.pair .bool .unit)))))), (3, .lf (.row 0)), (4, .lf (.d (.int .i64)))], [.row 56 (.pair .str (.pair .str (.pair .bool .unit)))]⟩, fun e => if e = 2 then ⟨[.row 3 0 56 (.pair .str (.pair .str (.pair .bool .unit)))], [(3, .lf (.row 0))], [.row 56 (.pair .str (.pair .str (.pair .bool .unit)))]⟩ else ⟨[], [], []⟩) else (⟨[], [], []⟩, fun _ => ⟨[], [], []⟩)
noncomputable def co_laws_toChangeS_4 : Code := (loopsIn (bodyOf Try.f17)).getD 0 .skip
def tr_laws_toChangeS_4 {R : Type}  (NX : ((List (ByteArray × ByteArray × Bool × Unit)) × (Int) × (List (ByteArray × ByteArray × Bool × Unit)) × Unit) → Option R) (X2 : ((List (ByteArray × ByteArray × Bool × Unit)) × Unit) → Option R) (v0 : List (ByteArray × ByteArray × Bool × Unit)) (v4 : Int) (r0 : List (ByteArray × ByteArray × Bool × Unit)) : Option R :=
  bif decide (v4 < nI (List.length v0)) then
    bif decide (0 ≤ v4) then
      bif decide (v4 < nI (List.length v0)) then
        bif decide (0 ≤ v4) then
          bif decide (v4 < nI (List.length r0)) then
            bif decide (Int.toNat v4 < List.length r0) then
              NX
                (v0, IntKind.wrap IntKind.i64 (v4 + 1),
                  List.set r0 (Int.toNat v4)
                    ((List.getD v0 (Int.toNat v4) (ByteArray.mk #[], ByteArray.mk #[], false, ())).fst, (List.getD v0 (Int.toNat v4) (ByteArray.mk #[], ByteArray.mk #[], false, ())).snd.fst,
                      (List.getD v0 (Int.toNat v4) (ByteArray.mk #[], ByteArray.mk #[], false, ())).snd.snd.fst, ()),
                  ())
            else none
          else none
        else none
      else none
    else none
  else X2 (r0, ())
def lo_laws_toChangeS_4 : Nat → (List (ByteArray × ByteArray × Bool × Unit)) → (Int) → (List (ByteArray × ByteArray × Bool × Unit)) →  Option ((List (ByteArray × ByteArray × Bool × Unit)) × Unit)
  | 0, _, _, _ => none
  | m + 1, v0, v4, r0 => tr_laws_toChangeS_4  (fun d => lo_laws_toChangeS_4 m d.1 d.2.1 d.2.2.1) (fun d => some (d)) v0 v4 r0
theorem na_laws_toChangeS_4 {R S : Type}  (NX : ((List (ByteArray × ByteArray × Bool × Unit)) × (Int) × (List (ByteArray × ByteArray × Bool × Unit)) × Unit) → Option R) (X2 : ((List (ByteArray × ByteArray × Bool × Unit)) × Unit) → Option R) (v0 : List (ByteArray × ByteArray × Bool × Unit)) (v4 : Int) (r0 : List (ByteArray × ByteArray × Bool × Unit)) (f : R → Option S) : tr_laws_toChangeS_4  (fun d => (NX d).bind f) (fun d => (X2 d).bind f) v0 v4 r0 = (tr_laws_toChangeS_4  NX X2 v0 v4 r0).bind f := by
  unfold tr_laws_toChangeS_4
  simp only [cond_bind, ite_bind, onSum_bind, Option.bind_assoc, Option.bind_none, Option.bind_some]
def de_laws_toChangeS (a0 : List (ByteArray × ByteArray × Bool × Unit)) : Option ((((List (ByteArray × ByteArray × Bool × Unit)) × Unit) × (Unit))) :=
  bif decide (nI (List.length a0) = nI (List.length a0)) then
    bif decide (Int.toNat (nI (List.length a0)) * 40 ≤ 140737488355328) then
      Option.bind ((fun d => lo_laws_toChangeS_4 (fu_laws_toChangeS_4 d.1 d.2.1 d.2.2.1) d.1 d.2.1 d.2.2.1) (a0, 0, List.replicate (Int.toNat (nI (List.length a0))) (ByteArray.mk #[], ByteArray.mk #[], false, ()), ())) fun val => some ((val.fst, ()), ())
    else none
  else none
def ta_impl_in : FuncId → Option SD := fun f => none
def pa_impl_in : Nat → Pat × (Nat → Pat) := fun k => (⟨[], [], []⟩, fun _ => ⟨[], [], []⟩)
def de_impl_in (a0 : Int) (a1 : Int) (a2 : Int) : Option ((((Bool) × Unit) × (Unit))) :=
  bif decide (a0 ≥ a1) then some ((decide (a0 ≤ a2), ()), ()) else some ((false, ()), ())
def ta_impl_goodKey : FuncId → Option SD := fun f => if f = 25 then some sd_impl_in else none
def pa_impl_goodKey : Nat → Pat × (Nat → Pat) := fun k => (⟨[], [], []⟩, fun _ => ⟨[], [], []⟩)
def de_impl_goodKey (a0 : ByteArray) : Option ((((Bool) × Unit) × (Unit))) :=
  some ((m_impl_in (nI (ByteArray.size a0)) 1 20, ()), ())
def ta_impl_ValidBatch : FuncId → Option SD := fun f => if f = 25 then some sd_impl_in else if f = 33 then some sd_impl_goodKey else none
def pa_impl_ValidBatch : Nat → Pat × (Nat → Pat) := fun k => if k = 5 then (⟨[.sl 9 0 (.pair .str (.pair .str (.pair .bool .unit)))], [(9, .lf (.d (.sl (.pair .str (.pair .str (.pair .bool .unit)))))), (10, .lf (.d (.int .i64))), (11, .lf (.d (.int .i64)))], []⟩, fun e => if e = 1 then ⟨[], [(2, .lf (.d .bool))], []⟩ else if e = 2 then ⟨[], [], []⟩ else ⟨[], [], []⟩) else (⟨[], [], []⟩, fun _ => ⟨[], [], []⟩)
noncomputable def co_impl_ValidBatch_5 : Code := (loopsIn (bodyOf Try.f18)).getD 0 .skip
def tr_impl_ValidBatch_5 {R : Type}  (NX : ((List (ByteArray × ByteArray × Bool × Unit)) × (Int) × (Int) × Unit) → Option R) (X2 : (Unit) → Option R) (X1 : ((Bool) × Unit) → Option R) (v9 : List (ByteArray × ByteArray × Bool × Unit)) (v10 : Int) (v11 : Int) : Option R :=
  bif decide (v11 < v10) then
    bif decide (0 ≤ v11) then
      bif decide (v11 < nI (List.length v9)) then
        bif !m_impl_goodKey (List.getD v9 (Int.toNat v11) (ByteArray.mk #[], ByteArray.mk #[], false, ())).fst then X1 (false, ())
        else
          bif decide (nI (ByteArray.size (List.getD v9 (Int.toNat v11) (ByteArray.mk #[], ByteArray.mk #[], false, ())).snd.fst) > 100) then X1 (false, ())
          else
            bif (List.getD v9 (Int.toNat v11) (ByteArray.mk #[], ByteArray.mk #[], false, ())).snd.snd.fst then
              bif !ByteArray.toList (List.getD v9 (Int.toNat v11) (ByteArray.mk #[], ByteArray.mk #[], false, ())).snd.fst == ByteArray.toList (ByteArray.mk #[]) then X1 (false, ())
              else NX (v9, v10, IntKind.wrap IntKind.i64 (v11 + 1), ())
            else NX (v9, v10, IntKind.wrap IntKind.i64 (v11 + 1), ())
      else none
    else none
  else X2 PUnit.unit
def lo_impl_ValidBatch_5 : Nat → (List (ByteArray × ByteArray × Bool × Unit)) → (Int) → (Int) →  Option ((Unit) ⊕ ((Bool) × Unit))
  | 0, _, _, _ => none
  | m + 1, v9, v10, v11 => tr_impl_ValidBatch_5  (fun d => lo_impl_ValidBatch_5 m d.1 d.2.1 d.2.2.1) (fun d => some (.inl (d))) (fun d => some (.inr (d))) v9 v10 v11
theorem na_impl_ValidBatch_5 {R S : Type}  (NX : ((List (ByteArray × ByteArray × Bool × Unit)) × (Int) × (Int) × Unit) → Option R) (X2 : (Unit) → Option R) (X1 : ((Bool) × Unit) → Option R) (v9 : List (ByteArray × ByteArray × Bool × Unit)) (v10 : Int) (v11 : Int) (f : R → Option S) : tr_impl_ValidBatch_5  (fun d => (NX d).bind f) (fun d => (X2 d).bind f) (fun d => (X1 d).bind f) v9 v10 v11 = (tr_impl_ValidBatch_5  NX X2 X1 v9 v10 v11).bind f := by
  unfold tr_impl_ValidBatch_5
  simp only [cond_bind, ite_bind, onSum_bind, Option.bind_assoc, Option.bind_none, Option.bind_some]
def de_impl_ValidBatch (a0 : List (ByteArray × ByteArray × Bool × Unit)) : Option ((((Bool) × Unit) × (Unit))) :=
  bif !m_impl_in (nI (List.length a0)) 1 20 then some ((false, ()), ())
  else Option.bind ((fun d => lo_impl_ValidBatch_5 (fu_impl_ValidBatch_5 d.1 d.2.1 d.2.2.1) d.1 d.2.1 d.2.2.1) (a0, nI (List.length a0), 0, ())) fun val => onSum (fun val => some ((true, ()), ())) (fun val => some ((val.fst, ()), ())) val
def ta_laws_eqChange : FuncId → Option SD := fun f => none
def pa_laws_eqChange : Nat → Pat × (Nat → Pat) := fun k => (⟨[], [], []⟩, fun _ => ⟨[], [], []⟩)
def de_laws_eqChange (a0 : ByteArray × ByteArray × Bool × Unit) (a1 : ByteArray × ByteArray × Bool × Unit) : Option ((((Bool) × Unit) × (Unit))) :=
  bif !ByteArray.toList a0.fst == ByteArray.toList a1.fst then some ((false, ()), ())
  else bif !ByteArray.toList a0.snd.fst == ByteArray.toList a1.snd.fst then some ((false, ()), ()) else bif !a0.snd.snd.fst == a1.snd.snd.fst then some ((false, ()), ()) else some ((true, ()), ())
def ta_laws_eqChangeS : FuncId → Option SD := fun f => if f = 34 then some sd_laws_eqChange else none
def pa_laws_eqChangeS : Nat → Pat × (Nat → Pat) := fun k => if k = 5 then (⟨[.sl 0 0 (.pair .str (.pair .str (.pair .bool .unit))), .sl 1 0 (.pair .str (.pair .str (.pair .bool .unit)))], [(0, .lf (.d (.sl (.pair .str (.pair .str (.pair .bool .unit)))))), (1, .lf (.d (.sl (.pair .str (.pair .str (.pair .bool .unit)))))), (5, .lf (.d (.int .i64)))], []⟩, fun e => if e = 1 then ⟨[], [(4, .lf (.d .bool))], []⟩ else if e = 2 then ⟨[], [], []⟩ else ⟨[], [], []⟩) else (⟨[], [], []⟩, fun _ => ⟨[], [], []⟩)
noncomputable def co_laws_eqChangeS_5 : Code := (loopsIn (bodyOf Try.f19)).getD 0 .skip
def tr_laws_eqChangeS_5 {R : Type}  (NX : ((List (ByteArray × ByteArray × Bool × Unit)) × (List (ByteArray × ByteArray × Bool × Unit)) × (Int) × Unit) → Option R) (X2 : (Unit) → Option R) (X1 : ((Bool) × Unit) → Option R) (v0 : List (ByteArray × ByteArray × Bool × Unit)) (v1 : List (ByteArray × ByteArray × Bool × Unit)) (v5 : Int) : Option R :=
  bif decide (v5 < nI (List.length v0)) then
    bif decide (0 ≤ v5) then
      bif decide (v5 < nI (List.length v0)) then
        bif decide (0 ≤ v5) then
          bif decide (v5 < nI (List.length v1)) then
            bif
                !m_laws_eqChange
                    ((List.getD v0 (Int.toNat v5) (ByteArray.mk #[], ByteArray.mk #[], false, ())).fst, (List.getD v0 (Int.toNat v5) (ByteArray.mk #[], ByteArray.mk #[], false, ())).snd.fst,
                      (List.getD v0 (Int.toNat v5) (ByteArray.mk #[], ByteArray.mk #[], false, ())).snd.snd.fst, ())
                    ((List.getD v1 (Int.toNat v5) (ByteArray.mk #[], ByteArray.mk #[], false, ())).fst, (List.getD v1 (Int.toNat v5) (ByteArray.mk #[], ByteArray.mk #[], false, ())).snd.fst,
                      (List.getD v1 (Int.toNat v5) (ByteArray.mk #[], ByteArray.mk #[], false, ())).snd.snd.fst, ()) then
              X1 (false, ())
            else NX (v0, v1, IntKind.wrap IntKind.i64 (v5 + 1), ())
          else none
        else none
      else none
    else none
  else X2 PUnit.unit
def lo_laws_eqChangeS_5 : Nat → (List (ByteArray × ByteArray × Bool × Unit)) → (List (ByteArray × ByteArray × Bool × Unit)) → (Int) →  Option ((Unit) ⊕ ((Bool) × Unit))
  | 0, _, _, _ => none
  | m + 1, v0, v1, v5 => tr_laws_eqChangeS_5  (fun d => lo_laws_eqChangeS_5 m d.1 d.2.1 d.2.2.1) (fun d => some (.inl (d))) (fun d => some (.inr (d))) v0 v1 v5
theorem na_laws_eqChangeS_5 {R S : Type}  (NX : ((List (ByteArray × ByteArray × Bool × Unit)) × (List (ByteArray × ByteArray × Bool × Unit)) × (Int) × Unit) → Option R) (X2 : (Unit) → Option R) (X1 : ((Bool) × Unit) → Option R) (v0 : List (ByteArray × ByteArray × Bool × Unit)) (v1 : List (ByteArray × ByteArray × Bool × Unit)) (v5 : Int) (f : R → Option S) : tr_laws_eqChangeS_5  (fun d => (NX d).bind f) (fun d => (X2 d).bind f) (fun d => (X1 d).bind f) v0 v1 v5 = (tr_laws_eqChangeS_5  NX X2 X1 v0 v1 v5).bind f := by
  unfold tr_laws_eqChangeS_5
  simp only [cond_bind, ite_bind, onSum_bind, Option.bind_assoc, Option.bind_none, Option.bind_some]
def de_laws_eqChangeS (a0 : List (ByteArray × ByteArray × Bool × Unit)) (a1 : List (ByteArray × ByteArray × Bool × Unit)) : Option ((((Bool) × Unit) × (Unit))) :=
  bif nI (List.length a0) != nI (List.length a1) then some ((false, ()), ())
  else Option.bind ((fun d => lo_laws_eqChangeS_5 (fu_laws_eqChangeS_5 d.1 d.2.1 d.2.2.1) d.1 d.2.1 d.2.2.1) (a0, a1, 0, ())) fun val => onSum (fun val => some ((true, ()), ())) (fun val => some ((val.fst, ()), ())) val
def ta_laws_FnExactValidBatch : FuncId → Option SD := fun f => if f = 15 then some sd_laws_szChangeS else if f = 16 then some sd_spec_ValidBatch else if f = 17 then some sd_laws_toChangeS else if f = 18 then some sd_impl_ValidBatch else if f = 19 then some sd_laws_eqChangeS else none
def pa_laws_FnExactValidBatch : Nat → Pat × (Nat → Pat) := fun k => (⟨[], [], []⟩, fun _ => ⟨[], [], []⟩)
def de_laws_FnExactValidBatch (a0 : List (ByteArray × ByteArray × Bool × Unit)) : Option ((((Bool) × Unit) × (Unit))) :=
  Option.bind (Option.bind (m_laws_szChangeS a0 1048576) fun val => some ((val, ()), ())) fun val =>
    bif decide (val.fst.fst < 0) then some ((true, ()), ())
    else
      Option.bind (Option.bind (m_laws_toChangeS a0) fun val => some ((val, ()), ())) fun val =>
        Option.bind (Option.bind (m_laws_toChangeS a0) fun val => some ((val, ()), ())) fun val_1 =>
          bif !m_impl_ValidBatch val_1.fst.fst == m_spec_ValidBatch val.fst.fst then some ((false, ()), ())
          else
            Option.bind (Option.bind (m_laws_toChangeS a0) fun val => some ((val, ()), ())) fun val =>
              Option.bind (Option.bind (m_laws_eqChangeS val_1.fst.fst val.fst.fst) fun val => some ((val, ()), ())) fun val => bif !val.fst.fst then some ((false, ()), ()) else some ((true, ()), ())
theorem wrap_ok {n : Int} (h0 : -9223372036854775808 ≤ n) (h1 : n < 9223372036854775808) : IntKind.i64.wrap n = n := by
  have e : IntKind.i64.wrap n = if n % 18446744073709551616 ≥ 9223372036854775808 then n % 18446744073709551616 - 18446744073709551616 else n % 18446744073709551616 := by
    simp [IntKind.wrap, IntKind.bits, IntKind.signed]
  rw [e]
  split <;> omega
theorem getD_drop {α : Type} (xs : List α) (i : Nat) (z : α) (h : i < xs.length) : xs.drop i = xs.getD i z :: xs.drop (i + 1) := by
  rw [List.drop_eq_getElem_cons h]
  simp [List.getD, List.getElem?_eq_getElem h]
theorem lo_impl_ValidBatch (xs : List Chg) (hx : xs.length < 4611686018427387904) : ∀ (m i : Nat), i ≤ xs.length → m = xs.length - i + 1 →
    lo_impl_ValidBatch_5 m xs (nI xs.length) (i : Int) = some (if (xs.drop i).all okChg then .inl () else .inr (false, ()))
  | 0, i, hi, hm => by omega
  | m + 1, i, hi, hm => by
    simp only [lo_impl_ValidBatch_5, tr_impl_ValidBatch_5, nI]
    by_cases h : i < xs.length
    · have ih := lo_impl_ValidBatch xs hx m (i + 1) (by omega) (by omega)
      simp only [nI] at ih
      have hw : IntKind.i64.wrap ((i : Int) + 1) = ((i + 1 : Nat) : Int) := by rw [wrap_ok (by omega) (by omega)]; rfl
      have c1 : decide ((i : Int) < (xs.length : Int)) = true := by simp; omega
      have c2 : decide ((0 : Int) ≤ (i : Int)) = true := by simp
      rw [getD_drop xs i (ByteArray.mk #[], ByteArray.mk #[], false, ()) h, List.all_cons, c1, c2, hw, ih]
      simp only [cond_true, Int.toNat_natCast]
      obtain ⟨k, v, g, hc⟩ : ∃ k v g, List.getD xs i (ByteArray.mk #[], ByteArray.mk #[], false, ()) = (k, v, g, ()) := ⟨_, _, _, rfl⟩
      simp only [hc]
      generalize (xs.drop (i + 1)).all okChg = t
      unfold okChg
      have e1 : decide ((ByteArray.size v : Int) > 100) = !decide (ByteArray.size v ≤ 100) := by
        by_cases q : ByteArray.size v ≤ 100 <;> simp [q] <;> omega
      have e2 : (ByteArray.mk #[]).toList = [] := by rw [ByteArray.toList_eq]
      simp only [e1, e2]
      generalize m_impl_goodKey k = p1
      generalize decide (ByteArray.size v ≤ 100) = p2
      generalize (ByteArray.toList v == []) = p3
      cases p1 <;> cases p2 <;> cases g <;> cases p3 <;> cases t <;> rfl
    · have : i = xs.length := by omega
      subst this
      have c1 : decide ((xs.length : Int) < (xs.length : Int)) = false := by simp
      rw [c1]
      simp
theorem eq_impl_ValidBatch (a0 : List Chg) : de_impl_ValidBatch a0 = some ((m_impl_ValidBatch a0, ()), ()) := by
  unfold de_impl_ValidBatch m_impl_ValidBatch
  cases hin : m_impl_in (nI (List.length a0)) 1 20 with
  | false =>
    have : m_impl_in (a0.length : Int) 1 20 = false := hin
    simp [this]
  | true =>
    have hin' : m_impl_in (a0.length : Int) 1 20 = true := hin
    have hlen : a0.length ≤ 20 := by simp [m_impl_in] at hin'; omega
    have := lo_impl_ValidBatch a0 (by omega) (fu_impl_ValidBatch_5 a0 (nI a0.length) 0) 0 (by omega) (by simp [fu_impl_ValidBatch_5, nI])
    simp only [Bool.not_true, cond_false]
    have this' : lo_impl_ValidBatch_5 (fu_impl_ValidBatch_5 a0 (nI a0.length) 0) a0 (nI a0.length) 0 = some (if (a0.drop 0).all okChg then .inl () else .inr (false, ())) := this
    rw [this']
    simp only [Option.bind_some, List.drop_zero, hin']
    cases a0.all okChg <;> rfl
theorem eq_impl_in (a0 a1 a2 : Int) : de_impl_in a0 a1 a2 = some ((m_impl_in a0 a1 a2, ()), ()) := by
  unfold de_impl_in m_impl_in
  by_cases h : a0 ≥ a1
  · have : decide (a1 ≤ a0) = true := by simpa using h
    simp [h, this]
  · have : decide (a1 ≤ a0) = false := by simpa using h
    simp [h, this]
theorem eq_impl_goodKey (a0 : ByteArray) : de_impl_goodKey a0 = some ((m_impl_goodKey a0, ()), ()) := rfl
theorem eq_spec_l4KeyOk (a0 : ByteArray) : de_spec_l4KeyOk a0 = some ((m_spec_l4KeyOk a0, ()), ()) := by
  unfold de_spec_l4KeyOk m_spec_l4KeyOk m_impl_goodKey m_impl_in
  by_cases h : (a0.size : Int) ≥ 1
  · have : decide ((1 : Int) ≤ (a0.size : Int)) = true := by simpa using h
    simp [nI, this]
  · have h' : ¬ (1 : Int) ≤ (a0.size : Int) := h
    simp [nI, h']
theorem eq_laws_toChange (a0 : Chg) : de_laws_toChange a0 = some ((m_laws_toChange a0, ()), ()) := rfl
theorem eq_laws_eqChange (a0 a1 : Chg) : de_laws_eqChange a0 a1 = some ((m_laws_eqChange a0 a1, ()), ()) := by
  unfold de_laws_eqChange m_laws_eqChange
  obtain ⟨k, v, g, ⟨⟩⟩ := a0
  obtain ⟨k', v', g', ⟨⟩⟩ := a1
  show _ = some ((ByteArray.toList k == ByteArray.toList k' && (ByteArray.toList v == ByteArray.toList v' && g == g'), ()), ())
  simp only [bne]
  generalize (ByteArray.toList k == ByteArray.toList k') = p1
  generalize (ByteArray.toList v == ByteArray.toList v') = p2
  cases p1 <;> cases p2 <;> cases g <;> cases g' <;> rfl
theorem lo_spec_ValidBatch (xs : List Chg) (hx : xs.length < 4611686018427387904) : ∀ (m i : Nat), i ≤ xs.length → m = xs.length - i + 1 →
    lo_spec_ValidBatch_5 m xs (i : Int) = some (if (xs.drop i).all okChg then .inl () else .inr (false, ()))
  | 0, i, hi, hm => by omega
  | m + 1, i, hi, hm => by
    simp only [lo_spec_ValidBatch_5, tr_spec_ValidBatch_5, nI]
    by_cases h : i < xs.length
    · have ih := lo_spec_ValidBatch xs hx m (i + 1) (by omega) (by omega)
      have hw : IntKind.i64.wrap ((i : Int) + 1) = ((i + 1 : Nat) : Int) := by rw [wrap_ok (by omega) (by omega)]; rfl
      have c1 : decide ((i : Int) < (xs.length : Int)) = true := by simp; omega
      have c2 : decide ((0 : Int) ≤ (i : Int)) = true := by simp
      rw [getD_drop xs i (ByteArray.mk #[], ByteArray.mk #[], false, ()) h, List.all_cons, c1, c2, hw, ih]
      simp only [cond_true, Int.toNat_natCast]
      obtain ⟨k, v, g, hc⟩ : ∃ k v g, List.getD xs i (ByteArray.mk #[], ByteArray.mk #[], false, ()) = (k, v, g, ()) := ⟨_, _, _, rfl⟩
      simp only [hc]
      generalize (xs.drop (i + 1)).all okChg = t
      unfold okChg m_spec_l4KeyOk
      have e1 : decide ((ByteArray.size v : Int) > 100) = !decide (ByteArray.size v ≤ 100) := by
        by_cases q : ByteArray.size v ≤ 100 <;> simp [q] <;> omega
      have e2 : (ByteArray.mk #[]).toList = [] := by rw [ByteArray.toList_eq]
      simp only [e1, e2]
      generalize m_impl_goodKey k = p1
      generalize decide (ByteArray.size v ≤ 100) = p2
      generalize (ByteArray.toList v == []) = p3
      cases p1 <;> cases p2 <;> cases g <;> cases p3 <;> cases t <;> rfl
    · have : i = xs.length := by omega
      subst this
      have c1 : decide ((xs.length : Int) < (xs.length : Int)) = false := by simp
      rw [c1]
      simp
theorem eq_spec_ValidBatch (a0 : List Chg) : de_spec_ValidBatch a0 = some ((m_spec_ValidBatch a0, ()), ()) := by
  unfold de_spec_ValidBatch m_spec_ValidBatch m_impl_ValidBatch
  simp only [nI]
  by_cases h1 : (a0.length : Int) < 1
  · have : m_impl_in (a0.length : Int) 1 20 = false := by simp [m_impl_in]; omega
    simp [h1, this]
  · by_cases h2 : (a0.length : Int) > 20
    · have : m_impl_in (a0.length : Int) 1 20 = false := by simp [m_impl_in]; omega
      simp [h1, h2, this]
    · have hin : m_impl_in (a0.length : Int) 1 20 = true := by simp [m_impl_in]; omega
      have := lo_spec_ValidBatch a0 (by omega) (fu_spec_ValidBatch_5 a0 0) 0 (by omega) (by simp [fu_spec_ValidBatch_5])
      have this' : lo_spec_ValidBatch_5 (fu_spec_ValidBatch_5 a0 0) a0 0 = some (if (a0.drop 0).all okChg then .inl () else .inr (false, ())) := this
      simp only [h1, h2, decide_false, cond_false, this', Option.bind_some, List.drop_zero, hin]
      cases a0.all okChg <;> rfl
theorem eq_laws_szChange (a0 : Chg) (a1 : Int) : de_laws_szChange a0 a1 = some ((m_laws_szChange a0 a1, ()), ()) := by
  unfold de_laws_szChange m_laws_szChange
  by_cases h1 : IntKind.wrap IntKind.i64 (a1 - nI (ByteArray.size a0.1)) < 0
  · simp [h1]
  · by_cases h2 : IntKind.wrap IntKind.i64 (IntKind.wrap IntKind.i64 (a1 - nI (ByteArray.size a0.1)) - nI (ByteArray.size a0.2.1)) < 0
    · simp only [h1, h2, decide_true, decide_false, cond_true, cond_false, if_true, if_false]
    · simp only [h1, h2, decide_false, cond_false, if_false]
theorem lo_laws_szChangeS (xs : List Chg) (hx : xs.length < 4611686018427387904) : ∀ (m i : Nat) (l : Int), i ≤ xs.length → m = xs.length - i + 1 → ∃ o,
    lo_laws_szChangeS_6 m xs l (i : Int) = some o ∧ (onSum (fun v => v.1) (fun v => v.1) o : Int) = szChgGo (xs.drop i) l
  | 0, i, l, hi, hm => by omega
  | m + 1, i, l, hi, hm => by
    simp only [lo_laws_szChangeS_6, tr_laws_szChangeS_6, nI]
    by_cases h : i < xs.length
    · have hw : IntKind.i64.wrap ((i : Int) + 1) = ((i + 1 : Nat) : Int) := by rw [wrap_ok (by omega) (by omega)]; rfl
      have c1 : decide ((i : Int) < (xs.length : Int)) = true := by simp; omega
      have c2 : decide ((0 : Int) ≤ (i : Int)) = true := by simp
      rw [getD_drop xs i (ByteArray.mk #[], ByteArray.mk #[], false, ()) h, c1, c2, hw]
      simp only [cond_true, Int.toNat_natCast, szChgGo]
      obtain ⟨k, v, g, hc⟩ : ∃ k v g, List.getD xs i (ByteArray.mk #[], ByteArray.mk #[], false, ()) = (k, v, g, ()) := ⟨_, _, _, rfl⟩
      simp only [hc]
      by_cases h1 : m_laws_szChange (k, v, g, ()) l < 0
      · simp only [h1, decide_true, cond_true, if_true]
        exact ⟨_, rfl, rfl⟩
      · simp only [h1, decide_false, cond_false, if_false]
        exact lo_laws_szChangeS xs hx m (i + 1) _ (by omega) (by omega)
    · have : i = xs.length := by omega
      subst this
      have c1 : decide ((xs.length : Int) < (xs.length : Int)) = false := by simp
      rw [c1]
      exact ⟨_, rfl, by simp [onSum, szChgGo]⟩
theorem eq_laws_szChangeS (a0 : List Chg) (a1 : Int) (r : Int) (h : m_laws_szChangeS a0 a1 = some r) : de_laws_szChangeS a0 a1 = some ((r, ()), ()) := by
  unfold m_laws_szChangeS at h
  unfold de_laws_szChangeS
  split at h
  · rename_i hx
    cases h
    by_cases h1 : IntKind.i64.wrap (a1 - nI a0.length) < 0
    · simp only [h1, decide_true, cond_true, if_true]
    · obtain ⟨o, e1, e2⟩ := lo_laws_szChangeS a0 hx (fu_laws_szChangeS_6 a0 (IntKind.i64.wrap (a1 - nI a0.length)) 0) 0 (IntKind.i64.wrap (a1 - nI a0.length)) (by omega) (by simp [fu_laws_szChangeS_6])
      have e1' : lo_laws_szChangeS_6 (fu_laws_szChangeS_6 a0 (IntKind.i64.wrap (a1 - nI a0.length)) 0) a0 (IntKind.i64.wrap (a1 - nI a0.length)) 0 = some o := e1
      simp only [h1, decide_false, cond_false, if_false, e1', Option.bind_some]
      rw [List.drop_zero] at e2
      rw [← e2]
      cases o <;> rfl
  · cases h
theorem lo_laws_toChangeS (xs : List Chg) (hx : xs.length < 4611686018427387904) : ∀ (m i : Nat) (r : List Chg), i ≤ xs.length → r.length = xs.length → m = xs.length - i + 1 →
    lo_laws_toChangeS_4 m xs (i : Int) r = some (r.take i ++ xs.drop i, ())
  | 0, i, r, hi, hr, hm => by omega
  | m + 1, i, r, hi, hr, hm => by
    simp only [lo_laws_toChangeS_4, tr_laws_toChangeS_4, nI]
    by_cases h : i < xs.length
    · have hw : IntKind.i64.wrap ((i : Int) + 1) = ((i + 1 : Nat) : Int) := by rw [wrap_ok (by omega) (by omega)]; rfl
      have c1 : decide ((i : Int) < (xs.length : Int)) = true := by simp; omega
      have c2 : decide ((0 : Int) ≤ (i : Int)) = true := by simp
      have c3 : decide ((i : Int) < (r.length : Int)) = true := by simp; omega
      have c4 : decide (i < r.length) = true := by simp; omega
      rw [getD_drop xs i (ByteArray.mk #[], ByteArray.mk #[], false, ()) h]
      simp only [Int.toNat_natCast, c1, c2, c3, c4, cond_true, hw]
      obtain ⟨k, v, g, hc⟩ : ∃ k v g, List.getD xs i (ByteArray.mk #[], ByteArray.mk #[], false, ()) = (k, v, g, ()) := ⟨_, _, _, rfl⟩
      simp only [hc]
      rw [lo_laws_toChangeS xs hx m (i + 1) (r.set i (k, v, g, ())) (by omega) (by simp [hr]) (by omega)]
      have : (r.set i (k, v, g, ())).take (i + 1) = r.take i ++ [(k, v, g, ())] := by
        rw [List.take_add_one, List.take_set_of_le (Nat.le_refl i), List.getElem?_set_self (by omega)]
        rfl
      rw [this, List.append_assoc]
      rfl
    · have : i = xs.length := by omega
      subst this
      have c1 : decide ((xs.length : Int) < (xs.length : Int)) = false := by simp
      rw [c1]
      simp [← hr]
theorem eq_laws_toChangeS (a0 : List Chg) (r : List Chg) (h : m_laws_toChangeS a0 = some r) : de_laws_toChangeS a0 = some ((r, ()), ()) := by
  unfold m_laws_toChangeS at h
  unfold de_laws_toChangeS
  split at h
  · rename_i hx
    cases h
    have hl := lo_laws_toChangeS a0 (by omega) (fu_laws_toChangeS_4 a0 0 (List.replicate a0.length (ByteArray.mk #[], ByteArray.mk #[], false, ()))) 0 (List.replicate a0.length (ByteArray.mk #[], ByteArray.mk #[], false, ())) (by omega) (by simp) (by simp [fu_laws_toChangeS_4])
    have hl' : lo_laws_toChangeS_4 (fu_laws_toChangeS_4 a0 0 (List.replicate a0.length (ByteArray.mk #[], ByteArray.mk #[], false, ()))) a0 0 (List.replicate a0.length (ByteArray.mk #[], ByteArray.mk #[], false, ())) = some ([] ++ a0, ()) := hl
    have c1 : decide (Int.toNat (nI a0.length) * 40 ≤ 140737488355328) = true := by simp [nI]; omega
    simp only [decide_true, cond_true, c1]
    have e : Int.toNat (nI a0.length) = a0.length := by simp [nI]
    simp only [e, hl', Option.bind_some]
    rfl
  · cases h
theorem lo_laws_eqChangeS (xs ys : List Chg) (hx : xs.length < 4611686018427387904) (hy : ys.length = xs.length) : ∀ (m i : Nat), i ≤ xs.length → m = xs.length - i + 1 →
    lo_laws_eqChangeS_5 m xs ys (i : Int) = some (if eqChgs (xs.drop i) (ys.drop i) then .inl () else .inr (false, ()))
  | 0, i, hi, hm => by omega
  | m + 1, i, hi, hm => by
    simp only [lo_laws_eqChangeS_5, tr_laws_eqChangeS_5, nI]
    by_cases h : i < xs.length
    · have hw : IntKind.i64.wrap ((i : Int) + 1) = ((i + 1 : Nat) : Int) := by rw [wrap_ok (by omega) (by omega)]; rfl
      have c1 : decide ((i : Int) < (xs.length : Int)) = true := by simp; omega
      have c2 : decide ((0 : Int) ≤ (i : Int)) = true := by simp
      have c3 : decide ((i : Int) < (ys.length : Int)) = true := by simp; omega
      rw [getD_drop xs i (ByteArray.mk #[], ByteArray.mk #[], false, ()) h, getD_drop ys i (ByteArray.mk #[], ByteArray.mk #[], false, ()) (by omega)]
      simp only [Int.toNat_natCast, c1, c2, c3, cond_true, hw, lo_laws_eqChangeS xs ys hx hy m (i + 1) (by omega) (by omega), eqChgs]
      obtain ⟨k, v, g, hc⟩ : ∃ k v g, List.getD xs i (ByteArray.mk #[], ByteArray.mk #[], false, ()) = (k, v, g, ()) := ⟨_, _, _, rfl⟩
      obtain ⟨k', v', g', hc'⟩ : ∃ k v g, List.getD ys i (ByteArray.mk #[], ByteArray.mk #[], false, ()) = (k, v, g, ()) := ⟨_, _, _, rfl⟩
      simp only [hc, hc']
      cases m_laws_eqChange (k, v, g, ()) (k', v', g', ()) <;> rfl
    · have : i = xs.length := by omega
      subst this
      have c1 : decide ((xs.length : Int) < (xs.length : Int)) = false := by simp
      rw [c1, List.drop_eq_nil_of_le (Nat.le_refl _), List.drop_eq_nil_of_le (by omega)]
      rfl
theorem eqChgs_len : ∀ {a b : List Chg}, a.length ≠ b.length → eqChgs a b = false
  | [], [], h => absurd rfl h
  | [], _ :: _, _ => rfl
  | _ :: _, [], _ => rfl
  | a :: r, b :: q, h => by
    simp only [eqChgs, eqChgs_len (a := r) (b := q) (fun e => h (by simp [e])), Bool.and_false]
theorem eq_laws_eqChangeS (a0 a1 : List Chg) (r : Bool) (h : m_laws_eqChangeS a0 a1 = some r) : de_laws_eqChangeS a0 a1 = some ((r, ()), ()) := by
  unfold m_laws_eqChangeS at h
  unfold de_laws_eqChangeS
  split at h
  · rename_i hx
    cases h
    by_cases hl : a0.length = a1.length
    · have := lo_laws_eqChangeS a0 a1 hx hl.symm (fu_laws_eqChangeS_5 a0 a1 0) 0 (by omega) (by simp [fu_laws_eqChangeS_5])
      have this' : lo_laws_eqChangeS_5 (fu_laws_eqChangeS_5 a0 a1 0) a0 a1 0 = some (if eqChgs (a0.drop 0) (a1.drop 0) then .inl () else .inr (false, ())) := this
      have c1 : (nI a0.length != nI a1.length) = false := by simp [nI, hl]
      simp only [c1, cond_false, this', Option.bind_some, List.drop_zero]
      cases eqChgs a0 a1 <;> rfl
    · have c1 : (nI a0.length != nI a1.length) = true := by simp [nI]; omega
      simp only [c1, cond_true, eqChgs_len hl]
  · cases h
theorem eqChgs_self : ∀ (a : List Chg), eqChgs a a = true
  | [] => rfl
  | c :: r => by simp [eqChgs, eqChgs_self r, m_laws_eqChange]
theorem eq_laws_FnExactValidBatch (a0 : List Chg) (r : Bool) (h : m_laws_FnExactValidBatch a0 = some r) : de_laws_FnExactValidBatch a0 = some ((r, ()), ()) := by
  unfold m_laws_FnExactValidBatch at h
  unfold de_laws_FnExactValidBatch
  split at h
  · rename_i hx
    cases h
    have hs : m_laws_szChangeS a0 1048576 = some (if IntKind.i64.wrap (1048576 - nI a0.length) < 0 then -1 else szChgGo a0 (IntKind.i64.wrap (1048576 - nI a0.length))) := by
      unfold m_laws_szChangeS
      rw [if_pos (by omega)]
    rw [wrap_ok (by simp [nI]; omega) (by simp [nI]; omega)] at hs
    by_cases h1 : (1048576 : Int) - nI a0.length < 0
    · rw [if_pos h1] at hs
      simp only [hs, Option.bind_some]
      rfl
    · rw [if_neg h1] at hs
      have hlen : a0.length ≤ 1048576 := by simp [nI] at h1; omega
      have ht : m_laws_toChangeS a0 = some a0 := by unfold m_laws_toChangeS; rw [if_pos hlen]
      have he : m_laws_eqChangeS a0 a0 = some true := by unfold m_laws_eqChangeS; rw [if_pos (by omega), eqChgs_self]
      simp only [hs, Option.bind_some, ht, he]
      cases decide (szChgGo a0 (1048576 - nI a0.length) < 0)
      · simp [m_spec_ValidBatch]
      · rfl
  · cases h

theorem en_laws_szChange (a0 : ByteArray × ByteArray × Bool × Unit) (a1 : Int) : evalF Try.prog ta_laws_szChange pa_laws_szChange sg_laws_szChange Try.f30 noL (a0, a1, ()) = de_laws_szChange a0 a1 := by kernel_rfl
theorem si_laws_szChange : SigsOk Try.prog ta_laws_szChange := fun f sd h => by
  unfold ta_laws_szChange at h
  cases h
theorem sn_laws_szChange : Callable Try.prog 30 ∧ Sound Try.prog 30 sd_laws_szChange.sg sd_laws_szChange.den :=
  fn_plain (pat := pa_laws_szChange) (by kernel_rfl) si_laws_szChange Try.func30 (by kernel_rfl) (by kernel_rfl) (by kernel_rfl) fun x r h => by
    obtain ⟨a0, a1, ⟨⟩⟩ := x; rw [← h]; exact (en_laws_szChange a0 a1).trans (eq_laws_szChange a0 a1)
def ou_laws_szChangeS_6 {R : Type} (k : Kt R) : (((Int) × Unit) ⊕ ((Int) × Unit)) → Option R := (onSum (fun d => k (.exit 0) (((pa_laws_szChangeS 6).2 2).st d) (((pa_laws_szChangeS 6).2 2).nid)) (fun d => k .ret (((pa_laws_szChangeS 6).2 1).st d) (((pa_laws_szChangeS 6).2 1).nid)))
def L_laws_szChangeS {R : Type} : Lt R pa_laws_szChangeS := (addL (pat := pa_laws_szChangeS) 6 (fun d k => (lo_laws_szChangeS_6 (fu_laws_szChangeS_6 d.1 d.2.1 d.2.2.1) d.1 d.2.1 d.2.2.1).bind (ou_laws_szChangeS_6 k)) noL)
theorem rd_laws_szChangeS_6 {R : Type} (nx : (pa_laws_szChangeS 6).1.D → Kt R → Option R) (k : Kt R) (v0 : List (ByteArray × ByteArray × Bool × Unit)) (v1 : Int) (v5 : Int) : ev Try.prog ⟨ta_laws_szChangeS, 0, 27, pa_laws_szChangeS⟩ L_laws_szChangeS co_laws_szChangeS_6 ((pa_laws_szChangeS 6).1.st (v0, v1, v5, ())) (pa_laws_szChangeS 6).1.nid (roundK 0 (pa_laws_szChangeS 6) nx k) = tr_laws_szChangeS_6  (fun d => nx d k) (fun d => k (.exit 0) (((pa_laws_szChangeS 6).2 2).st d) (((pa_laws_szChangeS 6).2 2).nid)) (fun d => k .ret (((pa_laws_szChangeS 6).2 1).st d) (((pa_laws_szChangeS 6).2 1).nid)) v0 v1 v5 := by kernel_rfl
theorem lp_laws_szChangeS_6 {R : Type} : ∀ (m : Nat) (d : (pa_laws_szChangeS 6).1.D) (k : Kt R), loopN 0 (pa_laws_szChangeS 6) (fun s nid k => ev Try.prog ⟨ta_laws_szChangeS, 0, 27, pa_laws_szChangeS⟩ L_laws_szChangeS co_laws_szChangeS_6 s nid k) m d k = (lo_laws_szChangeS_6 m d.1 d.2.1 d.2.2.1).bind (ou_laws_szChangeS_6 k)
  | 0, _, _ => rfl
  | m + 1, ⟨v0, v1, v5, ⟨⟩⟩, k => (rd_laws_szChangeS_6 _ k v0 v1 v5).trans ((congrArg (fun F => tr_laws_szChangeS_6  F (fun d => k (.exit 0) (((pa_laws_szChangeS 6).2 2).st d) (((pa_laws_szChangeS 6).2 2).nid)) (fun d => k .ret (((pa_laws_szChangeS 6).2 1).st d) (((pa_laws_szChangeS 6).2 1).nid)) v0 v1 v5) (funext fun d => lp_laws_szChangeS_6 m d k)).trans (na_laws_szChangeS_6 (f := ou_laws_szChangeS_6 k)  (fun d => lo_laws_szChangeS_6 m d.1 d.2.1 d.2.2.1) (fun d => some (.inl (d))) (fun d => some (.inr (d))) v0 v1 v5))
theorem en_laws_szChangeS (a0 : List (ByteArray × ByteArray × Bool × Unit)) (a1 : Int) : evalF Try.prog ta_laws_szChangeS pa_laws_szChangeS sg_laws_szChangeS Try.f15 L_laws_szChangeS (a0, a1, ()) = de_laws_szChangeS a0 a1 := by kernel_rfl
theorem si_laws_szChangeS : SigsOk Try.prog ta_laws_szChangeS := fun f sd h => by
  unfold ta_laws_szChangeS at h
  split at h
  · rename_i e; subst e; cases h; exact sn_laws_szChange
  cases h
theorem lk_laws_szChangeS_6 {R : Type} : LoopOk Try.prog R 27 0 pa_laws_szChangeS L_laws_szChangeS co_laws_szChangeS_6 :=
  loop_key (cfg := ⟨ta_laws_szChangeS, 0, 27, pa_laws_szChangeS⟩) (key := 6) (by kernel_rfl) (by kernel_rfl) si_laws_szChangeS rfl rfl (fun d k r h => ⟨fu_laws_szChangeS_6 d.1 d.2.1 d.2.2.1, (lp_laws_szChangeS_6 _ d k).trans h⟩) (fun c hc => by rw [show loopsIn co_laws_szChangeS_6 = [] from by kernel_rfl] at hc; cases hc)
theorem sn_laws_szChangeS : Callable Try.prog 15 ∧ Sound Try.prog 15 sd_laws_szChangeS.sg sd_laws_szChangeS.den :=
  fn_loops (pat := pa_laws_szChangeS) L_laws_szChangeS (by kernel_rfl) si_laws_szChangeS Try.func15 (by kernel_rfl) (by kernel_rfl) (fun c hc => by rw [show loopsIn (bodyOf Try.f15) = [co_laws_szChangeS_6] from by kernel_rfl] at hc; simp only [List.mem_cons, List.not_mem_nil, or_false] at hc; rcases hc with rfl <;> first | exact lk_laws_szChangeS_6) fun x r h => by
    obtain ⟨a0, a1, ⟨⟩⟩ := x; obtain ⟨y, h1, h2⟩ := Option.bind_eq_some_iff.1 (show (m_laws_szChangeS a0 a1).bind (fun r => some ((r, ()), ())) = some r from h); cases h2; exact (en_laws_szChangeS a0 a1).trans (eq_laws_szChangeS a0 a1 _ h1)
theorem en_spec_l4KeyOk (a0 : ByteArray) : evalF Try.prog ta_spec_l4KeyOk pa_spec_l4KeyOk sg_spec_l4KeyOk Try.f31 noL (a0, ()) = de_spec_l4KeyOk a0 := by kernel_rfl
theorem si_spec_l4KeyOk : SigsOk Try.prog ta_spec_l4KeyOk := fun f sd h => by
  unfold ta_spec_l4KeyOk at h
  cases h
theorem sn_spec_l4KeyOk : Callable Try.prog 31 ∧ Sound Try.prog 31 sd_spec_l4KeyOk.sg sd_spec_l4KeyOk.den :=
  fn_plain (pat := pa_spec_l4KeyOk) (by kernel_rfl) si_spec_l4KeyOk Try.func31 (by kernel_rfl) (by kernel_rfl) (by kernel_rfl) fun x r h => by
    obtain ⟨a0, ⟨⟩⟩ := x; rw [← h]; exact (en_spec_l4KeyOk a0).trans (eq_spec_l4KeyOk a0)
def ou_spec_ValidBatch_5 {R : Type} (k : Kt R) : ((Unit) ⊕ ((Bool) × Unit)) → Option R := (onSum (fun d => k (.exit 0) (((pa_spec_ValidBatch 5).2 2).st d) (((pa_spec_ValidBatch 5).2 2).nid)) (fun d => k .ret (((pa_spec_ValidBatch 5).2 1).st d) (((pa_spec_ValidBatch 5).2 1).nid)))
def L_spec_ValidBatch {R : Type} : Lt R pa_spec_ValidBatch := (addL (pat := pa_spec_ValidBatch) 5 (fun d k => (lo_spec_ValidBatch_5 (fu_spec_ValidBatch_5 d.1 d.2.1) d.1 d.2.1).bind (ou_spec_ValidBatch_5 k)) noL)
theorem rd_spec_ValidBatch_5 {R : Type} (nx : (pa_spec_ValidBatch 5).1.D → Kt R → Option R) (k : Kt R) (v0 : List (ByteArray × ByteArray × Bool × Unit)) (v3 : Int) : ev Try.prog ⟨ta_spec_ValidBatch, 0, 49, pa_spec_ValidBatch⟩ L_spec_ValidBatch co_spec_ValidBatch_5 ((pa_spec_ValidBatch 5).1.st (v0, v3, ())) (pa_spec_ValidBatch 5).1.nid (roundK 0 (pa_spec_ValidBatch 5) nx k) = tr_spec_ValidBatch_5  (fun d => nx d k) (fun d => k (.exit 0) (((pa_spec_ValidBatch 5).2 2).st d) (((pa_spec_ValidBatch 5).2 2).nid)) (fun d => k .ret (((pa_spec_ValidBatch 5).2 1).st d) (((pa_spec_ValidBatch 5).2 1).nid)) v0 v3 := by kernel_rfl
theorem lp_spec_ValidBatch_5 {R : Type} : ∀ (m : Nat) (d : (pa_spec_ValidBatch 5).1.D) (k : Kt R), loopN 0 (pa_spec_ValidBatch 5) (fun s nid k => ev Try.prog ⟨ta_spec_ValidBatch, 0, 49, pa_spec_ValidBatch⟩ L_spec_ValidBatch co_spec_ValidBatch_5 s nid k) m d k = (lo_spec_ValidBatch_5 m d.1 d.2.1).bind (ou_spec_ValidBatch_5 k)
  | 0, _, _ => rfl
  | m + 1, ⟨v0, v3, ⟨⟩⟩, k => (rd_spec_ValidBatch_5 _ k v0 v3).trans ((congrArg (fun F => tr_spec_ValidBatch_5  F (fun d => k (.exit 0) (((pa_spec_ValidBatch 5).2 2).st d) (((pa_spec_ValidBatch 5).2 2).nid)) (fun d => k .ret (((pa_spec_ValidBatch 5).2 1).st d) (((pa_spec_ValidBatch 5).2 1).nid)) v0 v3) (funext fun d => lp_spec_ValidBatch_5 m d k)).trans (na_spec_ValidBatch_5 (f := ou_spec_ValidBatch_5 k)  (fun d => lo_spec_ValidBatch_5 m d.1 d.2.1) (fun d => some (.inl (d))) (fun d => some (.inr (d))) v0 v3))
theorem en_spec_ValidBatch (a0 : List (ByteArray × ByteArray × Bool × Unit)) : evalF Try.prog ta_spec_ValidBatch pa_spec_ValidBatch sg_spec_ValidBatch Try.f16 L_spec_ValidBatch (a0, ()) = de_spec_ValidBatch a0 := by kernel_rfl
theorem si_spec_ValidBatch : SigsOk Try.prog ta_spec_ValidBatch := fun f sd h => by
  unfold ta_spec_ValidBatch at h
  split at h
  · rename_i e; subst e; cases h; exact sn_spec_l4KeyOk
  cases h
theorem lk_spec_ValidBatch_5 {R : Type} : LoopOk Try.prog R 49 0 pa_spec_ValidBatch L_spec_ValidBatch co_spec_ValidBatch_5 :=
  loop_key (cfg := ⟨ta_spec_ValidBatch, 0, 49, pa_spec_ValidBatch⟩) (key := 5) (by kernel_rfl) (by kernel_rfl) si_spec_ValidBatch rfl rfl (fun d k r h => ⟨fu_spec_ValidBatch_5 d.1 d.2.1, (lp_spec_ValidBatch_5 _ d k).trans h⟩) (fun c hc => by rw [show loopsIn co_spec_ValidBatch_5 = [] from by kernel_rfl] at hc; cases hc)
theorem sn_spec_ValidBatch : Callable Try.prog 16 ∧ Sound Try.prog 16 sd_spec_ValidBatch.sg sd_spec_ValidBatch.den :=
  fn_loops (pat := pa_spec_ValidBatch) L_spec_ValidBatch (by kernel_rfl) si_spec_ValidBatch Try.func16 (by kernel_rfl) (by kernel_rfl) (fun c hc => by rw [show loopsIn (bodyOf Try.f16) = [co_spec_ValidBatch_5] from by kernel_rfl] at hc; simp only [List.mem_cons, List.not_mem_nil, or_false] at hc; rcases hc with rfl <;> first | exact lk_spec_ValidBatch_5) fun x r h => by
    obtain ⟨a0, ⟨⟩⟩ := x; rw [← h]; exact (en_spec_ValidBatch a0).trans (eq_spec_ValidBatch a0)
theorem en_laws_toChange (a0 : ByteArray × ByteArray × Bool × Unit) : evalF Try.prog ta_laws_toChange pa_laws_toChange sg_laws_toChange Try.f32 noL (a0, ()) = de_laws_toChange a0 := by kernel_rfl
theorem si_laws_toChange : SigsOk Try.prog ta_laws_toChange := fun f sd h => by
  unfold ta_laws_toChange at h
  cases h
theorem sn_laws_toChange : Callable Try.prog 32 ∧ Sound Try.prog 32 sd_laws_toChange.sg sd_laws_toChange.den :=
  fn_plain (pat := pa_laws_toChange) (by kernel_rfl) si_laws_toChange Try.func32 (by kernel_rfl) (by kernel_rfl) (by kernel_rfl) fun x r h => by
    obtain ⟨a0, ⟨⟩⟩ := x; rw [← h]; exact (en_laws_toChange a0).trans (eq_laws_toChange a0)
def ou_laws_toChangeS_4 {R : Type} (k : Kt R) : ((List (ByteArray × ByteArray × Bool × Unit)) × Unit) → Option R := (fun d => k (.exit 0) (((pa_laws_toChangeS 4).2 2).st d) (((pa_laws_toChangeS 4).2 2).nid))
def L_laws_toChangeS {R : Type} : Lt R pa_laws_toChangeS := (addL (pat := pa_laws_toChangeS) 4 (fun d k => (lo_laws_toChangeS_4 (fu_laws_toChangeS_4 d.1 d.2.1 d.2.2.1) d.1 d.2.1 d.2.2.1).bind (ou_laws_toChangeS_4 k)) noL)
theorem rd_laws_toChangeS_4 {R : Type} (nx : (pa_laws_toChangeS 4).1.D → Kt R → Option R) (k : Kt R) (v0 : List (ByteArray × ByteArray × Bool × Unit)) (v4 : Int) (r0 : List (ByteArray × ByteArray × Bool × Unit)) : ev Try.prog ⟨ta_laws_toChangeS, 0, 23, pa_laws_toChangeS⟩ L_laws_toChangeS co_laws_toChangeS_4 ((pa_laws_toChangeS 4).1.st (v0, v4, r0, ())) (pa_laws_toChangeS 4).1.nid (roundK 0 (pa_laws_toChangeS 4) nx k) = tr_laws_toChangeS_4  (fun d => nx d k) (fun d => k (.exit 0) (((pa_laws_toChangeS 4).2 2).st d) (((pa_laws_toChangeS 4).2 2).nid)) v0 v4 r0 := by kernel_rfl
theorem lp_laws_toChangeS_4 {R : Type} : ∀ (m : Nat) (d : (pa_laws_toChangeS 4).1.D) (k : Kt R), loopN 0 (pa_laws_toChangeS 4) (fun s nid k => ev Try.prog ⟨ta_laws_toChangeS, 0, 23, pa_laws_toChangeS⟩ L_laws_toChangeS co_laws_toChangeS_4 s nid k) m d k = (lo_laws_toChangeS_4 m d.1 d.2.1 d.2.2.1).bind (ou_laws_toChangeS_4 k)
  | 0, _, _ => rfl
  | m + 1, ⟨v0, v4, r0, ⟨⟩⟩, k => (rd_laws_toChangeS_4 _ k v0 v4 r0).trans ((congrArg (fun F => tr_laws_toChangeS_4  F (fun d => k (.exit 0) (((pa_laws_toChangeS 4).2 2).st d) (((pa_laws_toChangeS 4).2 2).nid)) v0 v4 r0) (funext fun d => lp_laws_toChangeS_4 m d k)).trans (na_laws_toChangeS_4 (f := ou_laws_toChangeS_4 k)  (fun d => lo_laws_toChangeS_4 m d.1 d.2.1 d.2.2.1) (fun d => some (d)) v0 v4 r0))
theorem en_laws_toChangeS (a0 : List (ByteArray × ByteArray × Bool × Unit)) : evalF Try.prog ta_laws_toChangeS pa_laws_toChangeS sg_laws_toChangeS Try.f17 L_laws_toChangeS (a0, ()) = de_laws_toChangeS a0 := by kernel_rfl
theorem si_laws_toChangeS : SigsOk Try.prog ta_laws_toChangeS := fun f sd h => by
  unfold ta_laws_toChangeS at h
  split at h
  · rename_i e; subst e; cases h; exact sn_laws_toChange
  cases h
theorem lk_laws_toChangeS_4 {R : Type} : LoopOk Try.prog R 23 0 pa_laws_toChangeS L_laws_toChangeS co_laws_toChangeS_4 :=
  loop_key (cfg := ⟨ta_laws_toChangeS, 0, 23, pa_laws_toChangeS⟩) (key := 4) (by kernel_rfl) (by kernel_rfl) si_laws_toChangeS rfl rfl (fun d k r h => ⟨fu_laws_toChangeS_4 d.1 d.2.1 d.2.2.1, (lp_laws_toChangeS_4 _ d k).trans h⟩) (fun c hc => by rw [show loopsIn co_laws_toChangeS_4 = [] from by kernel_rfl] at hc; cases hc)
theorem sn_laws_toChangeS : Callable Try.prog 17 ∧ Sound Try.prog 17 sd_laws_toChangeS.sg sd_laws_toChangeS.den :=
  fn_loops (pat := pa_laws_toChangeS) L_laws_toChangeS (by kernel_rfl) si_laws_toChangeS Try.func17 (by kernel_rfl) (by kernel_rfl) (fun c hc => by rw [show loopsIn (bodyOf Try.f17) = [co_laws_toChangeS_4] from by kernel_rfl] at hc; simp only [List.mem_cons, List.not_mem_nil, or_false] at hc; rcases hc with rfl <;> first | exact lk_laws_toChangeS_4) fun x r h => by
    obtain ⟨a0, ⟨⟩⟩ := x; obtain ⟨y, h1, h2⟩ := Option.bind_eq_some_iff.1 (show (m_laws_toChangeS a0).bind (fun r => some ((r, ()), ())) = some r from h); cases h2; exact (en_laws_toChangeS a0).trans (eq_laws_toChangeS a0 _ h1)
theorem en_impl_in (a0 : Int) (a1 : Int) (a2 : Int) : evalF Try.prog ta_impl_in pa_impl_in sg_impl_in Try.f25 noL (a0, a1, a2, ()) = de_impl_in a0 a1 a2 := by kernel_rfl
theorem si_impl_in : SigsOk Try.prog ta_impl_in := fun f sd h => by
  unfold ta_impl_in at h
  cases h
theorem sn_impl_in : Callable Try.prog 25 ∧ Sound Try.prog 25 sd_impl_in.sg sd_impl_in.den :=
  fn_plain (pat := pa_impl_in) (by kernel_rfl) si_impl_in Try.func25 (by kernel_rfl) (by kernel_rfl) (by kernel_rfl) fun x r h => by
    obtain ⟨a0, a1, a2, ⟨⟩⟩ := x; rw [← h]; exact (en_impl_in a0 a1 a2).trans (eq_impl_in a0 a1 a2)
theorem en_impl_goodKey (a0 : ByteArray) : evalF Try.prog ta_impl_goodKey pa_impl_goodKey sg_impl_goodKey Try.f33 noL (a0, ()) = de_impl_goodKey a0 := by kernel_rfl
theorem si_impl_goodKey : SigsOk Try.prog ta_impl_goodKey := fun f sd h => by
  unfold ta_impl_goodKey at h
  split at h
  · rename_i e; subst e; cases h; exact sn_impl_in
  cases h
theorem sn_impl_goodKey : Callable Try.prog 33 ∧ Sound Try.prog 33 sd_impl_goodKey.sg sd_impl_goodKey.den :=
  fn_plain (pat := pa_impl_goodKey) (by kernel_rfl) si_impl_goodKey Try.func33 (by kernel_rfl) (by kernel_rfl) (by kernel_rfl) fun x r h => by
    obtain ⟨a0, ⟨⟩⟩ := x; rw [← h]; exact (en_impl_goodKey a0).trans (eq_impl_goodKey a0)
def ou_impl_ValidBatch_5 {R : Type} (k : Kt R) : ((Unit) ⊕ ((Bool) × Unit)) → Option R := (onSum (fun d => k (.exit 0) (((pa_impl_ValidBatch 5).2 2).st d) (((pa_impl_ValidBatch 5).2 2).nid)) (fun d => k .ret (((pa_impl_ValidBatch 5).2 1).st d) (((pa_impl_ValidBatch 5).2 1).nid)))
def L_impl_ValidBatch {R : Type} : Lt R pa_impl_ValidBatch := (addL (pat := pa_impl_ValidBatch) 5 (fun d k => (lo_impl_ValidBatch_5 (fu_impl_ValidBatch_5 d.1 d.2.1 d.2.2.1) d.1 d.2.1 d.2.2.1).bind (ou_impl_ValidBatch_5 k)) noL)
theorem rd_impl_ValidBatch_5 {R : Type} (nx : (pa_impl_ValidBatch 5).1.D → Kt R → Option R) (k : Kt R) (v9 : List (ByteArray × ByteArray × Bool × Unit)) (v10 : Int) (v11 : Int) : ev Try.prog ⟨ta_impl_ValidBatch, 0, 35, pa_impl_ValidBatch⟩ L_impl_ValidBatch co_impl_ValidBatch_5 ((pa_impl_ValidBatch 5).1.st (v9, v10, v11, ())) (pa_impl_ValidBatch 5).1.nid (roundK 0 (pa_impl_ValidBatch 5) nx k) = tr_impl_ValidBatch_5  (fun d => nx d k) (fun d => k (.exit 0) (((pa_impl_ValidBatch 5).2 2).st d) (((pa_impl_ValidBatch 5).2 2).nid)) (fun d => k .ret (((pa_impl_ValidBatch 5).2 1).st d) (((pa_impl_ValidBatch 5).2 1).nid)) v9 v10 v11 := by kernel_rfl
theorem lp_impl_ValidBatch_5 {R : Type} : ∀ (m : Nat) (d : (pa_impl_ValidBatch 5).1.D) (k : Kt R), loopN 0 (pa_impl_ValidBatch 5) (fun s nid k => ev Try.prog ⟨ta_impl_ValidBatch, 0, 35, pa_impl_ValidBatch⟩ L_impl_ValidBatch co_impl_ValidBatch_5 s nid k) m d k = (lo_impl_ValidBatch_5 m d.1 d.2.1 d.2.2.1).bind (ou_impl_ValidBatch_5 k)
  | 0, _, _ => rfl
  | m + 1, ⟨v9, v10, v11, ⟨⟩⟩, k => (rd_impl_ValidBatch_5 _ k v9 v10 v11).trans ((congrArg (fun F => tr_impl_ValidBatch_5  F (fun d => k (.exit 0) (((pa_impl_ValidBatch 5).2 2).st d) (((pa_impl_ValidBatch 5).2 2).nid)) (fun d => k .ret (((pa_impl_ValidBatch 5).2 1).st d) (((pa_impl_ValidBatch 5).2 1).nid)) v9 v10 v11) (funext fun d => lp_impl_ValidBatch_5 m d k)).trans (na_impl_ValidBatch_5 (f := ou_impl_ValidBatch_5 k)  (fun d => lo_impl_ValidBatch_5 m d.1 d.2.1 d.2.2.1) (fun d => some (.inl (d))) (fun d => some (.inr (d))) v9 v10 v11))
theorem en_impl_ValidBatch (a0 : List (ByteArray × ByteArray × Bool × Unit)) : evalF Try.prog ta_impl_ValidBatch pa_impl_ValidBatch sg_impl_ValidBatch Try.f18 L_impl_ValidBatch (a0, ()) = de_impl_ValidBatch a0 := by kernel_rfl
theorem si_impl_ValidBatch : SigsOk Try.prog ta_impl_ValidBatch := fun f sd h => by
  unfold ta_impl_ValidBatch at h
  split at h
  · rename_i e; subst e; cases h; exact sn_impl_in
  split at h
  · rename_i e; subst e; cases h; exact sn_impl_goodKey
  cases h
theorem lk_impl_ValidBatch_5 {R : Type} : LoopOk Try.prog R 35 0 pa_impl_ValidBatch L_impl_ValidBatch co_impl_ValidBatch_5 :=
  loop_key (cfg := ⟨ta_impl_ValidBatch, 0, 35, pa_impl_ValidBatch⟩) (key := 5) (by kernel_rfl) (by kernel_rfl) si_impl_ValidBatch rfl rfl (fun d k r h => ⟨fu_impl_ValidBatch_5 d.1 d.2.1 d.2.2.1, (lp_impl_ValidBatch_5 _ d k).trans h⟩) (fun c hc => by rw [show loopsIn co_impl_ValidBatch_5 = [] from by kernel_rfl] at hc; cases hc)
theorem sn_impl_ValidBatch : Callable Try.prog 18 ∧ Sound Try.prog 18 sd_impl_ValidBatch.sg sd_impl_ValidBatch.den :=
  fn_loops (pat := pa_impl_ValidBatch) L_impl_ValidBatch (by kernel_rfl) si_impl_ValidBatch Try.func18 (by kernel_rfl) (by kernel_rfl) (fun c hc => by rw [show loopsIn (bodyOf Try.f18) = [co_impl_ValidBatch_5] from by kernel_rfl] at hc; simp only [List.mem_cons, List.not_mem_nil, or_false] at hc; rcases hc with rfl <;> first | exact lk_impl_ValidBatch_5) fun x r h => by
    obtain ⟨a0, ⟨⟩⟩ := x; rw [← h]; exact (en_impl_ValidBatch a0).trans (eq_impl_ValidBatch a0)
theorem en_laws_eqChange (a0 : ByteArray × ByteArray × Bool × Unit) (a1 : ByteArray × ByteArray × Bool × Unit) : evalF Try.prog ta_laws_eqChange pa_laws_eqChange sg_laws_eqChange Try.f34 noL (a0, a1, ()) = de_laws_eqChange a0 a1 := by kernel_rfl
theorem si_laws_eqChange : SigsOk Try.prog ta_laws_eqChange := fun f sd h => by
  unfold ta_laws_eqChange at h
  cases h
theorem sn_laws_eqChange : Callable Try.prog 34 ∧ Sound Try.prog 34 sd_laws_eqChange.sg sd_laws_eqChange.den :=
  fn_plain (pat := pa_laws_eqChange) (by kernel_rfl) si_laws_eqChange Try.func34 (by kernel_rfl) (by kernel_rfl) (by kernel_rfl) fun x r h => by
    obtain ⟨a0, a1, ⟨⟩⟩ := x; rw [← h]; exact (en_laws_eqChange a0 a1).trans (eq_laws_eqChange a0 a1)
def ou_laws_eqChangeS_5 {R : Type} (k : Kt R) : ((Unit) ⊕ ((Bool) × Unit)) → Option R := (onSum (fun d => k (.exit 0) (((pa_laws_eqChangeS 5).2 2).st d) (((pa_laws_eqChangeS 5).2 2).nid)) (fun d => k .ret (((pa_laws_eqChangeS 5).2 1).st d) (((pa_laws_eqChangeS 5).2 1).nid)))
def L_laws_eqChangeS {R : Type} : Lt R pa_laws_eqChangeS := (addL (pat := pa_laws_eqChangeS) 5 (fun d k => (lo_laws_eqChangeS_5 (fu_laws_eqChangeS_5 d.1 d.2.1 d.2.2.1) d.1 d.2.1 d.2.2.1).bind (ou_laws_eqChangeS_5 k)) noL)
theorem rd_laws_eqChangeS_5 {R : Type} (nx : (pa_laws_eqChangeS 5).1.D → Kt R → Option R) (k : Kt R) (v0 : List (ByteArray × ByteArray × Bool × Unit)) (v1 : List (ByteArray × ByteArray × Bool × Unit)) (v5 : Int) : ev Try.prog ⟨ta_laws_eqChangeS, 0, 27, pa_laws_eqChangeS⟩ L_laws_eqChangeS co_laws_eqChangeS_5 ((pa_laws_eqChangeS 5).1.st (v0, v1, v5, ())) (pa_laws_eqChangeS 5).1.nid (roundK 0 (pa_laws_eqChangeS 5) nx k) = tr_laws_eqChangeS_5  (fun d => nx d k) (fun d => k (.exit 0) (((pa_laws_eqChangeS 5).2 2).st d) (((pa_laws_eqChangeS 5).2 2).nid)) (fun d => k .ret (((pa_laws_eqChangeS 5).2 1).st d) (((pa_laws_eqChangeS 5).2 1).nid)) v0 v1 v5 := by kernel_rfl
theorem lp_laws_eqChangeS_5 {R : Type} : ∀ (m : Nat) (d : (pa_laws_eqChangeS 5).1.D) (k : Kt R), loopN 0 (pa_laws_eqChangeS 5) (fun s nid k => ev Try.prog ⟨ta_laws_eqChangeS, 0, 27, pa_laws_eqChangeS⟩ L_laws_eqChangeS co_laws_eqChangeS_5 s nid k) m d k = (lo_laws_eqChangeS_5 m d.1 d.2.1 d.2.2.1).bind (ou_laws_eqChangeS_5 k)
  | 0, _, _ => rfl
  | m + 1, ⟨v0, v1, v5, ⟨⟩⟩, k => (rd_laws_eqChangeS_5 _ k v0 v1 v5).trans ((congrArg (fun F => tr_laws_eqChangeS_5  F (fun d => k (.exit 0) (((pa_laws_eqChangeS 5).2 2).st d) (((pa_laws_eqChangeS 5).2 2).nid)) (fun d => k .ret (((pa_laws_eqChangeS 5).2 1).st d) (((pa_laws_eqChangeS 5).2 1).nid)) v0 v1 v5) (funext fun d => lp_laws_eqChangeS_5 m d k)).trans (na_laws_eqChangeS_5 (f := ou_laws_eqChangeS_5 k)  (fun d => lo_laws_eqChangeS_5 m d.1 d.2.1 d.2.2.1) (fun d => some (.inl (d))) (fun d => some (.inr (d))) v0 v1 v5))
theorem en_laws_eqChangeS (a0 : List (ByteArray × ByteArray × Bool × Unit)) (a1 : List (ByteArray × ByteArray × Bool × Unit)) : evalF Try.prog ta_laws_eqChangeS pa_laws_eqChangeS sg_laws_eqChangeS Try.f19 L_laws_eqChangeS (a0, a1, ()) = de_laws_eqChangeS a0 a1 := by kernel_rfl
theorem si_laws_eqChangeS : SigsOk Try.prog ta_laws_eqChangeS := fun f sd h => by
  unfold ta_laws_eqChangeS at h
  split at h
  · rename_i e; subst e; cases h; exact sn_laws_eqChange
  cases h
theorem lk_laws_eqChangeS_5 {R : Type} : LoopOk Try.prog R 27 0 pa_laws_eqChangeS L_laws_eqChangeS co_laws_eqChangeS_5 :=
  loop_key (cfg := ⟨ta_laws_eqChangeS, 0, 27, pa_laws_eqChangeS⟩) (key := 5) (by kernel_rfl) (by kernel_rfl) si_laws_eqChangeS rfl rfl (fun d k r h => ⟨fu_laws_eqChangeS_5 d.1 d.2.1 d.2.2.1, (lp_laws_eqChangeS_5 _ d k).trans h⟩) (fun c hc => by rw [show loopsIn co_laws_eqChangeS_5 = [] from by kernel_rfl] at hc; cases hc)
theorem sn_laws_eqChangeS : Callable Try.prog 19 ∧ Sound Try.prog 19 sd_laws_eqChangeS.sg sd_laws_eqChangeS.den :=
  fn_loops (pat := pa_laws_eqChangeS) L_laws_eqChangeS (by kernel_rfl) si_laws_eqChangeS Try.func19 (by kernel_rfl) (by kernel_rfl) (fun c hc => by rw [show loopsIn (bodyOf Try.f19) = [co_laws_eqChangeS_5] from by kernel_rfl] at hc; simp only [List.mem_cons, List.not_mem_nil, or_false] at hc; rcases hc with rfl <;> first | exact lk_laws_eqChangeS_5) fun x r h => by
    obtain ⟨a0, a1, ⟨⟩⟩ := x; obtain ⟨y, h1, h2⟩ := Option.bind_eq_some_iff.1 (show (m_laws_eqChangeS a0 a1).bind (fun r => some ((r, ()), ())) = some r from h); cases h2; exact (en_laws_eqChangeS a0 a1).trans (eq_laws_eqChangeS a0 a1 _ h1)
theorem en_laws_FnExactValidBatch (a0 : List (ByteArray × ByteArray × Bool × Unit)) : evalF Try.prog ta_laws_FnExactValidBatch pa_laws_FnExactValidBatch sg_laws_FnExactValidBatch Try.f7 noL (a0, ()) = de_laws_FnExactValidBatch a0 := by kernel_rfl
theorem si_laws_FnExactValidBatch : SigsOk Try.prog ta_laws_FnExactValidBatch := fun f sd h => by
  unfold ta_laws_FnExactValidBatch at h
  split at h
  · rename_i e; subst e; cases h; exact sn_laws_szChangeS
  split at h
  · rename_i e; subst e; cases h; exact sn_spec_ValidBatch
  split at h
  · rename_i e; subst e; cases h; exact sn_laws_toChangeS
  split at h
  · rename_i e; subst e; cases h; exact sn_impl_ValidBatch
  split at h
  · rename_i e; subst e; cases h; exact sn_laws_eqChangeS
  cases h
theorem sn_laws_FnExactValidBatch : Callable Try.prog 7 ∧ Sound Try.prog 7 sd_laws_FnExactValidBatch.sg sd_laws_FnExactValidBatch.den :=
  fn_plain (pat := pa_laws_FnExactValidBatch) (by kernel_rfl) si_laws_FnExactValidBatch Try.func7 (by kernel_rfl) (by kernel_rfl) (by kernel_rfl) fun x r h => by
    obtain ⟨a0, ⟨⟩⟩ := x; obtain ⟨y, h1, h2⟩ := Option.bind_eq_some_iff.1 (show (m_laws_FnExactValidBatch a0).bind (fun r => some ((r, ()), ())) = some r from h); cases h2; exact (en_laws_FnExactValidBatch a0).trans (eq_laws_FnExactValidBatch a0 _ h1)
end Go.Proofs.Ytpbkiokcailkcaa.V
