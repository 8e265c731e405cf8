/- A builder's copyCheck and String, from the library's contracts. No condition. -/
import Derived.Test.YtkfoebbjncngjaaRRow
import Derived.Shelf.Strings.BuilderK
import Derived.Shelf.Strings.Repeat
namespace Go.Proofs.Ytkfoebbjncngjaa.R
open Go Go.RowKit Go.Proofs Go.Shelf
set_option linter.unusedVariables false
set_option linter.unusedSimpArgs false
variable {P : Program} {ρ : Ren}
def Pk (s : ByteArray) (c : Int) : Option ByteArray := if 0 ≤ c ∧ c ≤ 9223372036854775807 ∧ s.size * c.toNat ≤ 140737488355328 then some ⟨(Lib.repeatL s.data.toList c.toNat).toArray⟩ else none
theorem Below.keeps {w w' : World} (h : Below w.heap.size w w') : Em [] w w' := ⟨h.os, h.tape, h.output, h.size, fun k hk _ => h.block k hk⟩
theorem h9 {f : FuncId} {s : ByteArray → Int → Option ByteArray} (H : ∀ a c r, s a c = some r → ∀ w, Calls P f #[.string a, .int .i64 c] w fun e w' => e = .returned (.string r) ∧ Below w.heap.size w w') :
  J6 P f ⟨[.rd .str, .rd (.int .i64)], [none, none], [.rd .str], [none]⟩ (fun x => (s x.1 x.2.1).bind fun r => some ((r, ()), ())) := by
 rintro ⟨a, c, ⟨⟩⟩ r hr w S us args ⟨c1, c2, e1, h1, c3, c4, e2, h2, h3⟩ hsh hown
 obtain ⟨q, hq, hr⟩ := Option.bind_eq_some_iff.1 hr
 cases hr
 have h1' : c1 = [.string a] := h1
 have h2' : c3 = [.int .i64 c] := h2
 have h3' : c4 = [] := h3
 subst h1' h2' h3' e2 e1
 obtain ⟨u, us', cs', q1, q2, q3, u2, us2, cs2, q4, q5, q6, q7, q8⟩ := hsh
 subst q7 q8 q4 q1
 simp only [List.cons_append, List.nil_append, List.cons.injEq] at q2 q5
 obtain ⟨rfl, q2⟩ := q2
 rw [q5] at q2
 simp only [List.cons.injEq, and_true] at q2
 subst q2
 refine Calls.mono (H a c q hq w) fun e w' => ?_
 rintro ⟨rfl, hb⟩
 refine ⟨[.string q], [.string q], rfl, ⟨_, _, _, rfl, rfl, rfl, rfl, rfl⟩, Below.keeps hb, ⟨[.string q], [], rfl, rfl, rfl⟩, trivial, ?_, ?_⟩
 ·exact List.nodup_nil
 ·intro b hb
  cases hb
end Go.Proofs.Ytkfoebbjncngjaa.R

