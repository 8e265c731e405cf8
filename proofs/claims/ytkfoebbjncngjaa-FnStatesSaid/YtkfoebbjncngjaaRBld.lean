/- A builder's copyCheck and String, from the library's contracts. No condition. -/
import Derived.Test.YtkfoebbjncngjaaRRow
import Derived.Shelf.Strings.BuilderK
import Derived.Shelf.Strings.Repeat
namespace Go.Proofs.Ytkfoebbjncngjaa.R
open Go Go.RowKit Go.Proofs Go.Shelf
set_option linter.unusedVariables false
set_option linter.unusedSimpArgs false
variable {P : Program} {ρ : Ren}
theorem u4 {w : World} {b j : Nat} {cs : Array Value} {T : TypeId} (h : w.heap[b]? = some (.cells cs T (0, 0))) : w.frozen? ⟨b, j, none⟩ = false := Lib.frozen_of_heap h j
theorem Y8 {w : World} {b : Nat} {v0 v1 u : Value} {T : TypeId} (h : w.heap[b]? = some (.cells #[v0, v1] T (0, 0))) : (w.setCell ⟨b, 0, none⟩ u).heap[b]? = some (.cells #[u, v1] T (0, 0)) ∧ ∀ k, k ≠ b → (w.setCell ⟨b, 0, none⟩ u).heap[k]? = w.heap[k]? := by
 have hlt := (Array.getElem?_eq_some_iff.1 h).1
 have h2 := (Array.getElem?_eq_some_iff.1 h).2
 constructor
 ·simp [World.setCell, Array.getElem?_modify, h]
 ·intro k hk
  simp [World.setCell, Array.getElem?_modify, Ne.symm hk]
theorem Ahq (L : Lays.n240 P ρ) (X : Builder.X72 P ρ) : Age P (ρ.t 72) (ρ.f 240) := by
 intro w b v
 constructor
 ·intro h
  have c0 : w.cell? ⟨b, 0, none⟩ = some (.pointer none) := by rw [Lib.cell_of_heap h]; rfl
  refine (Any.Builder_copyCheck_fresh L X b w c0 (by simp [World.shape?, h]) (u4 h)).mono ?_
  rintro e w' ⟨rfl, rfl⟩
  obtain ⟨h1, h2⟩ := Y8 (u := .pointer (some ⟨b, 0, none⟩)) h
  refine ⟨rfl, ⟨rfl, rfl, rfl, by simp [World.setCell], fun k _ hk => h2 k (by simpa using hk)⟩, h1⟩
 ·intro h
  have c0 : w.cell? ⟨b, 0, none⟩ = some (.pointer (some ⟨b, 0, none⟩)) := by rw [Lib.cell_of_heap h]; rfl
  refine (Any.Builder_copyCheck_used L X b w c0).mono ?_
  rintro e w' ⟨rfl, rfl⟩
  exact ⟨rfl, Dy.refl _ _⟩
theorem K0 {l : List Nat} (w : World) : Dy l w w.drew := ⟨rfl, rfl, rfl, Nat.le_refl _, fun _ _ _ => rfl⟩
theorem Y9 {w w' : World} {g n : Nat} (h : Dy [g] w w') : Dy [g] w (w'.freeze ⟨g, 0, none⟩ n) := by
 by_cases hn : n = 0
 ·subst hn; exact h
 ·refine h.trans ⟨?_, ?_, ?_, ?_, fun k _ hk => ?_⟩
  ·simp [World.freeze, hn]
  ·simp [World.freeze, hn]
  ·simp [World.freeze, hn]
  ·simp [World.freeze, hn]
  ·have : g ≠ k := fun e => hk (by simp [e])
   simp [World.freeze, hn, Array.getElem?_modify, this]
theorem f9 {l : List Nat} {w w' : World} (h : Dy l w w') (o : Obj) : Dy l w (w'.alloc o) := by
 refine h.trans ⟨rfl, rfl, rfl, Nat.le_of_lt (by show w'.heap.size < (w'.heap.push o).size; simp), fun k hk _ => Lib.alloc_old w' o k hk⟩
set_option maxHeartbeats 2000000 in
set_option maxRecDepth 100000 in
theorem Ahr (L : Lays.n169 P ρ) (X : Builder.Extra P ρ) : Agf P (ρ.t 72) (ρ.t 5) (ρ.f 169) := by
 intro w b p v xs cs hby hbk hown hrep hne
 have hcm0 : ∀ (j : Nat) (x : Int), xs[j]? = some x → cs[j]? = some (.int .u8 x) := by
  intro j x hx
  have := hrep.2 j x hx
  have h1 : (cs.drop (j * 1)).take 1 = [Value.int .u8 x] := this
  rw [Nat.mul_one] at h1
  have h2 : (cs.drop j)[0]? = some (.int .u8 x) := by
   have := congrArg (fun l => l[0]?) h1
   simpa using this
  simpa using h2
 have mixed := L.mixed
 have t72 := L.t72; have a72 := L.a72; have z72 := L.z72; have v72 := L.v72; have u72 := run_underlying L.t72
 have t70 := L.t70; have a70 := L.a70; have z70 := L.z70; have v70 := L.v70; have u70 := run_underlying L.t70
 have t37 := L.t37; have a37 := L.a37; have z37 := L.z37; have v37 := L.v37; have u37 := run_underlying L.t37
 have t127 := L.t127; have a127 := L.a127; have z127 := L.z127; have v127 := L.v127; have u127 := run_underlying L.t127
 have t3 := L.t3; have a3 := L.a3; have z3 := L.z3; have v3 := L.v3; have u3 := run_underlying L.t3
 have t9 := L.t9; have a9 := L.a9; have z9 := L.z9; have v9 := L.v9; have u9 := run_underlying L.t9
 have t5 := X.t5; have a5 := X.a5; have z5 := X.z5; have v5 := X.v5; have u5 := run_underlying X.t5
 have hUS := Any.unsafeString_none L X
 rcases hown.2 with ⟨rfl, hz⟩ | ⟨g, cap, cur, rfl, _, hg, hnc, hcm, hcs, htake⟩
 ·have hx0 : xs = [] := List.eq_nil_of_length_eq_zero hz
  subst hx0
  have c1 : w.drew.cell? ⟨b, 1, none⟩ = some (.slice none 0 0) := by
   have : w.drew.heap[b]? = some (.cells #[p, .slice none 0 0] (ρ.t 72) (0, 0)) := hbk
   rw [Lib.cell_of_heap this]; rfl
  have hSD : (Builtin.unsafeSliceData_ #[(ρ.t 37)] (ρ.t 127) #[.slice none 0 0]).run P w.drew = .ok (.pointer none) w.drew := rfl
  go_enter L.f169, Body.n169_ntmps ρ
  go_wp2
  go_region_o
  all_goals (go_wp2; go_ret; exact ⟨rfl, K0 w⟩)
 ·by_cases h0 : xs = []
  ·subst h0
   by_cases hc0 : cap = 0
   ·subst hc0
    have hlt : b < w.heap.size := (Array.getElem?_eq_some_iff.1 hbk).1
    have c1 : w.drew.cell? ⟨b, 1, none⟩ = some (.slice (some ⟨g, 0, none⟩) 0 0) := by
     have : w.drew.heap[b]? = some (.cells #[p, .slice (some ⟨g, 0, none⟩) 0 0] (ρ.t 72) (0, 0)) := hbk
     rw [Lib.cell_of_heap this]; rfl
    have hSD : (Builtin.unsafeSliceData_ #[(ρ.t 37)] (ρ.t 127) #[.slice (some ⟨g, 0, none⟩) 0 0]).run P w.drew = .ok (.pointer (some ⟨w.drew.heap.size, 0, none⟩)) (w.drew.alloc (.view ⟨g, 0, none⟩ (ρ.t 5))) :=
     Lib.run_unsafeSliceData_zero w.drew _ _ (ρ.t 5) L.t127 ⟨g, 0, none⟩ 0 ((ρ.t 5), cur.size) (by have hg' : w.drew.heap[g]? = some (.cells cur (ρ.t 5) (0, 0)) := hg; simp [World.shape?, hg'])
    have c2 : (w.drew.alloc (.view ⟨g, 0, none⟩ (ρ.t 5))).cell? ⟨b, 1, none⟩ = some (.slice (some ⟨g, 0, none⟩) 0 0) := by
     have : (w.drew.alloc (.view ⟨g, 0, none⟩ (ρ.t 5))).heap[b]? = _ := (Lib.alloc_old w.drew _ b hlt).trans hbk
     rw [Lib.cell_of_heap this]; rfl
    have c3 : (w.alloc (.view ⟨g, 0, none⟩ (ρ.t 5))).drew.cell? ⟨b, 1, none⟩ = some (.slice (some ⟨g, 0, none⟩) 0 0) := c2
    have c0 : w.cell? ⟨b, 1, none⟩ = some (.slice (some ⟨g, 0, none⟩) 0 0) := c1
    go_enter L.f169, Body.n169_ntmps ρ
    go_wp2
    go_region_o
    all_goals (go_wp2; go_ret; exact ⟨rfl, f9 (K0 w) _⟩)
   ·have c1 : w.drew.cell? ⟨b, 1, none⟩ = some (.slice (some ⟨g, 0, none⟩) 0 cap) := by
     have : w.drew.heap[b]? = some (.cells #[p, .slice (some ⟨g, 0, none⟩) 0 cap] (ρ.t 72) (0, 0)) := hbk
     rw [Lib.cell_of_heap this]; rfl
    have hSD : (Builtin.unsafeSliceData_ #[(ρ.t 37)] (ρ.t 127) #[.slice (some ⟨g, 0, none⟩) 0 cap]).run P w.drew = .ok (.pointer (some ⟨g, 0, none⟩)) w.drew :=
     Lib.run_unsafeSliceData_row _ _ _ _ _ _ hc0
    clear hc0
    go_enter L.f169, Body.n169_ntmps ρ
    go_wp2
    go_region_o
    all_goals (go_wp2; go_ret; exact ⟨rfl, K0 w⟩)
  ·generalize hl : (xs.map fun n => UInt8.ofNat n.toNat) = l
   have hlen : l.length = xs.length := by rw [← hl]; simp
   have hl0 : l ≠ [] := by rw [← hl]; simpa using h0
   have hlp : 0 < l.length := List.length_pos_iff.2 hl0
   have hstr : strOfNums xs = ⟨l.toArray⟩ := by unfold strOfNums; rw [hl]
   rw [hstr]
   rw [← hlen] at hown hnc htake hbk
   rw [← hlen]
   have c1 : w.drew.cell? ⟨b, 1, none⟩ = some (.slice (some ⟨g, 0, none⟩) l.length cap) := by
    have : w.drew.heap[b]? = some (.cells #[p, .slice (some ⟨g, 0, none⟩) l.length cap] (ρ.t 72) (0, 0)) := hbk
    rw [Lib.cell_of_heap this]; rfl
   have hSD : (Builtin.unsafeSliceData_ #[(ρ.t 37)] (ρ.t 127) #[.slice (some ⟨g, 0, none⟩) l.length cap]).run P w.drew = .ok (.pointer (some ⟨g, 0, none⟩)) w.drew :=
    Lib.run_unsafeSliceData_row _ _ _ _ _ _ (by omega)
   have hUS : (Builtin.unsafeString_ #[(ρ.t 127), (ρ.t 3)] (ρ.t 9) #[.pointer (some ⟨g, 0, none⟩), .int .i64 l.length]).run P w.drew = .ok (.string ⟨l.toArray⟩) (w.drew.freeze ⟨g, 0, none⟩ l.length) := by
    refine Lib.run_unsafeString_row w.drew (ρ.t 127) (ρ.t 3) (ρ.t 9) (ρ.t 5) L.t127 X.cellsByte g cur.size (by have hg' : w.drew.heap[g]? = some (.cells cur (ρ.t 5) (0, 0)) := hg; simp [World.shape?, hg']) l hl0 (by omega) (by unfold maxLen at hcm; omega) ?_
    intro j x hx
    rw [← hl, List.getElem?_map] at hx
    obtain ⟨n, hn, rfl⟩ := Option.map_eq_some_iff.1 hx
    have hb := List.all_eq_true.1 hby n (List.mem_of_getElem? hn)
    simp only [Bool.and_eq_true, decide_eq_true_eq] at hb
    have hc := hcm0 j n hn
    have hj : j < l.length := by rw [hlen]; exact (List.getElem?_eq_some_iff.1 hn).1
    rw [← htake, List.getElem?_take, if_pos (by omega)] at hc
    have hg' : w.drew.heap[g]? = some (.cells cur (ρ.t 5) (0, 0)) := hg
    rw [Ti, Lib.cell_of_heap hg']
    have hn2 : ((UInt8.ofNat n.toNat).toNat : Int) = n := by
     simp
     omega
    rw [hn2]
    simpa using hc
   rw [hlen] at hSD hUS c1 hbk
   clear hlen hl htake
   go_enter L.f169, Body.n169_ntmps ρ
   go_wp2
   go_region_o
   all_goals (go_wp2; go_ret; exact ⟨rfl, Y9 (K0 w)⟩)
end Go.Proofs.Ytkfoebbjncngjaa.R

