/- sort.Slice told to sort pairs by their keys, from the library's contract. No condition. -/
import Derived.Test.YtkfoebbjncngjaaQA
import Derived.Shelf.SlSortFuncK.WholeK
import Derived.Shelf.GgSortFunc.Tiny
namespace Go.Proofs.Ytkfoebbjncngjaa.V
open Go Go.RowKit Go.Shelf Go.Lib Go.Sort Go.Proofs.Ytkfoebbjncngjaa.R
set_option linter.unusedVariables false
set_option linter.unusedSimpArgs false
def encP (x : Pr2) : List Value := [.string x.1, .string x.2.1]
theorem Ahe {w : World} {S : Nat → Prop} {x : Pr2} {l : List Value} : o9.K w S x l ↔ l = encP x := by
 constructor
 ·rintro ⟨c1, c2, rfl, h1, c3, c4, rfl, h2, h3⟩
  have h1 : c1 = [.string x.1] := h1
  have h2 : c3 = [.string x.2.1] := h2
  have h3 : c4 = [] := h3
  subst h1 h2 h3
  rfl
 ·rintro rfl
  exact ⟨[.string x.1], [.string x.2.1], rfl, rfl, [.string x.2.1], [], rfl, rfl, rfl⟩
theorem Aba {w : World} {S : Nat → Prop} : ∀ {xs : List Pr2} {cs : List Value}, cs.length = xs.length * 2 → (∀ (i : Nat) (x : Pr2), xs[i]? = some x → o9.K w S x ((cs.drop (i * 2)).take 2)) → cs = xs.flatMap encP
 | [], cs, h, _ => List.length_eq_zero_iff.1 (by simpa using h)
 | x :: xs, [], h1, _ => by simp at h1
 | x :: xs, [_], h1, _ => by simp at h1; omega
 | x :: xs, u :: v :: cs, h1, h2 => by
  have h0 := Ahe.1 (h2 0 x rfl)
  have h0 : [u, v] = encP x := by simpa using h0
  have ih := Aba (w := w) (S := S) (xs := xs) (cs := cs) (by simp at h1; omega) (fun i y hy => by
   have := h2 (i + 1) y hy
   rw [show (i + 1) * 2 = i * 2 + 2 by omega] at this
   simpa using this)
  show u :: v :: cs = encP x ++ xs.flatMap encP
  rw [← h0, ← ih]
  rfl
theorem Aeb {w : World} {S : Nat → Prop} {xs : List Pr2} {cs : List Value} (h : C7 w S o9 xs cs) : cs = xs.flatMap encP := Aba (w := w) (S := S) h.1 h.2
theorem Td : ∀ xs : List Pr2, (xs.flatMap encP).length = xs.length * 2
 | [] => rfl
 | x :: xs => by
  show (encP x ++ xs.flatMap encP).length = _
  rw [List.length_append, Td xs, List.length_cons]
  show 2 + xs.length * 2 = _
  omega
theorem x3 : ∀ {xs : List Pr2} {i : Nat} {x : Pr2}, xs[i]? = some x → ((xs.flatMap encP).drop (i * 2)).take 2 = encP x
 | [], i, x, h => by simp at h
 | y :: xs, 0, x, h => by
  simp at h
  subst h
  rfl
 | y :: xs, i + 1, x, h => by
  simp only [List.getElem?_cons_succ] at h
  have ih := x3 h
  rw [show (i + 1) * 2 = i * 2 + 2 by omega]
  exact ih
theorem k7 {w : World} {S : Nat → Prop} {xs : List Pr2} : C7 w S o9 xs (xs.flatMap encP) := ⟨Td xs, fun i x hx => by
 have : ((xs.flatMap encP).drop (i * 2)).take 2 = encP x := x3 hx
 exact Ahe.2 this⟩
instance : Inhabited Pr2 := ⟨zP⟩
theorem Afn : SWO ltK where
 irrefl x := Ht x.1
 trans x y z h k := Jy (a := x.1) (b := y.1) (c := z.1) h k
 ntrans x y z h k := by
  cases q : ltK x z with
  | false => rfl
  | true =>
   have h : bl x.1 y.1 = false := h
   have k : bl y.1 z.1 = false := k
   have q : bl x.1 z.1 = true := q
   cases hy : bl y.1 x.1 with
   | true => rw [Jy hy q] at k; cases k
   | false => rw [Ze h hy] at q; rw [q] at k; cases k
theorem Xs (d : Array Pr2) : (flatK encP 2 d).toList = d.toList.flatMap encP := by
 apply List.ext_getElem?
 intro t
 by_cases ht : t < d.size * 2
 ·have h1 : (flatK encP 2 d)[t]! = (encP d[t / 2]!)[t % 2]! := get_flatK _ _ _ t ht
  have hi : t / 2 < d.size := by omega
  have hx : d.toList[t / 2]? = some d[t / 2]! := by simp [hi]
  have h2 := x3 hx
  have h3 : (d.toList.flatMap encP)[t]? = (encP d[t / 2]!)[t % 2]? := by
   rw [← h2, List.getElem?_take, if_pos (by omega), List.getElem?_drop, show t / 2 * 2 + t % 2 = t by omega]
  rw [h3, Array.getElem?_toList]
  have hs : t < (flatK encP 2 d).size := by rw [size_flatK]; exact ht
  rw [getElem!_pos _ t hs] at h1
  rw [Array.getElem?_eq_getElem hs, h1]
  have : t % 2 < (encP d[t / 2]!).length := by show t % 2 < 2; omega
  rw [List.getElem?_eq_getElem this, getElem!_pos (encP d[t / 2]!) (t % 2) this]
 ·have a1 : (flatK encP 2 d).toList[t]? = none := List.getElem?_eq_none (by rw [Array.length_toList, size_flatK]; omega)
  have a2 : (d.toList.flatMap encP)[t]? = none := List.getElem?_eq_none (by rw [Td, Array.length_toList]; omega)
  rw [a1, a2]
theorem Aec (cur : Array Value) (F : Array Value) (h : F.size ≤ cur.size) : (putCells id 0 F cur).toList.take F.size = F.toList := by
 apply List.ext_getElem?
 intro t
 rw [List.getElem?_take]
 split
 ·rename_i ht
  rw [Array.getElem?_toList, Array.getElem?_toList]
  simp [putCells, ht, show t < cur.size by omega]
 ·rename_i ht
  rw [List.getElem?_eq_none (by rw [Array.length_toList]; omega)]
theorem k8 {d' : Array Pr2} (h : SortedIn ltK 0 d'.size d') (hn : Bs d'.toList = true) : Ta d'.toList := by
 refine List.pairwise_iff_getElem.2 fun i j hi hj hij => ?_
 have hi' : i < d'.size := by simpa using hi
 have hj' : j < d'.size := by simpa using hj
 have h1 : bl d'[j]!.1 d'[i]!.1 = false := h i j (Nat.zero_le _) hij hj'
 have e1 : d'.toList[i] = d'[i]! := by simp [hi']
 have e2 : d'.toList[j] = d'[j]! := by simp [hj']
 rw [e1, e2]
 cases q : bl d'[i]!.1 d'[j]!.1 with
 | true => rfl
 | false =>
  have hk : d'[i]!.1 = d'[j]!.1 := Ze q h1
  have hnd := K3.1 hn
  have := (List.pairwise_iff_getElem.1 hnd) i j (by simpa using hi') (by simpa using hj') hij
  simp only [List.getElem_map] at this
  rw [e1, e2] at this
  exact absurd hk this
def Aed (P : Program) (fc : FuncId) : Prop := ∀ (blk off c bs size : Nat) (W : World) (G : Nat → ByteArray), W.cell? ⟨bs, 0, none⟩ = some (.slice (some ⟨blk, off, none⟩) size c) →
 (∀ t, t < size → W.cell? ⟨blk, off + t * 2, none⟩ = some (.string (G t))) → ∀ i j : Nat, i < size → j < size → size < 4611686018427387904 →
  Calls P fc #[.int .i64 i, .int .i64 j, .pointer (some ⟨bs, 0, none⟩)] W fun e w' => e = .returned (.bool (Op.bytesLess (G i).toList (G j).toList)) ∧ ∃ q, w' = W.drewN q
theorem Aee {d d' : Array Pr2} (h : PermIn 0 d.size d d') : d'.toList.Perm d.toList := by
 obtain ⟨h1, _, h3⟩ := h
 rw [Array.extract_size] at h3
 rw [← h1, Array.extract_size] at h3
 exact h3
theorem x4 {P : Program} {ρ : Ren} (L : LaysGg.n6 P ρ) {fc : FuncId} {BT U e : TypeId} {i ie : TypeInfo} (hi : P.info? U = some i) (hd : i.desc = .slice e) (hpk : P.packed U = false) (hie : P.info? e = some ie) (ke : Nat) (hke : ∀ w, (Extern.Rtype.kind e).run P w = .ok ke w)
  (hs1 : ie.size = 2) (hagg : ∀ w, (isAgg e).run P w = .ok true w) (eg : ∀ args w, (callFunc fc args).run P w = .ok (.enter fc args) w) (f f0 f1 : Nat)
  (hf : ∀ n, 2 ≤ n → P.funcs.findIdx? (·.name == "internal/reflectlite" ++ ".Swapper$" ++ toString (swapperK n ie ke)) = some f)
  (hf0 : P.funcs.findIdx? (·.name == "internal/reflectlite" ++ ".Swapper$" ++ toString (swapperK 0 ie ke)) = some f0)
  (hf1 : P.funcs.findIdx? (·.name == "internal/reflectlite" ++ ".Swapper$" ++ toString (swapperK 1 ie ke)) = some f1)
  (gS : Bool) (hx : ∀ args W, (callFunc f args).run P W = ((Extern.ReflectliteSwapper.swap gS args).run P W).andThen fun v w' => .ok (.value v) w') (hclo : Aed P fc) : Yv P (ρ.f 6) fc BT U e := by
 intro w b v xs cs hnd hlen hb hbox ho hrep hne
 have hcs := Aeb hrep
 subst hcs
 have grow_keep : ∀ (w1 : World) (os : Array Obj) (k : Nat), k < w1.heap.size → (grow w1 os).heap[k]? = w1.heap[k]? := fun w1 os k hk => by simp [grow, Array.getElem?_append, hk]
 have tiny : ∀ (p : Option Addr) (c f' : Nat), v = .slice p xs.length c → xs.length ≤ 1 → P.funcs.findIdx? (·.name == "internal/reflectlite" ++ ".Swapper$" ++ toString (swapperK xs.length ie ke)) = some f' →
   Calls P (ρ.f 6) #[.iface U v, .func (.func fc) #[] #[.pointer (some ⟨b, 0, none⟩)]] w fun en w' => en = .returned (.tuple #[]) ∧ Dy v.ownBlock.toList w w' ∧ ∃ cs', w'.ownsRow 0 e 2 v xs.length cs' ∧ ∀ S, C7 w' S o9 (Fy xs) cs' := by
  intro p c f' hv h1 hf'
  subst hv
  refine (Any.sort_Slice_tiny L U e i ie hi hd hpk hie ke hke p xs.length c h1 f' hf' (.func fc) #[] #[.pointer (some ⟨b, 0, none⟩)] w).mono ?_
  rintro en w' ⟨rfl, os, rfl⟩
  refine ⟨rfl, ⟨rfl, rfl, rfl, by simp [grow], fun k hk _ => grow_keep w os k hk⟩, xs.flatMap encP, ?_, ?_⟩
  ·obtain ⟨h2, h3⟩ := ho
   refine ⟨h2, ?_⟩
   rcases h3 with h3 | ⟨g, cap, cur, q1, q2, q3, q4⟩
   ·exact .inl h3
   ·refine .inr ⟨g, cap, cur, q1, q2, ?_, q4⟩
    rw [grow_keep w os g (Array.getElem?_eq_some_iff.1 q3).1]
    exact q3
  ·intro S
   have : Fy xs = xs := by
    match xs, h1 with
    | [], _ => rfl
    | [x], _ => rfl
   rw [this]
   exact k7
 by_cases h2 : 2 ≤ xs.length
 ·obtain ⟨hl, hv⟩ := ho
  rcases hv with ⟨_, hv⟩ | ⟨g, cap, cur, hv, _, hg, hcap, hmax, hsz, htake⟩
  ·omega
  subst hv
  have hbg : b ≠ g := fun q => hne (by rw [q]; rfl)
  have hgl : g < w.heap.size := (Array.getElem?_eq_some_iff.1 hg).1
  let d : Array Pr2 := xs.toArray
  have hds : d.size = xs.length := by simp [d]
  have hfl : (flatK encP 2 d).toList = xs.flatMap encP := by rw [Xs]
  have hfs : (flatK encP 2 d).size = xs.length * 2 := by rw [size_flatK, hds]
  have hcur : xs.length * 2 ≤ cur.size := by rw [hsz]; exact Nat.mul_le_mul_right 2 hcap
  have hH : HoldsK encP 2 w g 0 d := by
   intro j hj
   rw [hfs] at hj
   have e1 : (flatK encP 2 d).toList[j]? = cur.toList[j]? := by rw [hfl, ← htake, List.getElem?_take, if_pos hj]
   rw [Array.getElem?_toList, Array.getElem?_toList] at e1
   refine ⟨?_, ?_⟩
   ·unfold World.cell?
    simp only [hg, Nat.zero_add]
    rw [if_neg (by simp), ← e1, Array.getElem?_eq_getElem (by rw [hfs]; exact hj)]
    rw [getElem!_pos _ j (by rw [hfs]; exact hj)]
    rfl
   ·unfold World.frozen?
    simp [hg]
  have hBs : w.cell? ⟨b, 0, none⟩ = some (.slice (some ⟨g, 0, none⟩) d.size cap) := by
   unfold World.cell?
   simp only [hbox]
   rw [hds]
   rfl
  have hless : LessReadsK P fc #[.pointer (some ⟨b, 0, none⟩)] encP 2 ltK g 0 d.size w := by
   intro m os dk hs i j hi hj
   have e : sortWorldK encP 2 w g 0 m dk os = putRowK encP 2 (grow (Sort.ahead w m) os) g 0 dk := by
    unfold sortWorldK; rw [putRowK_grow _ _ (Sort.ahead w m) _ g 0 _ hgl]
   have hHg : HoldsK encP 2 (grow (Sort.ahead w m) os) g 0 d := holdsK_grow _ _ _ _ g 0 d hgl (holdsK_ahead _ _ _ _ _ _ _ hH)
   refine hclo g 0 cap b d.size _ (fun t => dk[t]!.1) ?_ (fun t ht => ?_) i j hi hj (by omega)
   ·rw [e, cell?_putRowK_other _ _ _ g 0 dk _ (by exact hbg), cell?_grow _ _ _ (by exact hb)]; exact hBs
   ·rw [e]; exact ((holdsK_putRowK _ _ _ g 0 d dk hHg hs).cell (i := t) (c := 0) (by omega) (by omega)).1
  rw [← hds]
  refine (Any.sort_Slice_cells_sorted L U e i ie hi hd hpk hie ke hke encP 2 (fun _ => rfl) hs1 hagg (fun x v hv => by simp [encP] at hv; rcases hv with rfl | rfl <;> rfl) ltK Afn fc #[.pointer (some ⟨b, 0, none⟩)] eg g 0 cap d (by omega) (by omega) f (hf _ (by omega)) gS hx w hless hH hgl).mono ?_
  rintro en w' ⟨rfl, d', n, os, hp, hsd, rfl⟩
  have hd's : d'.size = d.size := hp.1
  have hperm := Aee hp
  have hnd' : Bs d'.toList = true := Mf hperm.symm (by simpa [d] using hnd)
  have hsrt : d'.toList = Fy xs := Tc (k8 (by rw [hd's]; exact hsd) hnd') (Q4 hnd) fun x => by
   rw [Nb, hperm.mem_iff]
  have hfs' : (flatK encP 2 d').size = xs.length * 2 := by rw [size_flatK, hd's, hds]
  have hblk : (putRowK encP 2 (Sort.ahead w n) g 0 d').heap[g]? = some (.cells (putCells id 0 (flatK encP 2 d') cur) e (0, 0)) := by
   unfold putRowK putRow mapBlock
   show (w.heap.modify g _)[g]? = _
   rw [Array.getElem?_modify, if_pos rfl, hg]
   rfl
  have hoth : ∀ k, k ≠ g → (putRowK encP 2 (Sort.ahead w n) g 0 d').heap[k]? = w.heap[k]? := fun k hk => by
   unfold putRowK putRow mapBlock
   show (w.heap.modify g _)[k]? = _
   rw [Array.getElem?_modify, if_neg (fun q => hk q.symm)]
  have hsize : (putRowK encP 2 (Sort.ahead w n) g 0 d').heap.size = w.heap.size := by rw [size_putRowK]; rfl
  refine ⟨rfl, ⟨rfl, rfl, rfl, by rw [show (grow (putRowK encP 2 (Sort.ahead w n) g 0 d') os).heap = (putRowK encP 2 (Sort.ahead w n) g 0 d').heap ++ os from rfl, Array.size_append, hsize]; omega, fun k hk hn => ?_⟩, (Fy xs).flatMap encP, ⟨?_, .inr ⟨g, cap, putCells id 0 (flatK encP 2 d') cur, by rw [hds], Nat.zero_le _, ?_, by rw [hds]; exact hcap, hmax, by simp [putCells, hsz], ?_⟩⟩, fun S => k7⟩
  ·rw [grow_keep _ os k (by rw [hsize]; exact hk)]
   exact hoth k (fun q => hn (by rw [q]; simp [Value.ownBlock]))
  ·rw [Td, Jv, hds]
  ·rw [grow_keep _ os g (by rw [hsize]; exact hgl)]
   exact hblk
  ·rw [hds, ← hsrt, ← Xs, ← hfs']
   exact Aec cur (flatK encP 2 d') (by rw [hfs']; exact hcur)
 ·obtain ⟨hl, hv⟩ := ho
  have h1 : xs.length = 0 ∨ xs.length = 1 := by omega
  have ho' : w.ownsRow 0 e 2 v xs.length (xs.flatMap encP) := ⟨hl, hv⟩
  have hf' : ∃ f', P.funcs.findIdx? (·.name == "internal/reflectlite" ++ ".Swapper$" ++ toString (swapperK xs.length ie ke)) = some f' := by
   rcases h1 with h1 | h1 <;> rw [h1]
   ·exact ⟨f0, hf0⟩
   ·exact ⟨f1, hf1⟩
  obtain ⟨f', hf'⟩ := hf'
  rcases hv with ⟨hv, h0⟩ | ⟨g, cap, cur, hv, _⟩
  ·exact tiny none 0 f' (by rw [hv, h0]) (by omega) hf'
  ·exact tiny (some ⟨g, 0, none⟩) cap f' hv (by omega) hf'
end Go.Proofs.Ytkfoebbjncngjaa.V

