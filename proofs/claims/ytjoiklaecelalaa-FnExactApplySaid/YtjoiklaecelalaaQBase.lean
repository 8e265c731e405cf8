/- Plain facts. No condition. -/
import Derived.Test.YtjoiklaecelalaaMBase
namespace Go.Proofs.Ytjoiklaecelalaa.V
open Go Go.Proofs.Ytjoiklaecelalaa.R
set_option linter.unusedVariables false
set_option linter.unusedSimpArgs false
theorem wrap_ok {n : Int} (h0 : -9223372036854775808 ≤ n) (h1 : n < 9223372036854775808) : IntKind.i64.wrap n = n := by
  have e : IntKind.i64.wrap n = if n % 18446744073709551616 ≥ 9223372036854775808 then n % 18446744073709551616 - 18446744073709551616 else n % 18446744073709551616 := by
    simp [IntKind.wrap, IntKind.bits, IntKind.signed]
  rw [e]
  split <;> omega
theorem getD_drop {α : Type} (xs : List α) (i : Nat) (z : α) (h : i < xs.length) : xs.drop i = xs.getD i z :: xs.drop (i + 1) := by
  rw [List.drop_eq_getElem_cons h]
  simp [List.getD, List.getElem?_eq_getElem h]
theorem getD_mem {α : Type} {xs : List α} {i : Nat} (z : α) (h : i < xs.length) : xs.getD i z ∈ xs := by
  simp [List.getD, List.getElem?_eq_getElem h]
theorem cLt {i n : Nat} (h : i < n) : decide ((i : Int) < nI n) = true := by simp [nI]; omega
theorem cLtF {n : Nat} : decide ((n : Int) < nI n) = false := by simp [nI]
theorem cLe0 {i : Nat} : decide ((0 : Int) ≤ (i : Int)) = true := by simp
theorem cLtN {i n : Nat} (h : i < n) : decide (i < n) = true := by simp [h]
theorem wI {i : Nat} (h : i < 4611686018427387904) : IntKind.i64.wrap ((i : Int) + 1) = ((i + 1 : Nat) : Int) := by rw [wrap_ok (by omega) (by omega)]; rfl
/-- What is left behind each element; less than nothing ends it. -/
theorem sz_loop {α E : Type} {xs : List α} (z : α) (w : α → Nat) {g : Nat → Int → Int → Option E} {ok : Int → E} {bad : E}
    (hs : ∀ m (i : Nat) l, i < xs.length → 0 ≤ l → l ≤ 1048576 → g (m + 1) l i = bif decide (l - (w (xs.getD i z) : Int) < 0) then some bad else g m (l - w (xs.getD i z)) ((i + 1 : Nat) : Int))
    (he : ∀ m l, g (m + 1) l (xs.length : Int) = some (ok l)) :
    ∀ (m i : Nat) (l : Int), i ≤ xs.length → xs.length - i < m → 0 ≤ l → l ≤ 1048576 → g m l i = some (if l - (((xs.drop i).map w).sum : Int) < 0 then bad else ok (l - ((xs.drop i).map w).sum))
  | 0, i, l, hi, hm, _, _ => by omega
  | m + 1, i, l, hi, hm, h0, h1 => by
    by_cases h : i < xs.length
    · rw [hs m i l h h0 h1, getD_drop xs i z h, List.map_cons, List.sum_cons, Int.natCast_add (w (xs.getD i z))]
      by_cases q : l - (w (xs.getD i z) : Int) < 0
      · have q2 : l - ((w (xs.getD i z) : Int) + (((xs.drop (i + 1)).map w).sum : Int)) < 0 := by omega
        rw [decide_eq_true q, cond_true, if_pos q2]
      · rw [decide_eq_false q, cond_false, sz_loop z w hs he m (i + 1) _ (by omega) (by omega) (by omega) (by omega)]
        simp only [Int.sub_sub]
    · have : i = xs.length := by omega
      subst this
      rw [he]
      simp only [List.drop_length, List.map_nil, List.sum_nil]
      have : ¬ (l - ((0 : Nat) : Int) < 0) := by simp; omega
      rw [if_neg this]
      simp
/-- A row that is filled, place by place. -/
theorem to_loop {α E : Type} {xs : List α} (z : α) {g : Nat → Int → List α → Option E} {ok : List α → E}
    (hs : ∀ m (i : Nat) (r : List α), i < xs.length → r.length = xs.length → g (m + 1) i r = g m ((i + 1 : Nat) : Int) (r.set i (xs.getD i z)))
    (he : ∀ m r, g (m + 1) (xs.length : Int) r = some (ok r)) :
    ∀ (m i : Nat) (r : List α), i ≤ xs.length → xs.length - i < m → r.length = xs.length → g m i r = some (ok (r.take i ++ xs.drop i))
  | 0, i, l, hi, hm, _ => by omega
  | m + 1, i, r, hi, hm, hr => by
    by_cases h : i < xs.length
    · rw [hs m i r h hr, to_loop z hs he m (i + 1) _ (by omega) (by omega) (by simp [hr]), getD_drop xs i z h]
      have : (r.set i (xs.getD i z)).take (i + 1) = r.take i ++ [xs.getD i z] := by
        rw [List.take_add_one, List.take_set_of_le (Nat.le_refl i), List.getElem?_set_self (by omega)]
        rfl
      rw [this, List.append_assoc]
      rfl
    · have : i = xs.length := by omega
      subst this
      rw [he, List.drop_length, List.append_nil, ← hr, List.take_length]
theorem eqL_len {α : Type} {f : α → α → Bool} : ∀ {xs ys : List α}, xs.length ≠ ys.length → eqL f xs ys = false
  | [], [], h => absurd rfl h
  | [], _ :: _, _ => rfl
  | _ :: _, [], _ => rfl
  | x :: xs, y :: ys, h => by
    simp only [eqL]
    rw [eqL_len (by simpa using h), Bool.and_false]
theorem eq_loop {α E : Type} {xs ys : List α} (z : α) (f : α → α → Bool) {g : Nat → Int → Option E} {ok bad : E} (hl : ys.length = xs.length)
    (hs : ∀ m (i : Nat), i < xs.length → g (m + 1) i = bif f (xs.getD i z) (ys.getD i z) then g m ((i + 1 : Nat) : Int) else some bad)
    (he : ∀ m, g (m + 1) (xs.length : Int) = some ok) :
    ∀ (m i : Nat), i ≤ xs.length → xs.length - i < m → g m i = some (bif eqL f (xs.drop i) (ys.drop i) then ok else bad)
  | 0, i, hi, hm => by omega
  | m + 1, i, hi, hm => by
    by_cases h : i < xs.length
    · rw [hs m i h, getD_drop xs i z h, getD_drop ys i z (by omega)]
      simp only [eqL]
      cases f (xs.getD i z) (ys.getD i z) with
      | false => rfl
      | true =>
        rw [cond_true, eq_loop z f hl hs he m (i + 1) (by omega) (by omega), Bool.true_and]
    · have : i = xs.length := by omega
      subst this
      have hy : ys.drop xs.length = [] := List.drop_eq_nil_of_le (by omega)
      rw [he, List.drop_length, hy]
      rfl
/-- All elements are good, by their places. -/
theorem all_loop {E : Type} {n : Nat} {g : Nat → Int → Option E} {ok bad : E} (p : Nat → Bool)
    (hs : ∀ m (i : Nat), i < n → g (m + 1) i = bif p i then g m ((i + 1 : Nat) : Int) else some bad)
    (he : ∀ m, g (m + 1) (n : Int) = some ok) :
    ∀ (m i : Nat), i ≤ n → n - i < m → g m i = some (bif (List.range' i (n - i)).all p then ok else bad)
  | 0, i, hi, hm => by omega
  | m + 1, i, hi, hm => by
    by_cases h : i < n
    · have e : n - i = (n - (i + 1)) + 1 := by omega
      rw [hs m i h, e, List.range'_succ, List.all_cons]
      cases p i with
      | false => rfl
      | true =>
        rw [cond_true, all_loop p hs he m (i + 1) (by omega) (by omega), Bool.true_and]
    · have : i = n := by omega
      subst this
      rw [he, Nat.sub_self]
      rfl
theorem and3 {a b c : Bool} (h : (a && b && c) = true) : a = true ∧ b = true ∧ c = true := by
  cases a <;> cases b <;> cases c <;> first | exact ⟨rfl, rfl, rfl⟩ | cases h
theorem and2 {a b : Bool} (h : (a && b) = true) : a = true ∧ b = true := by
  cases a <;> cases b <;> first | exact ⟨rfl, rfl⟩ | cases h
theorem fineB_sl {t : Ty} {xs : List t.D} (h : fineB (.sl t) xs = true) : List.length xs < 1152921504606846976 ∧ ∀ x ∈ xs, fineB t x = true := by
  obtain ⟨h1, h2⟩ := and2 h
  exact ⟨of_decide_eq_true h1, List.all_eq_true.1 h2⟩
theorem smallB_sl {t : Ty} {xs : List t.D} (h : smallB (.sl t) xs = true) : List.length xs ≤ 1048576 ∧ ∀ x ∈ xs, smallB t x = true := by
  obtain ⟨h1, h2⟩ := and2 h
  exact ⟨of_decide_eq_true h1, List.all_eq_true.1 h2⟩
theorem fineB_pair {a b : Ty} {x : a.D × b.D} (h : fineB (.pair a b) x = true) : fineB a x.1 = true ∧ fineB b x.2 = true := and2 h
theorem smallB_pair {a b : Ty} {x : a.D × b.D} (h : smallB (.pair a b) x = true) : smallB a x.1 = true ∧ smallB b x.2 = true := and2 h
theorem fineB_str {x : ByteArray} (h : fineB .str x = true) : ByteArray.size x < 1152921504606846976 := of_decide_eq_true h
theorem szM_some {t : Ty} {x : t.D} {l r : Int} (h : szM t x l = some r) : fineB t x = true ∧ 0 ≤ l ∧ l ≤ 1048576 ∧ (if l - (wt t x : Int) < 0 then -1 else l - (wt t x : Int)) = r := by
  unfold szM at h
  split at h
  · rename_i hc
    obtain ⟨h1, h2, h3⟩ := and3 hc
    exact ⟨h1, of_decide_eq_true h2, of_decide_eq_true h3, Option.some.inj h⟩
  · cases h
theorem szM_is {t : Ty} {x : t.D} {l : Int} (h1 : fineB t x = true) (h2 : 0 ≤ l) (h3 : l ≤ 1048576) : szM t x l = some (if l - (wt t x : Int) < 0 then -1 else l - (wt t x : Int)) := by
  unfold szM
  rw [if_pos (by rw [h1, decide_eq_true h2, decide_eq_true h3]; rfl)]
theorem toM_some {t : Ty} {x r : t.D} (h : toM t x = some r) : smallB t x = true ∧ x = r := by
  unfold toM at h
  split at h
  · exact ⟨by assumption, Option.some.inj h⟩
  · cases h
theorem toM_is {t : Ty} {x : t.D} (h : smallB t x = true) : toM t x = some x := if_pos h
theorem eqM_some {t : Ty} {x y : t.D} {r : Bool} (h : eqM t x y = some r) : fineB t x = true ∧ fineB t y = true ∧ eqB t x y = r := by
  unfold eqM at h
  split at h
  · rename_i hc
    obtain ⟨h1, h2⟩ := and2 hc
    exact ⟨h1, h2, Option.some.inj h⟩
  · cases h
theorem eqM_is {t : Ty} {x y : t.D} (h1 : fineB t x = true) (h2 : fineB t y = true) : eqM t x y = some (eqB t x y) := by
  unfold eqM
  rw [if_pos (by rw [h1, h2]; rfl)]
theorem bneI (a b : Int) : (a != b) = !eqI a b := by
  unfold eqI
  by_cases h : a = b <;> simp [h, bne]
theorem getD_set {α : Type} {r : List α} {i : Nat} {x z : α} (h : i < r.length) : (r.set i x).getD i z = x := by
  simp [List.getD, h]
theorem tmod3 {k : Int} (h : 0 ≤ k) : (Int.tmod k 3 == 0) = decide (k % 3 = 0) := by
  rw [Int.tmod_eq_emod_of_nonneg h]
  rfl
/-- Marks laid place by place. -/
theorem mark_loop {α E : Type} (e : Int → α) (c : Nat) {n : Nat} {K : Int} {g : Nat → Int → Int → List α → Option E} {ok : Int → List α → E}
    (hs : ∀ m (i : Nat) (k : Int) (r : List α), i < n → r.length = n → 1 ≤ k → k + (n - i : Nat) * c ≤ K → g (m + 1) k i r = g m (k + c) ((i + 1 : Nat) : Int) (r.set i (e k)))
    (he : ∀ m k r, r.length = n → g (m + 1) k (n : Int) r = some (ok k r)) :
    ∀ (m i : Nat) (k : Int) (r : List α), i ≤ n → n - i < m → r.length = n → 1 ≤ k → k + (n - i : Nat) * c ≤ K → g m k i r = some (ok (k + (n - i : Nat) * c) (r.take i ++ gL e c (n - i) k))
  | 0, i, k, r, hi, hm, _, _, _ => by omega
  | m + 1, i, k, r, hi, hm, hr, h1, hK => by
    by_cases h : i < n
    · have q : n - i = (n - (i + 1)) + 1 := by omega
      have hK2 : k + (c : Int) + (n - (i + 1) : Nat) * c = k + (n - i : Nat) * c := by
        rw [q, Int.natCast_add, Int.add_mul]
        simp only [Int.natCast_one, Int.one_mul]
        omega
      rw [hs m i k r h hr h1 hK, mark_loop e c hs he m (i + 1) _ _ (by omega) (by omega) (by simp [hr]) (by omega) (by rw [hK2]; exact hK), hK2]
      have h2 : (r.set i (e k)).take (i + 1) = r.take i ++ [e k] := by
        rw [List.take_add_one, List.take_set_of_le (Nat.le_refl i), List.getElem?_set_self (by omega)]
        rfl
      rw [h2, List.append_assoc]
      have h3 : gL e c (n - i) k = e k :: gL e c (n - (i + 1)) (k + c) := by rw [q]; rfl
      rw [h3]
      rfl
    · have : i = n := by omega
      subst this
      rw [he _ _ _ hr, Nat.sub_self]
      simp [gL, ← hr]
theorem held_loop {α E : Type} {xs : List α} (z : α) (f : α → α → Bool) (e : Int → α) (c : Nat) {K : Int} {g : Nat → Int → Int → Option E} {ok : Int → E} {bad : E}
    (hs : ∀ m (i : Nat) (k : Int), i < xs.length → 1 ≤ k → k + (xs.length - i : Nat) * c ≤ K → g (m + 1) k i = bif f (xs.getD i z) (e k) then g m (k + c) ((i + 1 : Nat) : Int) else some bad)
    (he : ∀ m k, g (m + 1) k (xs.length : Int) = some (ok k)) :
    ∀ (m i : Nat) (k : Int), i ≤ xs.length → xs.length - i < m → 1 ≤ k → k + (xs.length - i : Nat) * c ≤ K → g m k i = some (bif eqL f (xs.drop i) (gL e c (xs.length - i) k) then ok (k + (xs.length - i : Nat) * c) else bad)
  | 0, i, k, hi, hm, _, _ => by omega
  | m + 1, i, k, hi, hm, h1, hK => by
    by_cases h : i < xs.length
    · have q : xs.length - i = (xs.length - (i + 1)) + 1 := by omega
      have hK2 : k + (c : Int) + (xs.length - (i + 1) : Nat) * c = k + (xs.length - i : Nat) * c := by
        rw [q, Int.natCast_add, Int.add_mul]
        simp only [Int.natCast_one, Int.one_mul]
        omega
      have h3 : gL e c (xs.length - i) k = e k :: gL e c (xs.length - (i + 1)) (k + c) := by rw [q]; rfl
      rw [hs m i k h h1 hK, getD_drop xs i z h, h3]
      simp only [eqL]
      cases f (xs.getD i z) (e k) with
      | false => rfl
      | true => rw [cond_true, held_loop z f e c hs he m (i + 1) _ (by omega) (by omega) (by omega) (by rw [hK2]; exact hK), hK2, Bool.true_and]
    · have : i = xs.length := by omega
      subst this
      rw [he, Nat.sub_self, List.drop_length]
      simp [gL, eqL]
theorem gL_len {α : Type} (e : Int → α) (c : Nat) : ∀ n k, (gL e c n k).length = n
  | 0, _ => rfl
  | n + 1, k => by simp [gL, gL_len e c n]
theorem markM_some {t : Ty} {xs : List t.D} {k : Int} {r : Int × List t.D} (h : markM t xs k = some r) : 1 ≤ k ∧ k ≤ 1125899906842624 ∧ List.length xs ≤ 1125899906842624 ∧ (k + List.length xs * mkN t, mkL t (List.length xs) k) = r := by
  unfold markM at h
  split at h
  · rename_i hc
    obtain ⟨h1, h2, h3⟩ := and3 hc
    exact ⟨of_decide_eq_true h1, of_decide_eq_true h2, of_decide_eq_true h3, Option.some.inj h⟩
  · cases h
theorem markM_is {t : Ty} {xs : List t.D} {k : Int} (h1 : 1 ≤ k) (h2 : k ≤ 1125899906842624) (h3 : List.length xs ≤ 1125899906842624) : markM t xs k = some (k + List.length xs * mkN t, mkL t (List.length xs) k) := by
  unfold markM
  rw [if_pos (by rw [decide_eq_true h1, decide_eq_true h2, decide_eq_true h3]; rfl)]
theorem heldM_some {t : Ty} {xs : List t.D} {k : Int} {r : Int} (h : heldM t xs k = some r) : 1 ≤ k ∧ k ≤ 1125899906842624 ∧ List.length xs ≤ 1125899906842624 ∧ (if eqB (.sl t) xs (mkL t (List.length xs) k) = true then k + List.length xs * mkN t else -1) = r := by
  unfold heldM at h
  split at h
  · rename_i hc
    obtain ⟨h1, h2, h3⟩ := and3 hc
    exact ⟨of_decide_eq_true h1, of_decide_eq_true h2, of_decide_eq_true h3, Option.some.inj h⟩
  · cases h
theorem heldM_is {t : Ty} {xs : List t.D} {k : Int} (h1 : 1 ≤ k) (h2 : k ≤ 1125899906842624) (h3 : List.length xs ≤ 1125899906842624) : heldM t xs k = some (if eqB (.sl t) xs (mkL t (List.length xs) k) = true then k + List.length xs * mkN t else -1) := by
  unfold heldM
  rw [if_pos (by rw [decide_eq_true h1, decide_eq_true h2, decide_eq_true h3]; rfl)]
theorem gt100 (n : Nat) (c : Nat) : decide (nI n > (c : Int)) = !decide (n ≤ c) := by
  by_cases q : n ≤ c
  · have : ¬ (nI n > (c : Int)) := by simp [nI]; omega
    rw [decide_eq_true q, decide_eq_false this]; rfl
  · have : nI n > (c : Int) := by simp [nI]; omega
    rw [decide_eq_false q, decide_eq_true this]; rfl
theorem ne64 (n c : Nat) : (nI n != (c : Int)) = !decide (n = c) := by
  by_cases q : n = c
  · subst q; simp [nI]
  · have : ¬ (nI n = (c : Int)) := by simp [nI]; omega
    rw [decide_eq_false q, bneI]; unfold eqI; rw [decide_eq_false this]
theorem gt0 (i : Nat) : decide ((i : Int) > 0) = !(i == 0) := by
  cases i with
  | zero => rfl
  | succ j => have : ((j + 1 : Nat) : Int) > 0 := by omega
              rw [decide_eq_true this]; rfl
theorem wP (j : Nat) (h : j < 4611686018427387904) : IntKind.i64.wrap (((j + 1 : Nat) : Int) - 1) = (j : Int) := by rw [wrap_ok (by omega) (by omega)]; omega
theorem fine_of : ∀ {t : Ty} {x : t.D}, FineD t x → fineB t x = true
  | .int _, _, _ => rfl
  | .bool, _, _ => rfl
  | .str, s, h => by
    have h : ByteArray.size s ≤ reachBytes := h
    have : reachBytes < 1152921504606846976 := by decide
    exact decide_eq_true (by omega)
  | .sl t, xs, h => by
    obtain ⟨h1, h2⟩ := h
    have : reachBytes < 1152921504606846976 := by decide
    show (decide (List.length xs < 1152921504606846976) && List.all xs (fineB t)) = true
    rw [decide_eq_true (by omega), Bool.true_and]
    refine List.all_eq_true.2 fun x hx => ?_
    obtain ⟨i, hi, rfl⟩ := List.mem_iff_getElem.1 hx
    exact fine_of (h2 i _ (List.getElem?_eq_getElem hi))
  | .unit, _, _ => rfl
  | .pair a b, x, h => by
    show (fineB a x.1 && fineB b x.2) = true
    rw [fine_of h.1, fine_of h.2]
    rfl
theorem sum_mem {α : Type} (f : α → Nat) : ∀ {xs : List α} {x : α}, x ∈ xs → f x ≤ (xs.map f).sum
  | [], _, h => by cases h
  | y :: r, x, h => by
    rw [List.map_cons, List.sum_cons]
    rcases List.mem_cons.1 h with rfl | h
    · omega
    · have := sum_mem f h
      omega
theorem small_of : ∀ {t : Ty} {x : t.D}, wt t x ≤ 1048576 → smallB t x = true
  | .int _, _, _ => rfl
  | .bool, _, _ => rfl
  | .str, _, _ => rfl
  | .sl t, xs, h => by
    have h : List.length xs + (List.map (wt t) xs).sum ≤ 1048576 := h
    show (decide (List.length xs ≤ 1048576) && List.all xs (smallB t)) = true
    rw [decide_eq_true (by omega), Bool.true_and]
    refine List.all_eq_true.2 fun x hx => small_of ?_
    have := sum_mem (wt t) hx
    omega
  | .unit, _, _ => rfl
  | .pair a b, x, h => by
    have h : wt a x.1 + wt b x.2 ≤ 1048576 := h
    show (smallB a x.1 && smallB b x.2) = true
    rw [small_of (by omega), small_of (by omega)]
    rfl
theorem eqL_self {α : Type} {f : α → α → Bool} (h : ∀ x, f x x = true) : ∀ xs, eqL f xs xs = true
  | [] => rfl
  | x :: r => by simp only [eqL, h, eqL_self h r, Bool.and_self]
theorem eqI_self (x : Int) : eqI x x = true := decide_eq_true rfl
theorem eqO_self (x : Bool) : eqO x x = true := by cases x <;> rfl
theorem eqS_self (x : ByteArray) : eqS x x = true := by unfold eqS; simp
theorem eqB_self : ∀ (t : Ty) (x : t.D), eqB t x x = true
  | .int _, x => eqI_self x
  | .bool, x => eqO_self x
  | .str, x => eqS_self x
  | .sl t, xs => eqL_self (eqB_self t) xs
  | .unit, _ => rfl
  | .pair a b, x => by
    show (eqB a x.1 x.1 && eqB b x.2 x.2) = true
    rw [eqB_self, eqB_self]
    rfl
theorem eqM_self {t : Ty} {x : t.D} (h : fineB t x = true) : eqM t x x = some true := (eqM_is h h).trans (congrArg some (eqB_self t x))
/-- What a size function says: too much, or all is small. -/
theorem sz_cases {t : Ty} {x : t.D} {l0 : Int} (h : fineB t x = true) (h0 : 0 ≤ l0) (h1 : l0 ≤ 1048576) {m : Option Int} (hm : m = szM t x l0) :
    m = some (-1) ∨ ∃ l : Int, m = some l ∧ 0 ≤ l ∧ l ≤ 1048576 ∧ smallB t x = true ∧ decide (l < 0) = false := by
  subst hm
  rw [szM_is h h0 h1]
  by_cases q : l0 - (wt t x : Int) < 0
  · rw [if_pos q]; exact .inl rfl
  · rw [if_neg q]
    exact .inr ⟨_, rfl, by omega, by omega, small_of (by omega), decide_eq_false q⟩
theorem lt_m1 : decide ((-1 : Int) < 0) = true := rfl
theorem find_loop {α E : Type} {xs : List α} (z : α) (p : α → Bool) (out : α → E) {g : Nat → Int → Option E} {ok : E}
    (hs : ∀ m (i : Nat), i < xs.length → g (m + 1) i = bif p (xs.getD i z) then some (out (xs.getD i z)) else g m ((i + 1 : Nat) : Int))
    (he : ∀ m, g (m + 1) (xs.length : Int) = some ok) :
    ∀ (m i : Nat), i ≤ xs.length → xs.length - i < m → g m i = some (findGo p out ok (xs.drop i))
  | 0, i, hi, hm => by omega
  | m + 1, i, hi, hm => by
    by_cases h : i < xs.length
    · rw [hs m i h, getD_drop xs i z h]
      simp only [findGo]
      cases p (xs.getD i z) with
      | true => rfl
      | false => rw [cond_false, cond_false, find_loop z p out hs he m (i + 1) (by omega) (by omega)]
    · have : i = xs.length := by omega
      subst this
      rw [he, List.drop_length]
      rfl
theorem findGo_map {α E F : Type} (f : E → F) (p : α → Bool) (out : α → E) (ok : E) : ∀ l, f (findGo p out ok l) = findGo p (fun x => f (out x)) (f ok) l
  | [] => rfl
  | x :: r => by
    simp only [findGo]
    cases p x with
    | true => rfl
    | false => exact findGo_map f p out ok r
theorem rfind_loop {α E : Type} {xs : List α} (z : α) (p : α → Bool) (out : α → E) {g : Nat → Int → Option E} {ok : E}
    (hs : ∀ m (i : Nat), i < xs.length → g (m + 1) i = bif p (xs.getD i z) then some (out (xs.getD i z)) else g m ((i : Int) - 1))
    (he : ∀ m, g (m + 1) (-1) = some ok) :
    ∀ (m i : Nat), i ≤ xs.length → i < m → g m ((i : Int) - 1) = some (findGo p out ok (xs.take i).reverse)
  | 0, i, hi, hm => by omega
  | m + 1, 0, hi, hm => by
    rw [show ((0 : Nat) : Int) - 1 = -1 from rfl, he]
    rfl
  | m + 1, i + 1, hi, hm => by
    have e : (((i + 1 : Nat) : Int) - 1) = (i : Int) := by omega
    have h : i < xs.length := by omega
    have e2 : (xs.take (i + 1)).reverse = xs.getD i z :: (xs.take i).reverse := by
      rw [List.take_add_one, List.getElem?_eq_getElem h, Option.toList_some, List.reverse_append, List.reverse_singleton]
      simp [List.getD, List.getElem?_eq_getElem h]
    rw [e, hs m i h, e2]
    simp only [findGo]
    cases p (xs.getD i z) with
    | true => rfl
    | false => rw [cond_false, cond_false, rfind_loop z p out hs he m i (by omega) (by omega)]
theorem fold_loop {α σ E : Type} {xs : List α} (z : α) (Inv : σ → Prop) (step : Nat → α → σ → σ) {g : Nat → Int → σ → Option E} {ok : σ → E}
    (hs : ∀ m (i : Nat) s, i < xs.length → Inv s → g (m + 1) i s = g m ((i + 1 : Nat) : Int) (step i (xs.getD i z) s))
    (hi : ∀ i s, i < xs.length → Inv s → Inv (step i (xs.getD i z) s))
    (he : ∀ m s, Inv s → g (m + 1) (xs.length : Int) s = some (ok s)) :
    ∀ (m i : Nat) s, i ≤ xs.length → xs.length - i < m → Inv s → g m i s = some (ok (foldI step i (xs.drop i) s))
  | 0, i, s, _, hm, _ => by omega
  | m + 1, i, s, hl, hm, hI => by
    by_cases h : i < xs.length
    · rw [hs m i s h hI, fold_loop z Inv step hs hi he m (i + 1) _ (by omega) (by omega) (hi i s h hI), getD_drop xs i z h]
      rfl
    · have : i = xs.length := by omega
      subst this
      rw [he _ _ hI, List.drop_length]
      rfl
theorem foldI_inv {α σ : Type} (Inv : σ → Prop) (step : Nat → α → σ → σ) : ∀ (l : List α) (i : Nat) (s : σ), (∀ i s x, x ∈ l → Inv s → Inv (step i x s)) → Inv s → Inv (foldI step i l s)
  | [], _, _, _, h => h
  | x :: r, i, s, hs, h => foldI_inv Inv step r (i + 1) _ (fun i s y hy => hs i s y (List.mem_cons_of_mem _ hy)) (hs i s x (by simp) h)
theorem foldI_app {α σ : Type} (step : Nat → α → σ → σ) : ∀ (l : List α) (i : Nat) (s : σ) (x : α), foldI step i (l ++ [x]) s = step (i + l.length) x (foldI step i l s)
  | [], i, s, x => rfl
  | y :: r, i, s, x => by
    show foldI step (i + 1) (r ++ [x]) _ = _
    rw [foldI_app step r]
    show step (i + 1 + r.length) x _ = step (i + (r.length + 1)) x _
    rw [show i + 1 + r.length = i + (r.length + 1) by omega]
    rfl
/-- A row that grows by one each round. -/
theorem app_loop {α E : Type} {n : Nat} (f : Nat → α) {g : Nat → Int → List α → Option E} {ok : List α → E}
    (hs : ∀ m (i : Nat) (r : List α), i < n → r.length = i → g (m + 1) i r = g m ((i + 1 : Nat) : Int) (r ++ [f i]))
    (he : ∀ m r, g (m + 1) (n : Int) r = some (ok r)) :
    ∀ (m i : Nat) (r : List α), i ≤ n → n - i < m → r.length = i → g m i r = some (ok (r ++ (List.range' i (n - i)).map f))
  | 0, i, r, _, hm, _ => by omega
  | m + 1, i, r, hl, hm, hr => by
    by_cases h : i < n
    · have e : n - i = (n - (i + 1)) + 1 := by omega
      rw [hs m i r h hr, app_loop f hs he m (i + 1) _ (by omega) (by omega) (by simp [hr]), e, List.range'_succ, List.map_cons, List.append_assoc]
      rfl
    · have : i = n := by omega
      subst this
      rw [he, Nat.sub_self]
      simp
theorem range_const {α : Type} (x : α) : ∀ (n s : Nat), (List.range' s n).map (fun _ => x) = List.replicate n x
  | 0, _ => rfl
  | n + 1, s => by rw [List.range'_succ, List.map_cons, range_const x n, List.replicate_succ]
theorem all_range {n : Nat} {p : Nat → Bool} (h : (List.range' 0 n).all p = true) (i : Nat) (hi : i < n) : p i = true := List.all_eq_true.1 h i (by simp [List.mem_range']; omega)
theorem cutOf_size {s : ByteArray} {a b : Int} (h0 : 0 ≤ a) (h1 : a ≤ b) (h2 : b ≤ (s.size : Int)) : (cutOf s a b).size = (b - a).toNat := by
  unfold cutOf
  rw [ByteArray.size_extract]
  omega
structure DiskOk (d : Dk) : Prop where
  n8 : 8 ≤ d.1.length
  n200 : d.1.length ≤ 200
  p300 : d.2.1.length ≤ 300
  sec : ∀ i, i < d.1.length → (d.1.getD i z0).size = 64
  pen : ∀ i, i < d.2.1.length → 0 ≤ (d.2.1.getD i zW).1 ∧ (d.2.1.getD i zW).1 < (d.1.length : Int) ∧ (d.2.1.getD i zW).2.1.size = 64
theorem disk_ok {d : Dk} (h : validDisk d = true) : DiskOk d := by
  obtain ⟨h1, h2⟩ := and2 h
  obtain ⟨h2, h3⟩ := and2 h2
  obtain ⟨h3, h4⟩ := and2 h3
  obtain ⟨k1, k2⟩ := and2 h1
  have k1 := of_decide_eq_true k1
  have k2 := of_decide_eq_true k2
  refine ⟨by omega, by omega, of_decide_eq_true h2, fun i hi => of_decide_eq_true (all_range h3 i hi), fun i hi => ?_⟩
  obtain ⟨q1, q2⟩ := and2 (all_range h4 i hi)
  obtain ⟨q2, q3⟩ := and2 q2
  exact ⟨of_decide_eq_true q1, of_decide_eq_true q2, of_decide_eq_true q3⟩
theorem mem_getD {α : Type} {xs : List α} {x : α} (z : α) (h : x ∈ xs) : ∃ i, i < xs.length ∧ xs.getD i z = x := by
  obtain ⟨i, hi, rfl⟩ := List.mem_iff_getElem.1 h
  exact ⟨i, hi, by simp [List.getD, List.getElem?_eq_getElem hi]⟩
theorem getD_set_ne {α : Type} {r : List α} {i j : Nat} {x z : α} (h : i ≠ j) : (r.set i x).getD j z = r.getD j z := by
  simp [List.getD, List.getElem?_set_ne h]
theorem syncS_length (sec : List ByteArray) (ws : List Wr) : (syncS sec ws).length = sec.length :=
  foldI_inv (fun s => s.length = sec.length) _ ws 0 sec (fun i s w _ h => by rw [List.length_set]; exact h) rfl
theorem sync_get (sec : List ByteArray) (i : Nat) (hi : i < sec.length) (ws : List Wr) (h : ∀ w ∈ ws, 0 ≤ w.1) :
    (syncS sec ws).getD i z0 = findGo (fun w => w.1 == (i : Int)) (fun w => w.2.1) (sec.getD i z0) ws.reverse := by
  have key : ∀ (rs : List Wr), (∀ w ∈ rs, 0 ≤ w.1) → (syncS sec rs.reverse).getD i z0 = findGo (fun w => w.1 == (i : Int)) (fun w => w.2.1) (sec.getD i z0) rs := by
    intro rs
    induction rs with
    | nil => intro _; rfl
    | cons w r ih =>
      intro hr
      have ih := ih (fun v hv => hr v (List.mem_cons_of_mem _ hv))
      have h0 := hr w (by simp)
      rw [List.reverse_cons]
      unfold syncS at ih ⊢
      rw [foldI_app]
      simp only [findGo]
      have hlen : (foldI (fun _ (w : Wr) (s : List ByteArray) => s.set w.1.toNat w.2.1) 0 r.reverse sec).length = sec.length := syncS_length sec r.reverse
      by_cases q : w.1 = (i : Int)
      · have q2 : w.1.toNat = i := by omega
        rw [q2, getD_set (by rw [hlen]; exact hi), q, beq_self_eq_true, cond_true]
      · have q2 : w.1.toNat ≠ i := by omega
        rw [getD_set_ne q2, ih, show (w.1 == (i : Int)) = false from by simp [q], cond_false]
  have := key ws.reverse (fun w hw => h w (List.mem_reverse.1 hw))
  rwa [List.reverse_reverse] at this
theorem clampE (f : Int) : (if (if f < 64 then f else 64) > 0 then (if f < 64 then f else 64) else 0) = clampZ f := by
  unfold clampZ
  by_cases h1 : f < 64 <;> by_cases h2 : f < 0 <;> simp only [h1, h2, if_true, if_false] <;> (split <;> (try split) <;> omega)
theorem clampZ_range (f : Int) : 0 ≤ clampZ f ∧ clampZ f ≤ 64 := by
  unfold clampZ
  split
  · omega
  · split <;> omega
theorem fateAt_range (f : List Int) (i : Nat) : 0 ≤ fateAt f i ∧ fateAt f i ≤ 64 := by
  unfold fateAt
  split
  · exact clampZ_range _
  · omega
theorem mixS_size {a b : ByteArray} {k : Int} (ha : a.size = 64) (hb : b.size = 64) (h0 : 0 ≤ k) (h1 : k ≤ 64) : (mixS a b k).size = 64 := by
  unfold mixS
  rw [ByteArray.size_append, cutOf_size (by omega) h0 (by omega), cutOf_size h0 (by simp only [nI]; omega) (by simp [nI])]
  simp only [nI]
  omega
/-- Sectors of the right size. -/
def SecOk (n : Nat) (s : List ByteArray) : Prop := s.length = n ∧ ∀ i, i < n → (s.getD i z0).size = 64
theorem SecOk.set {n : Nat} {s : List ByteArray} (h : SecOk n s) {j : Nat} {x : ByteArray} (hx : x.size = 64) : SecOk n (s.set j x) := by
  refine ⟨by rw [List.length_set]; exact h.1, fun i hi => ?_⟩
  by_cases q : j = i
  · subst q
    rw [getD_set (by rw [h.1]; exact hi)]
    exact hx
  · rw [getD_set_ne q]
    exact h.2 i hi
/-- All is of a size that marks can bear. -/
def goodB : (t : Ty) → t.D → Bool
  | .int _, _ => true
  | .bool, _ => true
  | .str, s => decide (ByteArray.size s ≤ 1073741824)
  | .sl t, xs => decide (List.length xs ≤ 1073741824) && List.all xs (goodB t)
  | .unit, _ => true
  | .pair a b, x => goodB a x.1 && goodB b x.2
theorem good_fine : ∀ {t : Ty} {x : t.D}, goodB t x = true → fineB t x = true
  | .int _, _, _ => rfl
  | .bool, _, _ => rfl
  | .str, s, h => decide_eq_true (by have := of_decide_eq_true (show decide (ByteArray.size s ≤ 1073741824) = true from h); show ByteArray.size s < _; omega)
  | .sl t, xs, h => by
    have h : (decide (List.length xs ≤ 1073741824) && List.all xs (goodB t)) = true := h
    obtain ⟨h1, h2⟩ := and2 h
    show (decide (List.length xs < 1152921504606846976) && List.all xs (fineB t)) = true
    rw [decide_eq_true (by have := of_decide_eq_true h1; omega), Bool.true_and]
    exact List.all_eq_true.2 fun a ha => good_fine (List.all_eq_true.1 h2 a ha)
  | .unit, _, _ => rfl
  | .pair a b, x, h => by
    have h : (goodB a x.1 && goodB b x.2) = true := h
    obtain ⟨h1, h2⟩ := and2 h
    show (fineB a x.1 && fineB b x.2) = true
    rw [good_fine h1, good_fine h2]; rfl
/-- Marks come through, and are held. -/
theorem mk_ex {t : Ty} {xs : List t.D} {k : Int} (c : Nat) (hc : mkN t = c) (h1 : 1 ≤ k) (h2 : k ≤ 1125899906842624) (h3 : List.length xs ≤ 1073741824) :
    ∃ k' ys, markM t xs k = some (k', ys) ∧ k ≤ k' ∧ k' ≤ k + 1073741824 * (c : Int) ∧ heldM t ys k = some k' := by
  refine ⟨_, _, markM_is h1 h2 (by omega), ?_, ?_, ?_⟩
  · have : (0 : Int) ≤ (List.length xs : Int) * (mkN t : Int) := Int.mul_nonneg (by omega) (by omega)
    omega
  · rw [hc]
    have : (List.length xs : Int) * (c : Int) ≤ 1073741824 * (c : Int) := Int.mul_le_mul_of_nonneg_right (by omega) (by omega)
    omega
  · have hl : (mkL t (List.length xs) k).length = List.length xs := gL_len _ _ _ _
    rw [heldM_is h1 h2 (by omega), hl]
    exact congrArg some (if_pos (eqB_self (.sl t) _))
theorem bi_ {α β : Type} {m : Option α} {f : α → Option β} {a : α} {r : Option β} (h : m = some a) (h2 : f a = r) : m.bind f = r := by
  rw [h]; exact h2
theorem all_getD {α : Type} {l : List α} {z : α} {P : α → Prop} (h : ∀ i, i < l.length → P (l.getD i z)) : ∀ x ∈ l, P x := by
  intro x hx
  obtain ⟨i, hi, rfl⟩ := List.mem_iff_getElem.1 hx
  have := h i hi
  rw [List.getD_eq_getElem?_getD, List.getElem?_eq_getElem hi] at this
  exact this
theorem clampZ_in (f : Int) : 0 ≤ clampZ f ∧ clampZ f ≤ 64 := by
  unfold clampZ
  split
  · omega
  · split <;> omega
theorem fateAt_in (f : List Int) (i : Nat) : 0 ≤ fateAt f i ∧ fateAt f i ≤ 64 := by
  unfold fateAt
  split
  · exact clampZ_in _
  · omega
abbrev tDk : Ty := .pair (.sl .str) (.pair (.sl (.pair (.int .i64) (.pair .str .unit))) .unit)
theorem tear_ok {d : Dk} (h : validDisk d = true) (f : List Int) : SecOk d.1.length (tearS f d.1 d.2.1) := by
  obtain ⟨k1, k2, k3, k4, k5⟩ := disk_ok h
  refine foldI_inv (SecOk d.1.length) _ d.2.1 0 d.1 (fun i s w hw hI => ?_) ⟨rfl, k4⟩
  obtain ⟨w0, w1, w2⟩ := all_getD (P := fun w : Wr => 0 ≤ w.1 ∧ w.1 < (d.1.length : Int) ∧ w.2.1.size = 64) k5 w hw
  exact hI.set (mixS_size w2 (hI.2 _ (by omega)) (fateAt_in f i).1 (fateAt_in f i).2)
theorem good_sec {n : Nat} {s : List ByteArray} (h : SecOk n s) (hn : n ≤ 200) : goodB tDk (s, [], ()) = true := by
  show ((decide (s.length ≤ 1073741824) && List.all s (fun x => decide (ByteArray.size x ≤ 1073741824))) && _) = true
  rw [decide_eq_true (by have := h.1; omega)]
  have : List.all s (fun x => decide (ByteArray.size x ≤ 1073741824)) = true := List.all_eq_true.2 (all_getD (z := z0) fun i hi => decide_eq_true (by rw [h.2 i (by rw [← h.1]; exact hi)]; decide))
  rw [this]
  rfl
theorem powerLoss_good (d : Dk) (f : List Int) : goodB tDk (powerLoss d f) = true := by
  unfold powerLoss
  cases hv : validDisk d with
  | false => rfl
  | true => exact good_sec (tear_ok hv f) (disk_ok hv).n200
theorem newDisk_good (n : Int) : goodB tDk (newDisk n) = true := by
  unfold newDisk
  cases hv : inB n 8 200 with
  | false => rfl
  | true =>
    have k2 := of_decide_eq_true (and2 hv).2
    refine good_sec (n := n.toNat) ⟨List.length_replicate, fun i hi => ?_⟩ (by omega)
    rw [List.getD_eq_getElem?_getD, List.getElem?_replicate, if_pos hi]
    rfl
/-! ### Numbers as bytes -/
theorem strOfNums_app (a b : List Int) : strOfNums (a ++ b) = strOfNums a ++ strOfNums b := by
  unfold strOfNums
  rw [List.map_append]
  apply ByteArray.ext
  simp
theorem size_strOfNums (a : List Int) : (strOfNums a).size = a.length := by
  unfold strOfNums
  show (List.toArray _).size = _
  simp
theorem digL_len (v : Int) : ∀ n, (digL v n).length = n
  | 0 => rfl
  | n + 1 => by simp only [digL, List.length_append, digL_len (v / 256) n, List.length_singleton]
theorem digL_len' (n : Nat) : ∀ v, (digL v n).length = n := fun v => digL_len v n
theorem beS_size (v : Int) (n : Nat) : (beS v n).size = n := by unfold beS; rw [size_strOfNums, digL_len]
theorem beS_zero (v : Int) (out : ByteArray) : beS v 0 ++ out = out := by
  apply ByteArray.ext
  simp [beS, digL, strOfNums]
theorem app_z (s : ByteArray) : s ++ ByteArray.mk #[] = s := by
  apply ByteArray.ext
  simp
theorem z_app (s : ByteArray) : ByteArray.mk #[] ++ s = s := by
  apply ByteArray.ext
  simp
theorem beS_succ (v : Int) (k : Nat) : beS v (k + 1) = beS (v / 256) k ++ strOfNums [v % 256] := by
  unfold beS
  rw [← strOfNums_app]
  rfl
theorem byteAt_in (s : ByteArray) (i : Int) : 0 ≤ byteAt s i ∧ byteAt s i < 256 := by
  unfold byteAt
  have := (s.data.toList.getD i.toNat 0).toNat_lt
  omega
theorem pow_le6 : ∀ i : Nat, i < 7 → (256 : Int) ^ i ≤ 281474976710656 := by decide
theorem mul_step (s : ByteArray) (i : Nat) {k : Nat} {v : Int} (hi : i + (k + 1) = s.size) (hs : i < 7) (h0 : 0 ≤ v) (h1 : v < 256 ^ i) :
    0 ≤ v * 256 + byteAt s i ∧ v * 256 + byteAt s i < 256 ^ (i + 1) ∧ IntKind.wrap IntKind.i64 (IntKind.wrap IntKind.i64 (v * 256) + IntKind.wrap IntKind.i64 (byteAt s i)) = v * 256 + byteAt s i := by
  obtain ⟨b0, b1⟩ := byteAt_in s i
  have hp : (256 : Int) ^ (i + 1) = 256 ^ i * 256 := Int.pow_succ _ _
  have hle : (256 : Int) ^ i ≤ 281474976710656 := pow_le6 i hs
  refine ⟨by omega, by omega, ?_⟩
  rw [wrap_ok (n := v * 256) (by omega) (by omega), wrap_ok (n := byteAt s i) (by omega) (by omega), wrap_ok (by omega) (by omega)]
theorem or_step (s : ByteArray) (i : Nat) {k : Nat} {v : Int} (hi : i + (k + 1) = s.size) (hs : i < 7) (h0 : 0 ≤ v) (h1 : v < 256 ^ i) :
    0 ≤ v * 256 + byteAt s i ∧ v * 256 + byteAt s i < 256 ^ (i + 1) ∧ IntKind.wrap IntKind.i64 (nI (BitVec.toNat (BitVec.ofInt 64 (IntKind.wrap IntKind.i64 (v * 2 ^ min (Int.toNat 8) 64)) ||| BitVec.ofInt 64 (IntKind.wrap IntKind.i64 (byteAt s i))))) = v * 256 + byteAt s i := by
  obtain ⟨b0, b1⟩ := byteAt_in s i
  have hp : (256 : Int) ^ (i + 1) = 256 ^ i * 256 := Int.pow_succ _ _
  have hle : (256 : Int) ^ i ≤ 281474976710656 := pow_le6 i hs
  refine ⟨by omega, by omega, ?_⟩
  have e8 : (v * 2 ^ min (Int.toNat 8) 64 : Int) = v * 256 := rfl
  rw [e8, wrap_ok (n := v * 256) (by omega) (by omega), wrap_ok (n := byteAt s i) (by omega) (by omega)]
  obtain ⟨n, rfl⟩ : ∃ n : Nat, v = (n : Int) := ⟨v.toNat, by omega⟩
  obtain ⟨b, hb⟩ : ∃ b : Nat, byteAt s i = (b : Int) := ⟨(byteAt s i).toNat, by omega⟩
  rw [hb] at b0 b1 ⊢
  have e1 : BitVec.ofInt 64 ((n : Int) * 256) = BitVec.ofNat 64 (n * 256) := by
    rw [show ((n : Int) * 256) = ((n * 256 : Nat) : Int) by omega]; exact BitVec.ofInt_natCast _ _
  have e2 : BitVec.ofInt 64 (b : Int) = BitVec.ofNat 64 b := BitVec.ofInt_natCast _ _
  rw [e1, e2, BitVec.toNat_or, BitVec.toNat_ofNat, BitVec.toNat_ofNat, Nat.mod_eq_of_lt (by omega), Nat.mod_eq_of_lt (by omega)]
  have e3 : n * 256 ||| b = n * 256 + b := by
    have := Nat.shiftLeft_add_eq_or_of_lt (i := 8) (b := b) (by omega) n
    rw [Nat.shiftLeft_eq] at this
    exact this.symm
  rw [e3]
  exact wrap_ok (by simp only [nI]; omega) (by simp only [nI]; omega)
theorem up_loop {σ ρ : Type} (n : Nat) (Inv : Nat → σ → Prop) (step : Nat → σ → σ) {g : Nat → Nat → σ → Option ρ} {ok : σ → ρ}
    (hs : ∀ m i s, i < n → Inv i s → g (m + 1) i s = g m (i + 1) (step i s)) (he : ∀ m s, Inv n s → g (m + 1) n s = some (ok s))
    (hI : ∀ i s, i < n → Inv i s → Inv (i + 1) (step i s)) : ∀ k m i s, i + k = n → k < m → Inv i s → g m i s = some (ok (iter step k i s))
  | 0, m + 1, i, s, hi, _, h => by
    obtain rfl : i = n := by omega
    exact he m s h
  | k + 1, m + 1, i, s, hi, hm, h => by
    rw [hs m i s (by omega) h]
    exact up_loop n Inv step hs he hI k m (i + 1) _ (by omega) (by omega) (hI i s (by omega) h)
theorem iter_inv {σ : Type} (Inv : σ → Prop) (f : Nat → σ → σ) (hf : ∀ i s, Inv s → Inv (f i s)) : ∀ k i s, Inv s → Inv (iter f k i s)
  | 0, _, _, h => h
  | k + 1, i, s, h => iter_inv Inv f hf k (i + 1) _ (hf i s h)
theorem wid (w : Int) : (bif decide (w ≥ 1) then some ((decide (w ≤ 8), ()), ()) else some ((false, ()), ())) = (some ((inB w 1 8, ()), ()) : Option ((Bool × Unit) × Unit)) := by
  unfold inB
  by_cases h : 1 ≤ w
  · rw [decide_eq_true (show w ≥ 1 from h)]; rfl
  · rw [decide_eq_false (show ¬ w ≥ 1 from h)]; rfl
theorem wrapU (k : Int) : IntKind.wrap IntKind.u64 k = k % 18446744073709551616 := by
  simp [IntKind.wrap, IntKind.bits, IntKind.signed]
theorem wrapI (k : Int) : IntKind.i64.wrap k = if k % 18446744073709551616 ≥ 9223372036854775808 then k % 18446744073709551616 - 18446744073709551616 else k % 18446744073709551616 := by
  simp [IntKind.wrap, IntKind.bits, IntKind.signed]
def U64 (h : Int) : Prop := 0 ≤ h ∧ h < 18446744073709551616
theorem hash_in (s : ByteArray) (k i : Nat) {h : Int} (hh : U64 h) : U64 (hashGo s k i h) :=
  iter_inv U64 _ (fun i s _ => by unfold hashStep; rw [wrapU]; exact ⟨Int.emod_nonneg _ (by decide), Int.emod_lt_of_pos _ (by decide)⟩) k i h hh
theorem digL_shift : ∀ (n : Nat) (v c : Int), digL (v + 256 ^ n * c) n = digL v n
  | 0, _, _ => rfl
  | n + 1, v, c => by
    have e : v + 256 ^ (n + 1) * c = v + 256 * (256 ^ n * c) := by rw [Int.pow_succ, Int.mul_comm (256 ^ n) 256, Int.mul_assoc]
    simp only [digL]
    rw [e]
    have e1 : (v + 256 * (256 ^ n * c)) / 256 = v / 256 + 256 ^ n * c := by omega
    have e2 : (v + 256 * (256 ^ n * c)) % 256 = v % 256 := by omega
    rw [e1, e2, digL_shift n]
theorem digL_drop (n : Nat) : ∀ (w : Nat) (v : Int), (digL v (n + w)).drop n = digL v w
  | 0, v => by rw [List.drop_eq_nil_of_le (by rw [digL_len]; omega)]; rfl
  | w + 1, v => by
    show (digL (v / 256) (n + w) ++ [v % 256]).drop n = _
    rw [List.drop_append_of_le_length (by rw [digL_len]; omega), digL_drop n w]
    rfl
theorem cut_nums (l : List Int) (a : Nat) : cutOf (strOfNums l) (a : Int) (nI (strOfNums l).size) = strOfNums (l.drop a) := by
  unfold cutOf
  rw [size_strOfNums]
  apply ByteArray.ext
  simp [strOfNums, nI, List.map_drop]
  exact List.take_of_length_le (by simp)
theorem sum_cut {h w : Int} (hh : U64 h) (h1 : 1 ≤ w) (h8 : w ≤ 8) : cutOf (beS (IntKind.wrap IntKind.i64 h) (Int.toNat 8)) (8 - w) (nI (ByteArray.size (beS (IntKind.wrap IntKind.i64 h) (Int.toNat 8)))) = beS h w.toNat := by
  obtain ⟨n, rfl⟩ : ∃ n : Nat, w = (n : Int) := ⟨w.toNat, by omega⟩
  have e8 : Int.toNat 8 = (8 - n) + n := by omega
  have e : (8 - (n : Int)) = ((8 - n : Nat) : Int) := by omega
  rw [e]
  unfold beS
  have hd : digL (IntKind.wrap IntKind.i64 h) (Int.toNat 8) = digL h (Int.toNat 8) := by
    by_cases q : h < 9223372036854775808
    · rw [wrap_ok (by have := hh.1; omega) q]
    · have : IntKind.wrap IntKind.i64 h = h + 256 ^ 8 * (-1) := by
        have h6 : (256 : Int) ^ 8 = 18446744073709551616 := by decide
        have := hh.2
        rw [h6]
        rw [wrapI]
        split <;> omega
      rw [this]
      exact digL_shift 8 h (-1)
  rw [hd, cut_nums, e8, digL_drop]
  rfl
theorem sumS_size {s : ByteArray} {w : Int} (h : inB w 1 8 = true) : (sumS s w).size = w.toNat := by
  unfold sumS; rw [h]; exact beS_size _ _
theorem rep0 : ∀ n : Nat, n ≤ 64 → repStr (ByteArray.mk #[0]) (n : Int) = some (strOfNums (List.replicate n 0)) := by decide +kernel
theorem pageOk_w {p : Pg} {w : Int} (h : pageOk p w = true) : inB w 1 8 = true ∧ 1 ≤ w ∧ w ≤ 8 ∧ (p.2.2.2.1.size : Int) ≤ 56 - w := by
  obtain ⟨h1, h2⟩ := and2 h
  obtain ⟨_, h2⟩ := and2 h2
  obtain ⟨_, h2⟩ := and2 h2
  obtain ⟨_, h2⟩ := and2 h2
  exact ⟨h1, of_decide_eq_true (and2 h1).1, of_decide_eq_true (and2 h1).2, of_decide_eq_true (and2 h2).1⟩
theorem inB_r {v lo hi : Int} (h : inB v lo hi = true) : lo ≤ v ∧ v ≤ hi := ⟨of_decide_eq_true (and2 h).1, of_decide_eq_true (and2 h).2⟩
theorem pageOk_r {p : Pg} {w : Int} (h : pageOk p w = true) : (1 ≤ p.1 ∧ p.1 ≤ 4) ∧ (1 ≤ p.2.1 ∧ p.2.1 ≤ 60000) ∧ (1 ≤ p.2.2.1 ∧ p.2.2.1 ≤ 1000000000) := by
  obtain ⟨_, h2⟩ := and2 h
  obtain ⟨h3, h2⟩ := and2 h2
  obtain ⟨h4, h2⟩ := and2 h2
  obtain ⟨h5, h2⟩ := and2 h2
  exact ⟨inB_r h3, inB_r h4, inB_r h5⟩
theorem inB_lt (x lo hi : Int) {ρ : Type} (f t : ρ) : (bif decide (x < lo) then f else bif decide (x > hi) then f else t) = bif inB x lo hi then t else f := by
  unfold inB
  by_cases h1 : x < lo
  · rw [decide_eq_true h1, decide_eq_false (show ¬ lo ≤ x by omega)]; rfl
  · rw [decide_eq_false h1, decide_eq_true (show lo ≤ x by omega)]
    by_cases h2 : x > hi
    · rw [decide_eq_true h2, decide_eq_false (show ¬ x ≤ hi by omega)]; rfl
    · rw [decide_eq_false h2, decide_eq_true (show x ≤ hi by omega)]; rfl
theorem cut_le (s : ByteArray) (a b : Int) : (cutOf s a b).size ≤ s.size := by
  unfold cutOf
  rw [ByteArray.size_extract]
  omega
abbrev tPg : Ty := .pair (.int .i64) (.pair (.int .i64) (.pair (.int .i64) (.pair .str .unit)))
theorem readP_good {s : ByteArray} {w : Int} (h : s.size ≤ 1073741824) : goodB tPg (readP s w).1 = true := by
  have key : ∀ b : ByteArray, b.size ≤ 1073741824 → goodB tPg (rawB b) = true := fun b hb => by
    show (true && (true && (true && (decide ((cutOf b 8 (8 + byteAt b 7)).size ≤ 1073741824) && true)))) = true
    rw [decide_eq_true (by have := cut_le b 8 (8 + byteAt b 7); omega)]
    rfl
  unfold readP
  cases nI s.size != 64
  · cases inB w 1 8
    · rfl
    · cases decide (byteAt (cutOf s w (nI s.size)) 7 > 56 - w)
      · cases ((pageS (rawP s w) w).toList == s.toList)
        · rfl
        · exact key _ (by have := cut_le s w (nI s.size); omega)
      · rfl
  · rfl
theorem iter_cat {α β : Type} (f : α → List β) (z : α) (xs : List α) : ∀ k i r, i + k = xs.length → iter (fun i r => r ++ f (xs.getD i z)) k i r = r ++ ((xs.drop i).map f).flatten
  | 0, i, r, h => by
    rw [List.drop_eq_nil_of_le (by omega)]
    simp [iter]
  | k + 1, i, r, h => by
    rw [getD_drop xs i z (by omega)]
    simp only [iter, List.map_cons, List.flatten_cons]
    rw [iter_cat f z xs k (i + 1) _ (by omega), List.append_assoc]
theorem bytes_app (a b : ByteArray) : bytesOfStr (a ++ b) = bytesOfStr a ++ bytesOfStr b := by
  unfold bytesOfStr
  simp
theorem bytes_len (s : ByteArray) : (bytesOfStr s).length = s.size := by
  unfold bytesOfStr
  rw [List.length_map]
  rfl
theorem bytes_nums (l : List Int) (h : allBytes l = true) : bytesOfStr (strOfNums l) = l := by
  unfold bytesOfStr strOfNums
  show (List.map _ (List.map _ l)) = l
  rw [List.map_map]
  conv => rhs; rw [← List.map_id l]
  refine List.map_congr_left fun x hx => ?_
  have := List.all_eq_true.1 h x hx
  obtain ⟨h1, h2⟩ := and2 this
  have h1 := of_decide_eq_true h1
  have h2 := of_decide_eq_true h2
  show (((UInt8.ofNat x.toNat).toNat : Nat) : Int) = x
  rw [UInt8.toNat_ofNat']
  rw [Nat.mod_eq_of_lt (by omega)]
  omega
theorem bytes_all (s : ByteArray) : allBytes (bytesOfStr s) = true := by
  refine List.all_eq_true.2 fun x hx => ?_
  obtain ⟨b, _, rfl⟩ := List.mem_map.1 hx
  have := b.toNat_lt
  show (decide (0 ≤ (b.toNat : Int)) && decide ((b.toNat : Int) < 256)) = true
  rw [decide_eq_true (by omega), decide_eq_true (by omega)]
  rfl
theorem allBytes_app (a b : List Int) : allBytes (a ++ b) = (allBytes a && allBytes b) := List.all_append
theorem beS_one (n : Nat) (h : n < 256) : beS (nI n) 1 = strOfNums [nI n] := by
  unfold beS
  simp only [digL, List.nil_append]
  rw [show nI n % 256 = nI n by simp only [nI]; omega]
theorem one_all (n : Nat) (h : n < 256) : allBytes [nI n] = true := by
  show ((decide (0 ≤ nI n) && decide (nI n < 256)) && true) = true
  rw [decide_eq_true (by simp only [nI]; omega), decide_eq_true (by simp only [nI]; omega)]
  rfl
theorem bytes_be (n : Nat) (h : n < 256) : bytesOfStr (beS (nI n) 1) = [nI n] := by
  rw [beS_one n h, bytes_nums _ (one_all n h)]
theorem wrap8 (n : Nat) (h : n < 256) : IntKind.wrap IntKind.u8 (nI n) = nI n := by
  show nI n % 256 = nI n
  simp only [nI]; omega
theorem okChg_len {c : Chg} (h : okChg c = true) : 1 ≤ c.1.size ∧ c.1.size ≤ 20 ∧ c.2.1.size ≤ 100 := by
  obtain ⟨h1, h2⟩ := and2 h
  obtain ⟨h2, _⟩ := and2 h2
  have := inB_r h1
  have := of_decide_eq_true h2
  omega
theorem okChg_bytes {c : Chg} (h : okChg c = true) : allBytes (chgL c) = true ∧ (chgL c).length ≤ 200 := by
  obtain ⟨k1, k2, k3⟩ := okChg_len h
  unfold chgL
  have a1 := one_all c.1.size (by omega)
  have a2 := one_all c.2.1.size (by omega)
  have b1 : allBytes [1, nI c.1.size] = true := by
    rw [show [1, nI c.1.size] = [1] ++ [nI c.1.size] from rfl, allBytes_app, a1]; rfl
  have b0 : allBytes [0, nI c.1.size] = true := by
    rw [show [0, nI c.1.size] = [0] ++ [nI c.1.size] from rfl, allBytes_app, a1]; rfl
  cases c.2.2.1
  · simp only [cond_false, allBytes_app, b0, a2, bytes_all, List.length_append, bytes_len, List.length_cons, List.length_nil]
    exact ⟨rfl, by omega⟩
  · simp only [cond_true, allBytes_app, b1, bytes_all, List.length_append, bytes_len, List.length_cons, List.length_nil]
    exact ⟨rfl, by omega⟩
theorem validBatch_at {b : List Chg} (h : validBatch b = true) : b.length ≤ 20 ∧ ∀ i, i < b.length → okChg (b.getD i zC) = true := by
  obtain ⟨h1, h2⟩ := and2 h
  refine ⟨by have := (inB_r h1).2; omega, fun i hi => ?_⟩
  exact List.all_eq_true.1 h2 i (List.mem_range'_1.2 ⟨by omega, by omega⟩)
/-- What the rounds of a batch's forming keep. -/
def BatOk (i : Nat) (r : List Int) : Prop := r.length ≤ 200 * i ∧ allBytes r = true
theorem BatOk.step {i : Nat} {r : List Int} {c : Chg} (h : BatOk i r) (hc : okChg c = true) : BatOk (i + 1) (r ++ chgL c) := by
  obtain ⟨q1, q2⟩ := okChg_bytes hc
  exact ⟨by rw [List.length_append]; have := h.1; omega, by rw [allBytes_app, h.2, q1]; rfl⟩
theorem iter_bat {b : List Chg} (h : ∀ i, i < b.length → okChg (b.getD i zC) = true) : ∀ k i r, i + k = b.length → BatOk i r → BatOk b.length (iter (fun i r => r ++ chgL (b.getD i zC)) k i r)
  | 0, i, r, e, hr => by
    obtain rfl : i = b.length := by omega
    exact hr
  | k + 1, i, r, e, hr => iter_bat h k (i + 1) _ (by omega) (hr.step (h i (by omega)))
/-! ### Reading a batch -/
theorem bo_inj {a b : ByteArray} (h : bytesOfStr a = bytesOfStr b) : a = b := by
  apply ByteArray.ext
  apply Array.ext'
  unfold bytesOfStr at h
  exact (List.map_inj_right (fun x y e => UInt8.toNat_inj.1 (by omega))).1 h
theorem cut_bytes (s : ByteArray) (a b : Nat) : bytesOfStr (cutOf s a b) = ((bytesOfStr s).drop a).take (b - a) := by
  unfold bytesOfStr cutOf
  simp [List.map_drop, List.map_take]
theorem tl_eq {a b : ByteArray} (h : (a.toList == b.toList) = true) : a = b := by
  have h := eq_of_beq h
  rw [ByteArray.toList_eq, ByteArray.toList_eq] at h
  apply ByteArray.ext
  exact Array.ext' h
theorem bo_nil {s : ByteArray} (h : bytesOfStr s = []) : s = ByteArray.mk #[] := bo_inj h
theorem bo_head {s : ByteArray} (h : 0 < s.size) : bytesOfStr s = byteAt s 0 :: bytesOfStr (cutOf s 1 (nI s.size)) := by
  have hc := cut_bytes s 1 s.size
  have e : cutOf s 1 (nI s.size) = cutOf s ((1 : Nat) : Int) ((s.size : Nat) : Int) := rfl
  rw [e, hc]
  have hl := bytes_len s
  cases hb : bytesOfStr s with
  | nil => rw [hb] at hl; simp at hl; omega
  | cons x r =>
    have hx : byteAt s 0 = x := by
      unfold byteAt
      unfold bytesOfStr at hb
      cases hd : s.data.toList with
      | nil => rw [hd] at hb; simp at hb
      | cons y q => rw [hd] at hb; simp at hb; simp [hb.1]
    rw [hx, List.drop_one, List.tail_cons, List.take_of_length_le]
    rw [hb] at hl
    simp at hl
    omega
theorem piece_sound {s : ByteArray} (h : (pieceS s).2.2 = true) : bytesOfStr s = nI (pieceS s).1.size :: (bytesOfStr (pieceS s).1 ++ bytesOfStr (pieceS s).2.1) := by
  unfold pieceS at h ⊢
  split at h
  · cases h
  · rename_i hc
    rw [if_neg hc]
    obtain ⟨b0, b1⟩ := byteAt_in s 0
    have h0 : 0 < s.size := by omega
    rw [bo_head h0]
    obtain ⟨n, hn⟩ : ∃ n : Nat, byteAt s 0 = (n : Int) := ⟨(byteAt s 0).toNat, by omega⟩
    have e1 : (cutOf s 1 (1 + byteAt s 0)).size = n := by rw [cutOf_size (by omega) (by omega) (by omega)]; omega
    simp only [e1]
    rw [hn]
    congr 1
    have q1 : cutOf s 1 (nI s.size) = cutOf s ((1 : Nat) : Int) ((s.size : Nat) : Int) := rfl
    have q2 : cutOf s 1 (1 + (n : Int)) = cutOf s ((1 : Nat) : Int) ((1 + n : Nat) : Int) := by rw [show (1 + (n : Int)) = ((1 + n : Nat) : Int) by omega] <;> rfl
    have q3 : cutOf s (1 + (n : Int)) (nI s.size) = cutOf s ((1 + n : Nat) : Int) ((s.size : Nat) : Int) := by rw [show (1 + (n : Int)) = ((1 + n : Nat) : Int) by omega] <;> rfl
    rw [q1, q2, q3, cut_bytes, cut_bytes, cut_bytes]
    have hl := bytes_len s
    rw [List.take_of_length_le (by rw [List.length_drop]; omega), show 1 + n - 1 = n by omega, List.take_of_length_le (l := List.drop (1 + n) (bytesOfStr s)) (by rw [List.length_drop]; omega), ← List.drop_drop]
    exact (List.take_append_drop n _).symm
theorem piece_complete {s k t : ByteArray} (hk : k.size < 256) (h : bytesOfStr s = nI k.size :: (bytesOfStr k ++ bytesOfStr t)) : pieceS s = (k, t, true) := by
  have hl := bytes_len s
  have hlk := bytes_len k
  have hlt := bytes_len t
  rw [h, List.length_cons, List.length_append, hlk, hlt] at hl
  have h0 : 0 < s.size := by omega
  have hh := bo_head h0
  rw [h] at hh
  have hb : byteAt s 0 = nI k.size := (List.cons.inj hh).1.symm
  have ht := (List.cons.inj hh).2
  unfold pieceS
  rw [hb, if_neg (by simp only [nI]; omega)]
  have q1 : cutOf s 1 (1 + nI k.size) = cutOf s ((1 : Nat) : Int) ((1 + k.size : Nat) : Int) := by rw [show (1 + nI k.size) = ((1 + k.size : Nat) : Int) by simp only [nI]; omega] <;> rfl
  have q2 : cutOf s (1 + nI k.size) (nI s.size) = cutOf s ((1 + k.size : Nat) : Int) ((s.size : Nat) : Int) := by rw [show (1 + nI k.size) = ((1 + k.size : Nat) : Int) by simp only [nI]; omega] <;> rfl
  have hd : (bytesOfStr s).drop 1 = bytesOfStr k ++ bytesOfStr t := by rw [h]; rfl
  have e1 : cutOf s 1 (1 + nI k.size) = k := by
    apply bo_inj
    rw [q1, cut_bytes, hd, show 1 + k.size - 1 = k.size by omega, List.take_append_of_le_length (by omega), List.take_of_length_le (by omega)]
  have e2 : cutOf s (1 + nI k.size) (nI s.size) = t := by
    apply bo_inj
    rw [q2, cut_bytes, ← List.drop_drop, hd, List.drop_append_of_le_length (by omega), List.drop_of_length_le (by omega), List.nil_append, List.take_of_length_le (by omega)]
  rw [e1, e2]
theorem step_sound {s : ByteArray} (h0 : 0 < s.size) {c : Chg} {t : ByteArray} (h : stepB true s = some (c, t)) : bytesOfStr s = chgL c ++ bytesOfStr t := by
  unfold stepB at h
  rw [bo_head h0]
  obtain ⟨b0, b1⟩ := byteAt_in s 0
  by_cases g1 : byteAt s 0 > 1
  · rw [decide_eq_true g1] at h; cases h
  · rw [decide_eq_false g1] at h
    have hp := @piece_sound (cutOf s 1 (nI s.size))
    generalize pieceS (cutOf s 1 (nI s.size)) = p at *
    obtain ⟨k, u, o⟩ := p
    cases o
    · cases h
    · rw [hp rfl]
      by_cases g2 : byteAt s 0 = 1
      · rw [g2] at h ⊢
        cases h
        simp [chgL]
      · have g3 : byteAt s 0 = 0 := by omega
        rw [g3] at h ⊢
        have hq := @piece_sound u
        have h : (bif !(pieceS u).2.2 then none else some ((k, (pieceS u).1, false, ()), (pieceS u).2.1)) = some (c, t) := h
        generalize pieceS u = q at *
        obtain ⟨v, w, o⟩ := q
        cases o
        · cases h
        · cases h
          have := hq rfl
          simp only at this ⊢
          rw [this]
          simp [chgL]
theorem step_complete {s : ByteArray} {c : Chg} {t : ByteArray} (hc : okChg c = true) (h : bytesOfStr s = chgL c ++ bytesOfStr t) (b : Bool) : 0 < s.size ∧ stepB b s = some (c, t) := by
  obtain ⟨k1, k2, k3⟩ := okChg_len hc
  obtain ⟨k, v, g, u⟩ := c
  have hl := bytes_len s
  have h0 : 0 < s.size := by
    rw [h, List.length_append] at hl
    unfold chgL at hl
    cases g <;> simp at hl <;> omega
  refine ⟨h0, ?_⟩
  have hh := bo_head h0
  rw [h] at hh
  unfold stepB
  cases g
  · have e : chgL (k, v, false, u) ++ bytesOfStr t = 0 :: (nI k.size :: (bytesOfStr k ++ (nI v.size :: (bytesOfStr v ++ bytesOfStr t)))) := by simp [chgL]
    rw [e] at hh
    have hb : byteAt s 0 = 0 := (List.cons.inj hh).1.symm
    have ht := (List.cons.inj hh).2.symm
    have a2 := one_all v.size (by have : v.size ≤ 100 := k3; omega)
    have ev : bytesOfStr (strOfNums (nI v.size :: (bytesOfStr v ++ bytesOfStr t))) = nI v.size :: (bytesOfStr v ++ bytesOfStr t) := bytes_nums _ (by
      rw [show nI v.size :: (bytesOfStr v ++ bytesOfStr t) = [nI v.size] ++ (bytesOfStr v ++ bytesOfStr t) from rfl, allBytes_app, allBytes_app, a2, bytes_all, bytes_all]; rfl)
    have p1 := piece_complete (s := cutOf s 1 (nI s.size)) (k := k) (t := strOfNums (nI v.size :: (bytesOfStr v ++ bytesOfStr t))) (by have : k.size ≤ 20 := k2; omega) (by rw [ev]; exact ht)
    have p2 := piece_complete (s := strOfNums (nI v.size :: (bytesOfStr v ++ bytesOfStr t))) (k := v) (t := t) (by have : v.size ≤ 100 := k3; omega) ev
    rw [p1, hb]
    show (bif b && false then none else (bif !(pieceS (strOfNums (nI v.size :: (bytesOfStr v ++ bytesOfStr t)))).2.2 then none else some ((k, (pieceS (strOfNums (nI v.size :: (bytesOfStr v ++ bytesOfStr t)))).1, false, ()), (pieceS (strOfNums (nI v.size :: (bytesOfStr v ++ bytesOfStr t)))).2.1))) = _
    rw [p2, Bool.and_false]
    rfl
  · have hv : v = ByteArray.mk #[] := by
      obtain ⟨_, h2⟩ := and2 hc
      obtain ⟨_, h2⟩ := and2 h2
      have h2 : (!(true && !(v.toList == []))) = true := h2
      have h3 : (v.toList == []) = true := by cases hq : (v.toList == []) <;> rw [hq] at h2 <;> first | rfl | cases h2
      have h3 := eq_of_beq h3
      rw [ByteArray.toList_eq] at h3
      apply ByteArray.ext
      exact Array.ext' h3
    subst hv
    have e : chgL (k, ByteArray.mk #[], true, u) ++ bytesOfStr t = 1 :: (nI k.size :: (bytesOfStr k ++ bytesOfStr t)) := by simp [chgL]
    rw [e] at hh
    have hb : byteAt s 0 = 1 := (List.cons.inj hh).1.symm
    have ht := (List.cons.inj hh).2.symm
    have p1 := piece_complete (s := cutOf s 1 (nI s.size)) (k := k) (t := t) (by have : k.size ≤ 20 := k2; omega) ht
    rw [p1, hb]
    cases b <;> rfl
theorem parse_sound : ∀ (f : Nat) (r : List Chg) (s : ByteArray) {b : List Chg} {t : ByteArray}, parseB true f r s = some (b, t) → ∃ cs, b = r ++ cs ∧ bytesOfStr s = batchL cs ++ bytesOfStr t
  | 0, r, s, b, t, h => by
    cases h
    exact ⟨[], by simp, by simp [batchL]⟩
  | f + 1, r, s, b, t, h => by
    unfold parseB at h
    by_cases q : (decide (s.size > 0) && decide (r.length ≤ 20)) = true
    · rw [q] at h
      have h0 := of_decide_eq_true (and2 q).1
      cases hs : stepB true s with
      | none => rw [hs] at h; cases h
      | some ct =>
        obtain ⟨c, u⟩ := ct
        rw [hs] at h
        obtain ⟨cs, e1, e2⟩ := parse_sound f (r ++ [c]) u h
        refine ⟨c :: cs, by rw [e1, List.append_assoc]; rfl, ?_⟩
        rw [step_sound h0 hs, e2]
        simp [batchL]
    · rw [Bool.eq_false_iff.2 q] at h
      cases h
      exact ⟨[], by simp, by simp [batchL]⟩
theorem parse_complete (strict : Bool) : ∀ (cs : List Chg) (f : Nat) (r : List Chg) (s : ByteArray), cs.length < f → r.length + cs.length ≤ 20 → (∀ c ∈ cs, okChg c = true) → bytesOfStr s = batchL cs → parseB strict f r s = some (r ++ cs, ByteArray.mk #[])
  | [], f + 1, r, s, _, _, _, h => by
    have hz := bo_nil (s := s) h
    subst hz
    rw [List.append_nil]
    rfl
  | c :: cs, f + 1, r, s, hf, hr, hok, h => by
    have hb : bytesOfStr (strOfNums (batchL cs)) = batchL cs := bytes_nums _ (List.all_eq_true.2 fun x hx => by
      obtain ⟨l, hl, hx⟩ := List.mem_flatten.1 hx
      obtain ⟨d, hd, rfl⟩ := List.mem_map.1 hl
      exact List.all_eq_true.1 (okChg_bytes (hok d (List.mem_cons_of_mem _ hd))).1 x hx)
    obtain ⟨h0, hs⟩ := step_complete (s := s) (c := c) (t := strOfNums (batchL cs)) (hok c (by simp)) (by rw [hb, h]; rfl) strict
    unfold parseB
    rw [hs, decide_eq_true (show s.size > 0 from h0), decide_eq_true (show r.length ≤ 20 by rw [List.length_cons] at hr; omega)]
    have ih := parse_complete strict cs f (r ++ [c]) (strOfNums (batchL cs)) (by rw [List.length_cons] at hf; omega) (by rw [List.length_append, List.length_singleton]; rw [List.length_cons] at hr; omega) (fun d hd => hok d (List.mem_cons_of_mem _ hd)) hb
    rw [List.append_assoc] at ih
    exact ih
theorem nums_bytes (s : ByteArray) : strOfNums (bytesOfStr s) = s := bo_inj (bytes_nums _ (bytes_all s))
theorem batch_all {b : List Chg} (h : ∀ c ∈ b, okChg c = true) : allBytes (batchL b) = true := List.all_eq_true.2 fun x hx => by
  obtain ⟨l, hl, hx⟩ := List.mem_flatten.1 hx
  obtain ⟨d, hd, rfl⟩ := List.mem_map.1 hl
  exact List.all_eq_true.1 (okChg_bytes (h d hd)).1 x hx
theorem valid_mem {b : List Chg} (h : validBatch b = true) : 1 ≤ b.length ∧ b.length ≤ 20 ∧ ∀ c ∈ b, okChg c = true := by
  obtain ⟨h1, h2⟩ := validBatch_at h
  refine ⟨by have := (inB_r (and2 h).1).1; omega, h1, all_getD (z := zC) (P := fun c => okChg c = true) h2⟩
/-- What both answers come to. -/
theorem read_ok {s : ByteArray} {b : List Chg} (hv : validBatch b = true) (hs : bytesOfStr s = batchL b) : readB s = (b, true) ∧ readL s = (b, true) := by
  obtain ⟨h1, h2, h3⟩ := valid_mem hv
  have p1 := parse_complete true b 22 [] s (by omega) (by simpa using h2) h3 hs
  have p2 := parse_complete false b 22 [] s (by omega) (by simpa using h2) h3 hs
  have hf : formB b = s := by
    unfold formB
    rw [hv, ← hs, cond_true, nums_bytes]
  have hz : (s.size == 0) = false := by
    refine beq_eq_false_iff_ne.2 fun q => ?_
    cases b with
    | nil => simp at h1
    | cons c r =>
      have := bytes_len s
      rw [q, hs] at this
      unfold batchL chgL at this
      cases hg : c.2.2.1 <;> simp [hg] at this
  unfold readB readL
  rw [p1, p2]
  simp only [List.nil_append]
  rw [hv, hf, hz, beq_self_eq_true]
  exact ⟨rfl, rfl⟩
theorem read_no {s : ByteArray} (h : ∀ b, validBatch b = true → bytesOfStr s ≠ batchL b) : readB s = ([], false) ∧ readL s = ([], false) := by
  constructor
  · unfold readB
    cases hp : parseB true 22 [] s with
    | none => rfl
    | some bt =>
      obtain ⟨b, t⟩ := bt
      simp only
      obtain ⟨cs, e1, e2⟩ := parse_sound 22 [] s hp
      rw [List.nil_append] at e1
      subst e1
      by_cases ht : t.size > 0
      · rw [decide_eq_true ht]; rfl
      · cases hv : validBatch b with
        | false => rw [Bool.not_false, Bool.or_true]; rfl
        | true =>
          have h0 : bytesOfStr t = [] := List.length_eq_zero_iff.1 (by rw [bytes_len]; omega)
          rw [h0, List.append_nil] at e2
          exact absurd e2 (h b hv)
  · unfold readL
    cases hp : parseB false 22 [] s with
    | none => rfl
    | some bt =>
      obtain ⟨b, t⟩ := bt
      simp only
      by_cases hz : s.size = 0
      · rw [hz]; rfl
      · rw [beq_eq_false_iff_ne.2 hz, Bool.false_or]
        cases he : ((formB b).toList == s.toList) with
        | false => rfl
        | true =>
          have e := tl_eq he
          cases hv : validBatch b with
          | false =>
            unfold formB at e
            rw [hv] at e
            subst e
            exact absurd rfl hz
          | true =>
            unfold formB at e
            rw [hv] at e
            have e : strOfNums (batchL b) = s := e
            have := congrArg bytesOfStr e
            rw [bytes_nums _ (batch_all (valid_mem hv).2.2)] at this
            exact absurd this.symm (h b hv)
theorem read_same (s : ByteArray) : readL s = readB s := by
  by_cases h : ∃ b, validBatch b = true ∧ bytesOfStr s = batchL b
  · obtain ⟨b, h1, h2⟩ := h
    rw [(read_ok h1 h2).1, (read_ok h1 h2).2]
  · have h' : ∀ b, validBatch b = true → bytesOfStr s ≠ batchL b := fun b h1 h2 => h ⟨b, h1, h2⟩
    rw [(read_no h').1, (read_no h').2]
abbrev tCh : Ty := .pair .str (.pair .str (.pair .bool .unit))
theorem readB_good (s : ByteArray) : goodB (.sl tCh) (readB s).1 = true := by
  by_cases h : ∃ b, validBatch b = true ∧ bytesOfStr s = batchL b
  · obtain ⟨b, h1, h2⟩ := h
    rw [(read_ok h1 h2).1]
    obtain ⟨q1, q2, q3⟩ := valid_mem h1
    show (decide (b.length ≤ 1073741824) && List.all b (goodB tCh)) = true
    rw [decide_eq_true (by omega), Bool.true_and]
    refine List.all_eq_true.2 fun c hc => ?_
    obtain ⟨k1, k2, k3⟩ := okChg_len (q3 c hc)
    show (decide (c.1.size ≤ 1073741824) && (decide (c.2.1.size ≤ 1073741824) && (true && true))) = true
    rw [decide_eq_true (by omega), decide_eq_true (by omega)]
    rfl
  · have h' : ∀ b, validBatch b = true → bytesOfStr s ≠ batchL b := fun b h1 h2 => h ⟨b, h1, h2⟩
    rw [(read_no h').1]
    rfl
/-! ### Pages are read as they were formed -/
def numF (v b : Int) : Int := v * 256 + b
theorem byteAt_get (s : ByteArray) (i : Nat) : byteAt s i = (bytesOfStr s).getD i 0 := by
  unfold byteAt bytesOfStr
  simp only [Int.toNat_natCast, List.getD_eq_getElem?_getD, List.getElem?_map]
  cases s.data.toList[i]? <;> rfl
theorem numGo_eq (s : ByteArray) : ∀ k i v, i + k = s.size → numGo s k i v = ((bytesOfStr s).drop i).foldl numF v
  | 0, i, v, h => by rw [List.drop_of_length_le (by rw [bytes_len]; omega)]; rfl
  | k + 1, i, v, h => by
    rw [getD_drop (bytesOfStr s) i 0 (by rw [bytes_len]; omega), List.foldl_cons, ← byteAt_get]
    exact numGo_eq s k (i + 1) _ (by omega)
theorem numS_eq (s : ByteArray) : numS s = (bytesOfStr s).foldl numF 0 := by
  unfold numS
  rw [numGo_eq s s.size 0 0 (by omega), List.drop_zero]
theorem digL_num (v : Int) : ∀ (n : Nat) (l : List Int), l.length = n → allBytes l = true → digL (l.foldl numF v) n = l
  | 0, l, h, _ => by rw [List.length_eq_zero_iff.1 h]; rfl
  | n + 1, l, h, ha => by
    obtain ⟨q, b, rfl⟩ : ∃ q b, l = q ++ [b] := ⟨l.dropLast, l.getLast (by intro e; subst e; simp at h), (List.dropLast_concat_getLast _).symm⟩
    rw [allBytes_app] at ha
    obtain ⟨h1, h2⟩ := and2 ha
    have hb : 0 ≤ b ∧ b < 256 := by
      have := List.all_eq_true.1 h2 b (by simp)
      exact ⟨of_decide_eq_true (and2 this).1, of_decide_eq_true (and2 this).2⟩
    rw [List.foldl_append]
    simp only [List.foldl_cons, List.foldl_nil, digL]
    have e1 : numF (q.foldl numF v) b / 256 = q.foldl numF v := by unfold numF; omega
    have e2 : numF (q.foldl numF v) b % 256 = b := by unfold numF; omega
    rw [e1, e2, digL_num v n q (by simpa using h) h1]
theorem num_digL : ∀ (n : Nat) (v : Int), 0 ≤ v → v < 256 ^ n → (digL v n).foldl numF 0 = v
  | 0, v, h0, h1 => by
    have : v < 1 := h1
    show (0 : Int) = v
    omega
  | n + 1, v, h0, h1 => by
    have hp : (256 : Int) ^ (n + 1) = 256 ^ n * 256 := Int.pow_succ _ _
    simp only [digL, List.foldl_append, List.foldl_cons, List.foldl_nil]
    rw [num_digL n (v / 256) (by omega) (by omega)]
    unfold numF
    omega
theorem digL_all : ∀ (n : Nat) (v : Int), allBytes (digL v n) = true
  | 0, _ => rfl
  | n + 1, v => by
    simp only [digL, allBytes_app, digL_all n]
    show (true && ((decide (0 ≤ v % 256) && decide (v % 256 < 256)) && true)) = true
    rw [decide_eq_true (by omega), decide_eq_true (by omega)]
    rfl
theorem bytes_beS (v : Int) (n : Nat) : bytesOfStr (beS v n) = digL v n := bytes_nums _ (digL_all n v)
theorem numS_beS {v : Int} {n : Nat} (h0 : 0 ≤ v) (h1 : v < 256 ^ n) : numS (beS v n) = v := by rw [numS_eq, bytes_beS, num_digL n v h0 h1]
theorem beS_numS (s : ByteArray) : beS (numS s) s.size = s := by
  apply bo_inj
  rw [bytes_beS, numS_eq]
  exact digL_num 0 s.size _ (bytes_len s) (bytes_all s)
theorem zeros_all (n : Nat) : allBytes (List.replicate n 0) = true := List.all_eq_true.2 fun x hx => by
  rw [List.eq_of_mem_replicate hx]; rfl
theorem bytes_body (p : Pg) (w : Int) : bytesOfStr (bodyS p w) = digL p.1 1 ++ (digL p.2.1 2 ++ (digL p.2.2.1 4 ++ (digL p.2.2.2.1.size 1 ++ (bytesOfStr p.2.2.2.1 ++ List.replicate (56 - w - p.2.2.2.1.size).toNat 0)))) := by
  unfold bodyS
  rw [bytes_app, bytes_app, bytes_app, bytes_app, bytes_app, bytes_beS, bytes_beS, bytes_beS, bytes_beS, bytes_nums _ (zeros_all _)]
  simp only [List.append_assoc]
theorem body_size {p : Pg} {w : Int} (h : pageOk p w = true) : (bodyS p w).size = (64 - w).toNat := by
  obtain ⟨hw, k1, k2, kp⟩ := pageOk_w h
  rw [← bytes_len, bytes_body]
  simp only [List.length_append, digL_len, bytes_len, List.length_replicate]
  omega
theorem pageS_tail {p : Pg} {w : Int} (h : pageOk p w = true) : (pageS p w).size = 64 ∧ cutOf (pageS p w) w (nI (pageS p w).size) = bodyS p w := by
  obtain ⟨hw, k1, k2, kp⟩ := pageOk_w h
  have e : pageS p w = sumS (bodyS p w) w ++ bodyS p w := by unfold pageS; rw [h]; rfl
  have hs : (pageS p w).size = 64 := by rw [e, ByteArray.size_append, sumS_size hw, body_size h]; omega
  refine ⟨hs, ?_⟩
  obtain ⟨n, rfl⟩ : ∃ n : Nat, w = (n : Int) := ⟨w.toNat, by omega⟩
  apply bo_inj
  have q : cutOf (pageS p n) n (nI (pageS p n).size) = cutOf (pageS p n) (n : Nat) ((64 : Nat) : Int) := by rw [hs] <;> rfl
  rw [q, cut_bytes, e, bytes_app, List.drop_append_of_le_length (by rw [bytes_len, sumS_size hw]; omega), List.drop_of_length_le (by rw [bytes_len, sumS_size hw]; omega), List.nil_append, List.take_of_length_le (by rw [bytes_len, body_size h]; omega)]
theorem raw_body {p : Pg} {w : Int} (h : pageOk p w = true) : rawB (bodyS p w) = p := by
  obtain ⟨hw, k1, k2, kp⟩ := pageOk_w h
  obtain ⟨r1, r2, r3⟩ := pageOk_r h
  have hb := bytes_body p w
  have d1 : ∀ v : Int, digL v 1 = [v % 256] := fun v => rfl
  have d2 : ∀ v : Int, digL v 2 = [v / 256 % 256, v % 256] := fun v => rfl
  have d4 : ∀ v : Int, digL v 4 = [v / 256 / 256 / 256 % 256, v / 256 / 256 % 256, v / 256 % 256, v % 256] := fun v => rfl
  have b7 : byteAt (bodyS p w) 7 = p.2.2.2.1.size := by
    have := byteAt_get (bodyS p w) 7
    rw [hb, d1, d2, d4, d1] at this
    refine this.trans ?_
    show (p.2.2.2.1.size : Int) % 256 = _
    omega
  have b0 : byteAt (bodyS p w) 0 = p.1 := by
    have := byteAt_get (bodyS p w) 0
    rw [hb, d1] at this
    refine this.trans ?_
    show p.1 % 256 = _
    omega
  have c1 : cutOf (bodyS p w) 1 3 = beS p.2.1 2 := by
    apply bo_inj
    have := cut_bytes (bodyS p w) 1 3
    rw [hb, d1, d2, d4, d1] at this
    exact this.trans (by rw [bytes_beS, d2]; rfl)
  have c3 : cutOf (bodyS p w) 3 7 = beS p.2.2.1 4 := by
    apply bo_inj
    have := cut_bytes (bodyS p w) 3 7
    rw [hb, d1, d2, d4, d1] at this
    exact this.trans (by rw [bytes_beS, d4]; rfl)
  have c8 : cutOf (bodyS p w) 8 (8 + (p.2.2.2.1.size : Int)) = p.2.2.2.1 := by
    apply bo_inj
    have := cut_bytes (bodyS p w) 8 (8 + p.2.2.2.1.size)
    rw [hb, d1, d2, d4, d1] at this
    refine this.trans ?_
    show List.take (8 + p.2.2.2.1.size - 8) (bytesOfStr p.2.2.2.1 ++ _) = _
    rw [show 8 + p.2.2.2.1.size - 8 = p.2.2.2.1.size by omega, List.take_append_of_le_length (by rw [bytes_len]; omega), List.take_of_length_le (by rw [bytes_len]; omega)]
  have p2 : (256 : Int) ^ 2 = 65536 := by decide
  have p4 : (256 : Int) ^ 4 = 4294967296 := by decide
  unfold rawB
  rw [b7, b0, c1, c3, c8, numS_beS (by omega) (by omega), numS_beS (by omega) (by omega)]
/-- A page that is formed is read. -/
theorem read_page {p : Pg} {w : Int} (h : pageOk p w = true) : readP (pageS p w) w = (p, true) := by
  obtain ⟨hw, k1, k2, kp⟩ := pageOk_w h
  obtain ⟨hs, ht⟩ := pageS_tail h
  have hr := raw_body h
  have b7 : byteAt (bodyS p w) 7 = p.2.2.2.1.size := by
    have := byteAt_get (bodyS p w) 7
    rw [bytes_body] at this
    refine this.trans ?_
    show (p.2.2.2.1.size : Int) % 256 = _
    omega
  unfold readP rawP
  rw [ht, hr, hw, hs, b7, beq_self_eq_true, decide_eq_false (by omega)]
  rfl
theorem readP_form {s : ByteArray} {w : Int} {p : Pg} (h : readP s w = (p, true)) : s.size = 64 ∧ inB w 1 8 = true ∧ pageS p w = s ∧ pageOk p w = true := by
  unfold readP at h
  cases h1 : (nI s.size != 64) with
  | true => rw [h1] at h; cases h
  | false =>
    cases h2 : inB w 1 8 with
    | false => rw [h1, h2] at h; cases h
    | true =>
      cases h3 : decide (byteAt (cutOf s w (nI s.size)) 7 > 56 - w) with
      | true => rw [h1, h2, h3] at h; cases h
      | false =>
        cases h4 : ((pageS (rawP s w) w).toList == s.toList) with
        | false => rw [h1, h2, h3, h4] at h; cases h
        | true =>
          rw [h1, h2, h3, h4] at h
          have e : rawP s w = p := congrArg Prod.fst h
          rw [e] at h4
          have e2 := tl_eq h4
          have hs : s.size = 64 := by
            by_cases q : nI s.size = 64
            · simp only [nI] at q; omega
            · rw [(bne_iff_ne).2 q] at h1; cases h1
          refine ⟨hs, rfl, e2, ?_⟩
          cases hp : pageOk p w with
          | true => rfl
          | false =>
            unfold pageS at e2
            rw [hp] at e2
            subst e2
            cases hs
/-- What the reference asks of a root's sector, and what the program asks. -/
theorem root_same {s : ByteArray} {w : Int} {p : Pg} (h : readP s w = (p, true)) (h5 : p.2.2.2.1.size = 5) :
    ((rootS (rootOf p) w).toList == s.toList) = ((p.1 == 4) && rootOk (rootOf p)) := by
  obtain ⟨hs, hw, hf, hp⟩ := readP_form h
  cases hr : rootOk (rootOf p) with
  | false =>
    rw [Bool.and_false]
    cases q : ((rootS (rootOf p) w).toList == s.toList) with
    | false => rfl
    | true =>
      have e := tl_eq q
      unfold rootS at e
      rw [hr] at e
      subst e
      cases hs
  | true =>
    rw [Bool.and_true]
    have hpart : beS (rootOf p).2.1 1 ++ beS (rootOf p).2.2.1 4 = p.2.2.2.1 := by
      apply bo_inj
      have e4 : (cutOf p.2.2.2.1 1 (nI p.2.2.2.1.size)).size = 4 := by rw [cutOf_size (by omega) (by simp only [nI]; omega) (by simp [nI])]; simp only [nI, h5]; decide
      have e5 : beS (numS (cutOf p.2.2.2.1 1 (nI p.2.2.2.1.size))) 4 = cutOf p.2.2.2.1 1 (nI p.2.2.2.1.size) := by
        have := beS_numS (cutOf p.2.2.2.1 1 (nI p.2.2.2.1.size))
        rw [e4] at this
        exact this
      show bytesOfStr (beS (byteAt p.2.2.2.1 0) 1 ++ beS (numS (cutOf p.2.2.2.1 1 (nI p.2.2.2.1.size))) 4) = _
      obtain ⟨b0, b1⟩ := byteAt_in p.2.2.2.1 0
      rw [e5, bytes_app, bytes_beS, bo_head (s := p.2.2.2.1) (by omega)]
      show [byteAt p.2.2.2.1 0 % 256] ++ _ = _
      rw [show byteAt p.2.2.2.1 0 % 256 = byteAt p.2.2.2.1 0 by omega]
      rfl
    have hR : rootS (rootOf p) w = pageS (4, p.2.1, p.2.2.1, p.2.2.2.1, ()) w := by
      unfold rootS
      rw [hr, hpart]
      rfl
    rw [hR]
    by_cases hk : p.1 = 4
    · have e : ((4, p.2.1, p.2.2.1, p.2.2.2.1, ()) : Pg) = p := by rw [← hk]
      rw [e, hf, hk, beq_self_eq_true]
      rfl
    · rw [beq_eq_false_iff_ne.2 hk]
      cases q : ((pageS (4, p.2.1, p.2.2.1, p.2.2.2.1, ()) w).toList == s.toList) with
      | false => rfl
      | true =>
        have e := tl_eq q
        cases ho : pageOk (4, p.2.1, p.2.2.1, p.2.2.2.1, ()) w with
        | false =>
          unfold pageS at e
          rw [ho] at e
          subst e
          cases hs
        | true =>
          have r := read_page ho
          rw [e, h] at r
          exact absurd (congrArg (fun x : Pg × Bool => x.1.1) r) hk
theorem ceil_step {a n : Int} (hn : 0 < n) : (a + n - 1) / n = 1 + (a - n + n - 1) / n := by
  have : a + n - 1 = (a - n + n - 1) + n * 1 := by omega
  rw [this, Int.add_mul_ediv_left _ _ (by omega)]
  omega
theorem parts_len (n : Nat) (hn : 1 ≤ n) : ∀ (f : Nat) (s : ByteArray), s.size ≤ f → ((partsGo n f s).length : Int) = if ((s.size : Int) + n - 1) / n > 1 then ((s.size : Int) + n - 1) / n else 1
  | 0, s, h => by
    have h0 : s.size = 0 := by omega
    simp only [partsGo, h0]
    have : (((0 : Nat) : Int) + n - 1) / n = 0 := Int.ediv_eq_zero_of_lt (by omega) (by omega)
    exact (if_neg (by rw [this]; decide)).symm
  | f + 1, s, h => by
    by_cases q : s.size > n
    · have hc : (cutOf s n (nI s.size)).size = s.size - n := by rw [cutOf_size (by omega) (by simp only [nI]; omega) (by simp [nI])]; simp only [nI]; omega
      simp only [partsGo, if_pos q, List.length_cons]
      have ih := parts_len n hn f (cutOf s n (nI s.size)) (by omega)
      rw [hc] at ih
      have e := ceil_step (a := s.size) (n := n) (by omega)
      have e2 : ((s.size - n : Nat) : Int) = (s.size : Int) - n := by omega
      rw [e2] at ih
      have hp : 1 ≤ ((s.size : Int) - n + n - 1) / n := by
        rw [Int.le_ediv_iff_mul_le (by omega)]
        omega
      rw [e]
      generalize ((s.size : Int) - n + n - 1) / n = y at *
      rw [if_pos (by omega)]
      split at ih <;> omega
    · simp only [partsGo, if_neg q]
      have : ((s.size : Int) + n - 1) / n < 2 := by
        rw [Int.ediv_lt_iff_lt_mul (by omega)]
        omega
      exact (if_neg (by omega)).symm
/-- The parts, counted. -/
theorem pages_same {s : ByteArray} {w : Int} (hw : inB w 1 8 = true) : ((partsS s w).length : Int) = if ((s.size : Int) + (56 - w) - 1) / (56 - w) > 1 then ((s.size : Int) + (56 - w) - 1) / (56 - w) else 1 := by
  obtain ⟨h1, h2⟩ := inB_r hw
  obtain ⟨n, hn⟩ : ∃ n : Nat, 56 - w = (n : Int) := ⟨(56 - w).toNat, by omega⟩
  unfold partsS
  rw [hn, Int.toNat_natCast]
  exact parts_len n (by omega) s.size s (Nat.le_refl _)
theorem cutGo_range (life w : Int) : ∀ (L : List ByteArray) (k : Int), cutGo life w k L = (List.range' 0 L.length).map (fun i => pageS ((if i + 1 = L.length then 2 else 1), life, k + (i : Int), L.getD i z0, ()) w)
  | [], k => rfl
  | [p], k => by
    show [pageS (2, life, k, p, ()) w] = [pageS ((if 0 + 1 = 1 then 2 else 1), life, k + ((0 : Nat) : Int), p, ()) w]
    rw [if_pos rfl, show k + ((0 : Nat) : Int) = k by omega]
  | p :: q :: r, k => by
    have ih := cutGo_range life w (q :: r) (k + 1)
    show pageS (1, life, k, p, ()) w :: cutGo life w (k + 1) (q :: r) = (List.range' 0 ((q :: r).length + 1)).map (fun i => pageS ((if i + 1 = (q :: r).length + 1 then 2 else 1), life, k + (i : Int), (p :: q :: r).getD i z0, ()) w)
    rw [ih, List.range'_succ, List.map_cons]
    congr 1
    · rw [if_neg (by rw [List.length_cons]; omega), show k + ((0 : Nat) : Int) = k by omega]
      rfl
    · rw [show List.range' (0 + 1) (q :: r).length = List.map (fun x => 1 + x) (List.range' 0 (q :: r).length) by rw [List.map_add_range'], List.map_map]
      refine List.map_congr_left fun i _ => ?_
      show _ = pageS ((if 1 + i + 1 = (q :: r).length + 1 then 2 else 1), life, k + ((1 + i : Nat) : Int), (p :: q :: r).getD (1 + i) z0, ()) w
      rw [show k + ((1 + i : Nat) : Int) = k + 1 + (i : Int) by omega, show 1 + i = i + 1 by omega]
      by_cases e : i + 1 = (q :: r).length
      · rw [if_pos e, if_pos (by omega)]; rfl
      · rw [if_neg e, if_neg (by omega)]; rfl
theorem iter_catI {β : Type} (g : Nat → β) : ∀ k i (r : List β), iter (fun i r => r ++ [g i]) k i r = r ++ (List.range' i k).map g
  | 0, i, r => by simp [iter]
  | k + 1, i, r => by
    simp only [iter]
    rw [iter_catI g k (i + 1), List.range'_succ, List.map_cons, List.append_assoc]
    rfl
theorem pageS_size (p : Pg) (w : Int) : (pageS p w).size ≤ 64 := by
  cases h : pageOk p w with
  | true => rw [(pageS_tail h).1]; exact Nat.le_refl _
  | false => unfold pageS; rw [h]; show (ByteArray.mk #[]).size ≤ 64; decide
theorem cutGo_good (life w : Int) : ∀ (L : List ByteArray) (k : Int), (cutGo life w k L).length = L.length ∧ ∀ x ∈ cutGo life w k L, x.size ≤ 64 := by
  intro L k
  rw [cutGo_range]
  refine ⟨by simp, fun x hx => ?_⟩
  obtain ⟨i, _, rfl⟩ := List.mem_map.1 hx
  exact pageS_size _ _
theorem DiskOk.sync {d : Dk} (h : DiskOk d) : DiskOk (syncD d) := by
  have hl := syncS_length d.1 d.2.1
  have hs : SecOk d.1.length (syncS d.1 d.2.1) := foldI_inv (SecOk d.1.length) _ d.2.1 0 d.1 (fun i s w hw hI => hI.set (all_getD (z := zW) (P := fun w : Wr => w.2.1.size = 64) (fun i hi => (h.pen i hi).2.2) w hw)) ⟨rfl, h.sec⟩
  exact ⟨by show 8 ≤ (syncS d.1 d.2.1).length; rw [hl]; exact h.n8, by show (syncS d.1 d.2.1).length ≤ 200; rw [hl]; exact h.n200, by show (0 : Nat) ≤ 300; omega, fun i hi => hs.2 i (by rw [← hl]; exact hi), fun i hi => absurd hi (by show ¬ i < 0; omega)⟩
theorem DiskOk.op {d : Dk} (h : DiskOk d) (o : Opn) : DiskOk (opS d o) := by
  unfold opS
  cases o.1 with
  | true => exact h.sync
  | false =>
    cases hc : okWr d.1.length (o.2.1, o.2.2.1, ()) && decide (d.2.1.length < 300) with
    | false => exact h
    | true =>
      obtain ⟨h1, h2⟩ := and2 hc
      obtain ⟨q1, q2⟩ := and2 h1
      obtain ⟨q2, q3⟩ := and2 q2
      have h2 := of_decide_eq_true h2
      refine ⟨h.n8, h.n200, by show (d.2.1 ++ [(o.2.1, o.2.2.1, ())]).length ≤ 300; rw [List.length_append, List.length_singleton]; omega, h.sec, fun i hi => ?_⟩
      have hi : i < d.2.1.length + 1 := by
        have hi : i < (d.2.1 ++ [(o.2.1, o.2.2.1, ())]).length := hi
        rw [List.length_append, List.length_singleton] at hi
        exact hi
      show 0 ≤ ((d.2.1 ++ [(o.2.1, o.2.2.1, ())]).getD i zW).1 ∧ ((d.2.1 ++ [(o.2.1, o.2.2.1, ())]).getD i zW).1 < (d.1.length : Int) ∧ ((d.2.1 ++ [(o.2.1, o.2.2.1, ())]).getD i zW).2.1.size = 64
      by_cases e : i < d.2.1.length
      · have : (d.2.1 ++ [(o.2.1, o.2.2.1, ())]).getD i zW = d.2.1.getD i zW := by
          rw [List.getD_eq_getElem?_getD, List.getElem?_append_left e, ← List.getD_eq_getElem?_getD]
        rw [this]
        exact h.pen i e
      · obtain rfl : i = d.2.1.length := by omega
        have : (d.2.1 ++ [(o.2.1, o.2.2.1, ())]).getD d.2.1.length zW = (o.2.1, o.2.2.1, ()) := by
          rw [List.getD_eq_getElem?_getD, List.getElem?_append_right (Nat.le_refl _), Nat.sub_self]
          rfl
        rw [this]
        exact ⟨of_decide_eq_true q1, of_decide_eq_true q2, of_decide_eq_true q3⟩
theorem DiskOk.ops : ∀ (l : List Opn) {d : Dk}, DiskOk d → DiskOk (l.foldl opS d)
  | [], _, h => h
  | o :: r, _, h => DiskOk.ops r (h.op o)
theorem DiskOk.good {d : Dk} (h : DiskOk d) : goodB tDk d = true := by
  show ((decide (d.1.length ≤ 1073741824) && List.all d.1 (fun x => decide (ByteArray.size x ≤ 1073741824))) && ((decide (d.2.1.length ≤ 1073741824) && List.all d.2.1 (fun w => true && (decide (ByteArray.size w.2.1 ≤ 1073741824) && true))) && true)) = true
  have h1 : List.all d.1 (fun x => decide (ByteArray.size x ≤ 1073741824)) = true := List.all_eq_true.2 (all_getD (z := z0) fun i hi => decide_eq_true (by rw [h.sec i hi]; decide))
  have h2 : List.all d.2.1 (fun w => true && (decide (ByteArray.size w.2.1 ≤ 1073741824) && true)) = true := List.all_eq_true.2 (all_getD (z := zW) fun i hi => by rw [(h.pen i hi).2.2]; rfl)
  rw [h1, h2, decide_eq_true (by have := h.n200; omega), decide_eq_true (by have := h.p300; omega)]
  rfl
theorem performS_good (d : Dk) (ops : List Opn) (n : Int) : goodB tDk (performS d ops n) = true := by
  unfold performS
  cases hv : validDisk d with
  | false => rfl
  | true => exact ((disk_ok hv).ops _).good
theorem parts_count (n : Nat) : ∀ (f : Nat) (s : ByteArray), (partsGo n f s).length ≤ f + 1
  | 0, s => by simp [partsGo]
  | f + 1, s => by
    unfold partsGo
    split
    · rw [List.length_cons]
      have := parts_count n f (cutOf s n (nI s.size))
      omega
    · simp
theorem cutS_good {e : ByteArray} {life first w : Int} (h : e.size ≤ 1048576) : goodB (.sl .str) (cutS e life first w) = true := by
  unfold cutS
  cases inB w 1 8 && (inB life 1 60000 && (decide (1 ≤ first) && decide (first ≤ 1000000000 - pagesN e.size w + 1))) with
  | false => rfl
  | true =>
    obtain ⟨h1, h2⟩ := cutGo_good life w (partsS e w) first
    have h3 : (partsS e w).length ≤ e.size + 1 := parts_count _ _ _
    show (decide ((cutGo life w first (partsS e w)).length ≤ 1073741824) && List.all (cutGo life w first (partsS e w)) (fun x => decide (ByteArray.size x ≤ 1073741824))) = true
    rw [decide_eq_true (by rw [h1]; omega), Bool.true_and]
    exact List.all_eq_true.2 fun x hx => decide_eq_true (by have := h2 x hx; omega)
end Go.Proofs.Ytjoiklaecelalaa.V
