/- Plain facts, second part. No condition. -/
import Derived.Test.YtjoiklaecelalaaQBase
namespace Go.Proofs.Ytjoiklaecelalaa.V
open Go Go.Proofs.Ytjoiklaecelalaa.R
set_option linter.unusedVariables false
set_option linter.unusedSimpArgs false
theorem foldi_loop {α σ E : Type} {xs : List α} (z : α) (Inv : Nat → σ → Prop) (step : Nat → α → σ → σ) {g : Nat → Int → σ → Option E} {ok : σ → E}
    (hs : ∀ m (i : Nat) s, i < xs.length → Inv i s → g (m + 1) i s = g m ((i + 1 : Nat) : Int) (step i (xs.getD i z) s))
    (hi : ∀ i s, i < xs.length → Inv i s → Inv (i + 1) (step i (xs.getD i z) s))
    (he : ∀ m s, Inv xs.length s → g (m + 1) (xs.length : Int) s = some (ok s)) :
    ∀ (m i : Nat) s, i ≤ xs.length → xs.length - i < m → Inv i s → g m i s = some (ok (foldI step i (xs.drop i) s))
  | 0, i, s, _, hm, _ => by omega
  | m + 1, i, s, hl, hm, hI => by
    by_cases h : i < xs.length
    · rw [hs m i s h hI, foldi_loop z Inv step hs hi he m (i + 1) _ (by omega) (by omega) (hi i s h hI), getD_drop xs i z h]
      rfl
    · have : i = xs.length := by omega
      subst this
      rw [he _ _ hI, List.drop_length]
      rfl
/-! ### A state as batches -/
theorem lastIx (n : Nat) (h : n < 1099511627776) : IntKind.wrap IntKind.i64 (nI (n + 1) - 1) = (n : Int) := by
  simp only [nI]
  rw [wrap_ok (by omega) (by omega)]
  omega
theorem tmod20 (i : Nat) : (Int.tmod (i : Int) 20 == 0) = (i % 20 == 0) := by
  have : Int.tmod (i : Int) 20 = ((i % 20 : Nat) : Int) := by rw [Int.tmod_eq_emod_of_nonneg (by omega)]; omega
  rw [this]
  by_cases h : i % 20 = 0
  · rw [h]; rfl
  · rw [beq_eq_false_iff_ne.2 h]
    exact beq_eq_false_iff_ne.2 (by omega)
theorem appL_len {α : Type} (c : Bool) (xs : List α) (y : α) : (appL c xs y).length = xs.length + c.toNat := by cases c <;> simp [appL]
def SnapI (i : Nat) (s : List (List Chg) × Bool × List Chg) : Prop := i ≤ 100 ∧ s.1.length ≤ i ∧ (0 < i → s.2.1 = true) ∧ s.2.2.length ≤ i
theorem SnapI.step {i : Nat} {s : List (List Chg) × Bool × List Chg} (h : SnapI i s) (h1 : i < 100) (p : Pr2) : SnapI (i + 1) (snapStep i p s) := by
  obtain ⟨_, h2, h3, h4⟩ := h
  unfold snapStep
  cases hc : (i % 20 == 0)
  · have : 0 < i := Nat.pos_of_ne_zero fun q => by subst q; cases hc
    refine ⟨by omega, by simp only [cond_false]; omega, fun _ => h3 this, ?_⟩
    simp only [cond_false, List.length_append, List.length_singleton]
    omega
  · refine ⟨by omega, ?_, fun _ => rfl, by simp⟩
    simp only [cond_true]
    rw [appL_len]
    by_cases q : 0 < i
    · rw [h3 q]; simp; omega
    · cases s.2.1 <;> simp <;> omega
theorem validState_len {s : Stt} (h : validState s = true) : s.1.length ≤ 100 := of_decide_eq_true (and2 h).1
theorem pages_eq (s : ByteArray) (w : Int) : (bif inB w 1 8 then ((partsS s w).length : Int) else 0) = pagesN s.size w := by
  unfold pagesN
  cases hw : inB w 1 8 with
  | false => rfl
  | true => exact pages_same hw
theorem pagesN_in (n : Nat) (w : Int) : 0 ≤ pagesN n w ∧ pagesN n w ≤ (n : Int) + 1 := by
  unfold pagesN
  cases hw : inB w 1 8 with
  | false => exact ⟨Int.le_refl _, by simp only [cond_false]; omega⟩
  | true =>
    obtain ⟨h1, h2⟩ := inB_r hw
    simp only [cond_true]
    have hc : w = 1 ∨ w = 2 ∨ w = 3 ∨ w = 4 ∨ w = 5 ∨ w = 6 ∨ w = 7 ∨ w = 8 := by omega
    rcases hc with rfl | rfl | rfl | rfl | rfl | rfl | rfl | rfl <;> split <;> omega
theorem batchL_len {b : List Chg} (h : ∀ c ∈ b, okChg c = true) : (batchL b).length ≤ 200 * b.length := by
  induction b with
  | nil => simp [batchL]
  | cons c r ih =>
    have h1 := (okChg_bytes (h c (by simp))).2
    have h2 := ih fun c hc => h c (by simp [hc])
    have e : batchL (c :: r) = chgL c ++ batchL r := rfl
    rw [e, List.length_append, List.length_cons]
    omega
theorem formB_size (b : List Chg) : (formB b).size ≤ 4000 := by
  unfold formB
  cases hv : validBatch b with
  | false => exact Nat.zero_le _
  | true =>
    obtain ⟨_, h2, h3⟩ := valid_mem hv
    have := batchL_len h3
    show (strOfNums (batchL b)).size ≤ 4000
    rw [size_strOfNums]
    omega
theorem foldI_mem {α σ : Type} (z : α) (Inv : Nat → σ → Prop) (step : Nat → α → σ → σ) {xs : List α} (hi : ∀ i s, i < xs.length → Inv i s → Inv (i + 1) (step i (xs.getD i z) s)) :
    ∀ (k i : Nat) s, i + k = xs.length → Inv i s → Inv xs.length (foldI step i (xs.drop i) s)
  | 0, i, s, h, hI => by
    have : i = xs.length := by omega
    subst this
    rw [List.drop_length]
    exact hI
  | k + 1, i, s, h, hI => by
    rw [getD_drop xs i z (by omega)]
    exact foldI_mem z Inv step hi k (i + 1) _ (by omega) (hi i s (by omega) hI)
theorem snapS_len (s : Stt) : (snapS s).length ≤ 101 := by
  unfold snapS
  cases hv : validState s with
  | false => simp
  | true =>
    have hl := validState_len hv
    have := foldI_mem zP SnapI snapStep (xs := s.1) (fun i r hi hI => hI.step (by omega) _) s.1.length 0 ([], false, []) (by omega) ⟨by omega, by simp, fun q => by omega, by simp⟩
    simp only [cond_true]
    rw [appL_len]
    have h1 := this.2.1
    show (snapGo 0 s.1 ([], false, [])).1.length + _ ≤ 101
    have h2 : (snapGo 0 s.1 ([], false, [])).2.1.toNat ≤ 1 := by cases (snapGo 0 s.1 ([], false, [])).2.1 <;> decide
    have h3 : (snapGo 0 s.1 ([], false, [])).1.length ≤ s.1.length := h1
    omega
def roomS (s : Stt) (w : Int) : Int := bif inB w 1 8 then (((snapS s).map fun b => pagesN (formB b).size w).sum) else 0
theorem foldI_sum {α : Type} (f : α → Int) : ∀ (l : List α) (i : Nat) (a : Int), foldI (fun _ b a => a + f b) i l a = a + (l.map f).sum
  | [], _, a => by simp [foldI]
  | x :: r, i, a => by
    show foldI _ (i + 1) r (a + f x) = _
    rw [foldI_sum f r, List.map_cons, List.sum_cons]
    omega
theorem sum_zero {α : Type} (l : List α) : (l.map fun _ => (0 : Int)).sum = 0 := by
  induction l with
  | nil => rfl
  | cons x r ih => rw [List.map_cons, List.sum_cons, ih]; rfl
theorem room_all (s : Stt) (w : Int) : ((snapS s).map fun b => pagesN (formB b).size w).sum = roomS s w := by
  unfold roomS
  cases hw : inB w 1 8 with
  | true => rfl
  | false =>
    have : (fun b : List Chg => pagesN (formB b).size w) = fun _ => 0 := by funext b; unfold pagesN; rw [hw]; rfl
    rw [this, sum_zero]
    rfl
def SumI (i : Nat) (a : Int) : Prop := i ≤ 101 ∧ 0 ≤ a ∧ a ≤ 5000 * (i : Int)
theorem SumI.step {i : Nat} {a : Int} (h : SumI i a) (hi : i < 101) (b : List Chg) (w : Int) : SumI (i + 1) (a + pagesN (formB b).size w) := by
  have h1 := pagesN_in (formB b).size w
  have h2 := formB_size b
  obtain ⟨_, h3, h4⟩ := h
  exact ⟨by omega, by omega, by omega⟩
theorem pages_wrap {i : Nat} {a : Int} (h : SumI i a) (b : List Chg) (w : Int) : IntKind.wrap IntKind.i64 (a + pagesN (formB b).size w) = a + pagesN (formB b).size w := by
  have h1 := pagesN_in (formB b).size w
  have h2 := formB_size b
  obtain ⟨_, h3, h4⟩ := h
  exact wrap_ok (by omega) (by omega)
/-! ### Stores -/
def halvesN (n : Int) : Int := bif inB n 8 200 then (n - 2) / 2 else 0
theorem halves_code {n : Int} (h1 : 8 ≤ n) (h2 : n ≤ 200) : IntKind.wrap IntKind.i64 (Int.tdiv (IntKind.wrap IntKind.i64 (n - 2)) 2) = (n - 2) / 2 := by
  rw [wrap_ok (n := n - 2) (by omega) (by omega), Int.tdiv_eq_ediv_of_nonneg (by omega)]
  exact wrap_ok (by omega) (by omega)
theorem halves_in (n : Int) : 0 ≤ halvesN n ∧ halvesN n ≤ 99 := by
  unfold halvesN
  cases h : inB n 8 200 with
  | false => simp only [cond_false]; omega
  | true =>
    obtain ⟨h1, h2⟩ := inB_r h
    simp only [cond_true]
    omega
theorem halves_pos (n : Int) : decide (0 < halvesN n) = inB n 8 200 := by
  unfold halvesN
  cases h : inB n 8 200 with
  | false => rfl
  | true =>
    obtain ⟨h1, h2⟩ := inB_r h
    simp only [cond_true]
    exact decide_eq_true (by omega)
def validStore (s : Sto) : Bool := decide (0 < halvesN s.2.1) && (inB s.1 1 8 && (inB s.2.2.1 1 60000 && (inB s.2.2.2.1.1 0 1000000000 && (rootOk s.2.2.2.1 && (inB s.2.2.2.1.2.2.2.1 0 60000 && (inB s.2.2.2.2.1 0 (halvesN s.2.1) && (inB s.2.2.2.2.2.1 0 s.2.2.2.2.1 && (validState s.2.2.2.2.2.2.1 && decide (roomS s.2.2.2.2.2.2.1 s.1 ≤ halvesN s.2.1 - 1)))))))))
theorem andS (a b : Bool) : (bif a then some ((b, ()), ()) else some ((false, ()), ())) = (some ((a && b, ()), ()) : Option ((Bool × Unit) × Unit)) := by cases a <;> rfl
theorem andN (a b : Bool) : (bif !a then some ((false, ()), ()) else some ((b, ()), ())) = (some ((a && b, ()), ()) : Option ((Bool × Unit) × Unit)) := by cases a <;> rfl
theorem halves_wrap (n : Int) : IntKind.wrap IntKind.i64 (halvesN n - 1) = halvesN n - 1 := by
  have := halves_in n
  exact wrap_ok (by omega) (by omega)
theorem halves_zero (n : Int) (b : Bool) : (bif halvesN n == 0 then some ((false, ()), ()) else some ((b, ()), ())) = (some ((decide (0 < halvesN n) && b, ()), ()) : Option ((Bool × Unit) × Unit)) := by
  have := halves_in n
  by_cases h : halvesN n = 0
  · rw [h]; rfl
  · rw [beq_eq_false_iff_ne.2 h, decide_eq_true (by omega)]; rfl
def zSt : Sto := (0, 0, 0, (0, 0, 0, 0, ()), 0, 0, ([], ()), ())
def zDon (c : Int) : Don := (c, zSt, [], ())
def zOp : Opn := (false, 0, ⟨#[]⟩, ())
def syncO : Opn := (true, 0, ⟨#[]⟩, ())
def putO (at' : Int) (data : ByteArray) : Opn := (false, at', data, ())
def flushS (s : Sto) : Don := bif validStore s then (0, (s.1, s.2.1, s.2.2.1, s.2.2.2.1, s.2.2.2.2.1, 0, s.2.2.2.2.2.2.1, ()), [syncO], ()) else zDon 1
theorem storeOk {s : Sto} (h : validStore s = true) : inB s.2.1 8 200 = true ∧ inB s.1 1 8 = true ∧ validState s.2.2.2.2.2.2.1 = true ∧ (1 ≤ s.2.2.1 ∧ s.2.2.1 ≤ 60000) ∧ (0 ≤ s.2.2.2.1.1 ∧ s.2.2.2.1.1 ≤ 1000000000) ∧ rootOk s.2.2.2.1 = true ∧
    (0 ≤ s.2.2.2.1.2.2.2.1 ∧ s.2.2.2.1.2.2.2.1 ≤ 60000) ∧ (0 ≤ s.2.2.2.2.1 ∧ s.2.2.2.2.1 ≤ halvesN s.2.1) ∧ (0 ≤ s.2.2.2.2.2.1 ∧ s.2.2.2.2.2.1 ≤ s.2.2.2.2.1) ∧ roomS s.2.2.2.2.2.2.1 s.1 ≤ halvesN s.2.1 - 1 := by
  unfold validStore at h
  obtain ⟨h1, h⟩ := and2 h
  obtain ⟨h2, h⟩ := and2 h
  obtain ⟨h3, h⟩ := and2 h
  obtain ⟨h4, h⟩ := and2 h
  obtain ⟨h5, h⟩ := and2 h
  obtain ⟨h6, h⟩ := and2 h
  obtain ⟨h7, h⟩ := and2 h
  obtain ⟨h8, h⟩ := and2 h
  obtain ⟨h9, h⟩ := and2 h
  rw [halves_pos] at h1
  exact ⟨h1, h2, h9, inB_r h3, inB_r h4, h5, inB_r h6, inB_r h7, inB_r h8, of_decide_eq_true h⟩
abbrev tSt : Ty := .pair (.sl (.pair .str (.pair .str .unit))) .unit
abbrev tRt : Ty := .pair (.int .i64) (.pair (.int .i64) (.pair (.int .i64) (.pair (.int .i64) .unit)))
abbrev tSto : Ty := .pair (.int .i64) (.pair (.int .i64) (.pair (.int .i64) (.pair tRt (.pair (.int .i64) (.pair (.int .i64) (.pair tSt .unit))))))
abbrev tOp : Ty := .pair .bool (.pair (.int .i64) (.pair .str .unit))
abbrev tDon : Ty := .pair (.int .i64) (.pair tSto (.pair (.sl tOp) .unit))
theorem validState_pair {s : Stt} (h : validState s = true) : ∀ p ∈ s.1, 1 ≤ p.1.size ∧ p.1.size ≤ 20 ∧ p.2.1.size ≤ 100 := fun p hp => by
  obtain ⟨i, hi, rfl⟩ := mem_getD zP hp
  have := all_range (and2 h).2 i hi
  unfold okPairAt at this
  obtain ⟨h1, h2⟩ := and2 this
  obtain ⟨h2, _⟩ := and2 h2
  have h3 := inB_r h1
  exact ⟨by omega, by omega, of_decide_eq_true h2⟩
theorem state_good {s : Stt} (h : validState s = true) : goodB tSt s = true := by
  have hl := validState_len h
  show ((decide (s.1.length ≤ 1073741824) && List.all s.1 (goodB (.pair .str (.pair .str .unit)))) && true) = true
  rw [decide_eq_true (show s.1.length ≤ 1073741824 by omega), Bool.true_and, Bool.and_true]
  refine List.all_eq_true.2 fun p hp => ?_
  obtain ⟨_, h1, h2⟩ := validState_pair h p hp
  show (decide (p.1.size ≤ 1073741824) && (decide (p.2.1.size ≤ 1073741824) && true)) = true
  rw [decide_eq_true (show p.1.size ≤ 1073741824 by omega), decide_eq_true (show p.2.1.size ≤ 1073741824 by omega)]
  rfl
/-- A store's answer is small, where its state is. -/
theorem done_good {c w n l u o : Int} {r : Rt} {s : Stt} {ops : List Opn} (hs : goodB tSt s = true) (ho : goodB (.sl tOp) ops = true) : goodB tDon (c, (w, n, l, r, u, o, s, ()), ops, ()) = true := by
  show ((goodB tSt s && true) && (goodB (.sl tOp) ops && true)) = true
  rw [hs, ho]
  rfl
theorem flush_good (s : Sto) : goodB tDon (flushS s) = true := by
  unfold flushS
  cases hv : validStore s with
  | false => rfl
  | true => exact done_good (state_good (storeOk hv).2.2.1) rfl
/-! ### Scanning -/
/-- Kind and life of the page before, what is open, the entries, used, life. -/
abbrev ScT := Int × Int × ByteArray × List ByteArray × Int × Int
def goesK (wk wl : Int) (p : Pg) : Bool := bif decide (p.2.1 < wl) then false else bif p.1 == 3 then wk != 1 else bif p.1 == 1 || p.1 == 2 then wk != 1 || wl == p.2.1 else false
def scanNext (i : Int) (p : Pg) (s : ScT) : ScT :=
  bif p.1 == 1 then (1, p.2.1, s.2.2.1 ++ p.2.2.2.1, s.2.2.2.1, s.2.2.2.2.1, s.2.2.2.2.2)
  else bif p.1 == 2 then (2, p.2.1, z0, s.2.2.2.1 ++ [s.2.2.1 ++ p.2.2.2.1], i + 1, p.2.1)
  else (p.1, p.2.1, z0, s.2.2.2.1, i + 1, p.2.1)
def scanOut (s : ScT) : Scd := (s.2.2.2.1, s.2.2.2.2.1, s.2.2.2.2.2, ())
def scanOk (w first i : Int) (s : ScT) (x : ByteArray) : Bool := (readP x w).2 && (((readP x w).1.2.2.1 - i == first) && goesK s.1 s.2.1 (readP x w).1)
def scanGo (w first : Int) : List ByteArray → Int → ScT → Scd
  | [], _, s => scanOut s
  | x :: r, i, s => bif scanOk w first i s x then scanGo w first r (i + 1) (scanNext i (readP x w).1 s) else scanOut s
def seen (d : Dk) (a : Int) (k n : Nat) : List ByteArray := (List.range' k n).map fun k : Nat => seeD d (a + (k : Int))
def scanS (d : Dk) (from_ size first life w : Int) : Scd :=
  bif validDisk d && (inB w 1 8 && (decide (0 ≤ from_) && (decide (0 ≤ size) && (decide (from_ ≤ (d.1.length : Int)) && decide (size ≤ (d.1.length : Int) - from_))))) then scanGo w first (seen d from_ 0 size.toNat) 0 (0, life, z0, [], 0, life) else ([], 0, 0, ())
theorem see_sync {d : Dk} (hd : DiskOk d) {a : Int} {j : Nat} (hj : j < d.1.length) (ha : a = (j : Int) := by omega) : List.getD (syncS d.1 d.2.1) j (ByteArray.mk #[]) = seeD d a := by
  subst ha
  have := sync_get d.1 j hj d.2.1 (fun w hw => by
    obtain ⟨i, hi, rfl⟩ := mem_getD zW hw
    exact (hd.pen i hi).1)
  unfold seeD
  rw [Int.toNat_natCast]
  exact this
theorem page_in {x : ByteArray} {w : Int} {p : Pg} (h : readP x w = (p, true)) : (1 ≤ p.1 ∧ p.1 ≤ 4) ∧ (1 ≤ p.2.2.1 ∧ p.2.2.1 ≤ 1000000000) ∧ p.2.2.2.1.size ≤ 64 := by
  obtain ⟨_, _, _, h4⟩ := readP_form h
  obtain ⟨k1, _, k3⟩ := pageOk_r h4
  obtain ⟨_, w1, w2, k4⟩ := pageOk_w h4
  exact ⟨k1, k3, by omega⟩
def ScanI (i : Nat) (s : ScT) : Prop := i ≤ 200 ∧ s.2.2.1.size ≤ 64 * i ∧ s.2.2.2.1.length ≤ i
theorem ScanI.zero (a b c l : Int) : ScanI 0 (a, b, z0, [], c, l) := ⟨by omega, Nat.le_refl 0, Nat.le_refl 0⟩
theorem ScanI.next {i : Nat} {s : ScT} {p : Pg} (h : ScanI i s) (hi : i < 200) (hp : p.2.2.2.1.size ≤ 64) : ScanI (i + 1) (scanNext i p s) := by
  obtain ⟨_, h2, h3⟩ := h
  unfold scanNext
  cases (p.1 == 1)
  · cases (p.1 == 2)
    · exact ⟨by omega, Nat.zero_le _, by simp only [cond_false]; omega⟩
    · refine ⟨by omega, Nat.zero_le _, ?_⟩
      simp only [cond_false, cond_true, List.length_append, List.length_singleton]
      omega
  · refine ⟨by omega, ?_, by simp only [cond_true]; omega⟩
    simp only [cond_true, ByteArray.size_append]
    omega
abbrev tSc : Ty := .pair (.sl .str) (.pair (.int .i64) (.pair (.int .i64) .unit))
theorem texts_good {l : List ByteArray} {n : Nat} (h1 : l.length ≤ 1000000) (h2 : ∀ x ∈ l, x.size ≤ n) (hn : n ≤ 1000000) : goodB (.sl .str) l = true := by
  show (decide (l.length ≤ 1073741824) && List.all l (fun x => decide (ByteArray.size x ≤ 1073741824))) = true
  rw [decide_eq_true (by omega), Bool.true_and]
  exact List.all_eq_true.2 fun x hx => decide_eq_true (by have := h2 x hx; omega)
theorem scanGo_good (w first : Int) : ∀ (l : List ByteArray) (i : Nat) (st : ScT), i + l.length ≤ 200 → ScanI i st → (∀ x ∈ st.2.2.2.1, x.size ≤ 12864) → goodB tSc (scanGo w first l i st) = true
  | [], i, st, h, hI, he => by
    show (goodB (.sl .str) st.2.2.2.1 && true) = true
    rw [texts_good (by have := hI.2.2; omega) he (by decide)]
    rfl
  | x :: r, i, st, h, hI, he => by
    rw [List.length_cons] at h
    unfold scanGo
    cases hs : scanOk w first i st x with
    | false =>
      show (goodB (.sl .str) st.2.2.2.1 && true) = true
      rw [texts_good (by have := hI.2.2; omega) he (by decide)]
      rfl
    | true =>
      obtain ⟨hr, _⟩ := and2 hs
      obtain ⟨p, ok, hR⟩ : ∃ p ok, readP x w = (p, ok) := ⟨_, _, rfl⟩
      rw [hR] at hr
      have hr : ok = true := hr
      subst hr
      obtain ⟨_, _, q3⟩ := page_in hR
      rw [hR]
      have hN := hI.next (p := p) (by omega) q3
      refine scanGo_good w first r (i + 1) _ (by omega) hN fun y hy => ?_
      unfold scanNext at hy
      cases h1 : (p.1 == 1) with
      | true => rw [h1] at hy; exact he y hy
      | false =>
        rw [h1] at hy
        cases h2 : (p.1 == 2) with
        | false => rw [h2] at hy; exact he y hy
        | true =>
          rw [h2] at hy
          simp only [cond_false, cond_true, List.mem_append, List.mem_singleton] at hy
          rcases hy with hy | rfl
          · exact he y hy
          · rw [ByteArray.size_append]
            have := hI.2.1
            omega
theorem seen_len (d : Dk) (a : Int) (k n : Nat) : (seen d a k n).length = n := by simp [seen]
theorem scanS_good (d : Dk) (f n first life w : Int) : goodB tSc (scanS d f n first life w) = true := by
  unfold scanS
  cases hc : (validDisk d && (inB w 1 8 && (decide (0 ≤ f) && (decide (0 ≤ n) && (decide (f ≤ (d.1.length : Int)) && decide (n ≤ (d.1.length : Int) - f)))))) with
  | false => rfl
  | true =>
    obtain ⟨hv, h⟩ := and2 hc
    obtain ⟨_, h⟩ := and2 h
    obtain ⟨h1, h⟩ := and2 h
    obtain ⟨h2, h⟩ := and2 h
    obtain ⟨h3, h4⟩ := and2 h
    have h1 := of_decide_eq_true h1
    have h2 := of_decide_eq_true h2
    have h4 := of_decide_eq_true h4
    have := (disk_ok hv).n200
    exact scanGo_good w first _ 0 _ (by rw [seen_len]; omega) (ScanI.zero _ _ _ _) (fun x hx => by cases hx)
/-! ### Worlds -/
def noStore (s : Sto) : Bool := s.1 == 0 && (s.2.1 == 0 && (s.2.2.1 == 0 && ((s.2.2.2.1.1 == 0 && (s.2.2.2.1.2.1 == 0 && (s.2.2.2.1.2.2.1 == 0 && s.2.2.2.1.2.2.2.1 == 0))) && (s.2.2.2.2.1 == 0 && (s.2.2.2.2.2.1 == 0 && (nI s.2.2.2.2.2.2.1.1.length == 0))))))
def zSs : Stt := ([], ())
def storeFits (w : Wld) : Bool := bif w.2.2.1 then validStore w.2.2.2.1 && (w.2.2.2.1.1 == w.1 && w.2.2.2.1.2.1 == nI w.2.1.1.length) else noStore w.2.2.2.1
def pastOk (w : Wld) : Bool := (List.range' 0 w.2.2.2.2.1.length).all fun i => validState (w.2.2.2.2.1.getD i zSs)
def writtenOk (w : Wld) : Bool := (List.range' 0 w.2.2.2.2.2.1.length).all fun i => decide ((w.2.2.2.2.2.1.getD i z0).size = 64)
def validWorld (w : Wld) : Bool := inB w.1 1 8 && (validDisk w.2.1 && (inB w.2.2.2.2.1.length 1 200 && (decide (w.2.2.2.2.2.1.length ≤ 2000) && (storeFits w && (pastOk w && writtenOk w)))))
/-! ### A store is moved -/
theorem bindOf {α β : Type} {x : Option α} {y : α} {f : α → Option β} {z : Option β} (h : x = some y) (k : f y = z) : x.bind f = z := by rw [h]; exact k
def opsGo : Int → List ByteArray → List Opn
  | _, [] => []
  | a, x :: r => putO a x :: opsGo (a + 1) r
theorem opsGo_app (x : ByteArray) : ∀ (L : List ByteArray) (a : Int), opsGo a (L ++ [x]) = opsGo a L ++ [putO (a + (L.length : Int)) x]
  | [], a => by show [putO a x] = [putO (a + (0 : Int)) x]; rw [Int.add_zero]
  | y :: L, a => by
    show putO a y :: opsGo (a + 1) (L ++ [x]) = putO a y :: (opsGo (a + 1) L ++ [putO (a + ((L.length + 1 : Nat) : Int)) x])
    rw [opsGo_app x L (a + 1), show a + 1 + (L.length : Int) = a + ((L.length + 1 : Nat) : Int) by omega]
theorem opsGo_len : ∀ (L : List ByteArray) (a : Int), (opsGo a L).length = L.length
  | [], _ => rfl
  | _ :: L, a => by show (opsGo (a + 1) L).length + 1 = L.length + 1; rw [opsGo_len L]
theorem foldI_ops (a : Int) : ∀ (L : List ByteArray) (i : Nat) (r : List Opn), foldI (fun (i : Nat) x r => r ++ [putO (a + (i : Int)) x]) i L r = r ++ opsGo (a + (i : Int)) L
  | [], i, r => (List.append_nil r).symm
  | x :: L, i, r => by
    show foldI _ (i + 1) L (r ++ [putO (a + (i : Int)) x]) = _
    rw [foldI_ops a L (i + 1), List.append_assoc, show a + ((i + 1 : Nat) : Int) = a + (i : Int) + 1 by omega]
    rfl
theorem foldI_snoc {α : Type} : ∀ (L : List α) (i : Nat) (r : List α), foldI (fun (_ : Nat) x r => r ++ [x]) i L r = r ++ L
  | [], i, r => (List.append_nil r).symm
  | x :: L, i, r => by
    show foldI _ (i + 1) L (r ++ [x]) = _
    rw [foldI_snoc L (i + 1), List.append_assoc]
    rfl
def baseS (h n : Int) : Int := 2 + h * halvesN n
def rootN (s : Sto) (life : Int) : Rt := (s.2.2.2.1.1 + 1, 1 - s.2.2.2.1.2.1, s.2.2.2.1.2.2.1 + halvesN s.2.1, life, ())
def mvStep (w life first : Int) (b : List Chg) (L : List ByteArray) : List ByteArray := L ++ cutS (formB b) life (first + (L.length : Int)) w
def mvL (s : Sto) (life : Int) : List ByteArray := foldI (fun _ b L => mvStep s.1 life (s.2.2.2.1.2.2.1 + halvesN s.2.1) b L) 0 (snapS s.2.2.2.2.2.2.1) [pageS (3, life, s.2.2.2.1.2.2.1 + halvesN s.2.1, z0, ()) s.1]
def mvOps (s : Sto) (life : Int) : List Opn := opsGo (baseS (1 - s.2.2.2.1.2.1) s.2.1) (mvL s life) ++ [syncO, putO (Int.tmod (s.2.2.2.1.1 + 1) 2) (rootS (rootN s life) s.1), syncO]
def moveS (s : Sto) (life : Int) : Sto × List Opn × Bool :=
  bif decide (s.2.2.2.1.1 + 1 > 1000000000) then (zSt, [], false) else bif decide (s.2.2.2.1.2.2.1 + halvesN s.2.1 > 999999000) then (zSt, [], false) else
  ((s.1, s.2.1, life, rootN s life, nI (mvL s life).length, 0, s.2.2.2.2.2.2.1, ()), mvOps s life, true)
def moveOk (s : Sto) : Prop := (0 ≤ s.2.2.2.1.1 ∧ s.2.2.2.1.1 ≤ 1000000000) ∧ (0 ≤ s.2.2.2.1.2.1 ∧ s.2.2.2.1.2.1 ≤ 1) ∧ (0 ≤ s.2.2.2.1.2.2.1 ∧ s.2.2.2.1.2.2.1 ≤ 1000000000) ∧ s.2.2.2.2.2.2.1.1.length ≤ 1000000
instance (s : Sto) : Decidable (moveOk s) := by unfold moveOk; infer_instance
theorem cut_len (b : List Chg) (life f w : Int) : (cutS (formB b) life f w).length ≤ 4001 := by
  unfold cutS
  cases hw : inB w 1 8 with
  | false => simp
  | true =>
    cases hc : (true && (inB life 1 60000 && (decide (1 ≤ f) && decide (f ≤ 1000000000 - pagesN (formB b).size w + 1)))) with
    | false => simp
    | true =>
      simp only [cond_true]
      rw [cutGo_range, List.length_map, List.length_range']
      have h1 := pages_eq (formB b) w
      rw [hw, cond_true] at h1
      have h2 := (pagesN_in (formB b).size w).2
      have h3 := formB_size b
      omega
def MvI (i : Nat) (L : List ByteArray) : Prop := i ≤ 101 ∧ L.length ≤ 1 + 4001 * i
theorem MvI.step {i : Nat} {L : List ByteArray} (h : MvI i L) (hi : i < 101) (w life first : Int) (b : List Chg) : MvI (i + 1) (mvStep w life first b L) := by
  obtain ⟨h1, h2⟩ := h
  refine ⟨by omega, ?_⟩
  unfold mvStep
  have := cut_len b life (first + (L.length : Int)) w
  rw [List.length_append]
  omega
theorem mvL_len (s : Sto) (life : Int) : (mvL s life).length ≤ 500000 := by
  have h := foldI_mem ([] : List Chg) MvI (fun _ b L => mvStep s.1 life (s.2.2.2.1.2.2.1 + halvesN s.2.1) b L) (xs := snapS s.2.2.2.2.2.2.1) (fun i L hi hI => hI.step (Nat.lt_of_lt_of_le hi (snapS_len _)) _ _ _ _) (snapS s.2.2.2.2.2.2.1).length 0 [pageS (3, life, s.2.2.2.1.2.2.1 + halvesN s.2.1, z0, ()) s.1] (by omega) ⟨by omega, by simp⟩
  have h2 := snapS_len s.2.2.2.2.2.2.1
  have h3 := h.2
  have h4 : (mvL s life).length ≤ 1 + 4001 * (snapS s.2.2.2.2.2.2.1).length := h3
  omega
theorem move_tmod {t : Int} (h0 : 0 ≤ t) (h1 : t ≤ 1000000000) : IntKind.wrap IntKind.i64 (t + 1) = t + 1 := wrap_ok (by omega) (by omega)
def moveD (s : Sto) : Don := bif (moveS s s.2.2.1).2.2 then (0, (moveS s s.2.2.1).1, (moveS s s.2.2.1).2.1, ()) else zDon 4
theorem base_in {H n : Int} (hH : 0 ≤ H ∧ H ≤ 1) : 0 ≤ H * halvesN n ∧ H * halvesN n ≤ 99 := by
  have hh := halves_in n
  have : H = 0 ∨ H = 1 := by omega
  rcases this with rfl | rfl <;> omega
theorem storeMove {s : Sto} (h : validStore s = true) : moveOk s := by
  obtain ⟨_, _, h3, _, h5, h6, _⟩ := storeOk h
  obtain ⟨r1, r2⟩ := and2 h6
  have r1 := inB_r r1
  have r2 := inB_r r2
  have := validState_len h3
  exact ⟨h5, r1, ⟨by omega, by omega⟩, by omega⟩
def compactS (s : Sto) : Don := bif validStore s then moveD s else zDon 1
theorem opsGo_good : ∀ (L : List ByteArray) (a : Int), (∀ x ∈ L, x.size ≤ 64) → ∀ o ∈ opsGo a L, o.2.2.1.size ≤ 64
  | [], _, _, o, ho => by cases ho
  | x :: L, a, h, o, ho => by
    rcases List.mem_cons.1 ho with rfl | q
    · exact h x List.mem_cons_self
    · exact opsGo_good L (a + 1) (fun y hy => h y (List.mem_cons_of_mem _ hy)) o q
theorem op_good {o : Opn} (h : o.2.2.1.size ≤ 1073741824) : goodB tOp o = true := by
  show (true && (true && (decide (o.2.2.1.size ≤ 1073741824) && true))) = true
  rw [decide_eq_true h]
  rfl
theorem ops_good {L : List Opn} (h1 : L.length ≤ 1073741824) (h2 : ∀ o ∈ L, o.2.2.1.size ≤ 64) : goodB (.sl tOp) L = true := by
  show (decide (L.length ≤ 1073741824) && List.all L (goodB tOp)) = true
  rw [decide_eq_true h1, Bool.true_and]
  exact List.all_eq_true.2 fun o ho => op_good (Nat.le_trans (h2 o ho) (by decide))
theorem rootS_size (r : Rt) (w : Int) : (rootS r w).size ≤ 64 := by
  unfold rootS
  cases rootOk r with
  | false => exact Nat.zero_le _
  | true => exact pageS_size _ _
theorem cutS_size {e : ByteArray} {life f w : Int} {x : ByteArray} (h : x ∈ cutS e life f w) : x.size ≤ 64 := by
  unfold cutS at h
  cases hc : inB w 1 8 && (inB life 1 60000 && (decide (1 ≤ f) && decide (f ≤ 1000000000 - pagesN e.size w + 1))) with
  | false => rw [hc] at h; simp at h
  | true => rw [hc] at h; exact (cutGo_good _ _ _ _).2 x h
theorem mvL_size (s : Sto) (life : Int) : ∀ x ∈ mvL s life, x.size ≤ 64 := by
  have h := foldI_mem ([] : List Chg) (fun _ (L : List ByteArray) => ∀ x ∈ L, x.size ≤ 64) (fun _ b L => mvStep s.1 life (s.2.2.2.1.2.2.1 + halvesN s.2.1) b L) (xs := snapS s.2.2.2.2.2.2.1) (fun i L _ hI x hx => by
    unfold mvStep at hx
    rcases List.mem_append.1 hx with q | q
    · exact hI x q
    · exact cutS_size q) (snapS s.2.2.2.2.2.2.1).length 0 [pageS (3, life, s.2.2.2.1.2.2.1 + halvesN s.2.1, z0, ()) s.1] (by omega) (fun x hx => by rw [List.mem_singleton.1 hx]; exact pageS_size _ _)
  exact h
theorem mvOps_good (s : Sto) (life : Int) : goodB (.sl tOp) (mvOps s life) = true := by
  have hl := mvL_len s life
  have h1 : (mvOps s life).length = (mvL s life).length + 3 := by unfold mvOps; rw [List.length_append, opsGo_len]; rfl
  refine ops_good (by omega) fun o ho => ?_
  unfold mvOps at ho
  rcases List.mem_append.1 ho with q | q
  · exact opsGo_good _ _ (mvL_size s life) o q
  · simp only [List.mem_cons, List.not_mem_nil, or_false] at q
    rcases q with rfl | rfl | rfl
    · exact Nat.zero_le _
    · exact rootS_size _ _
    · exact Nat.zero_le _
theorem moveD_good {s : Sto} (h : goodB tSt s.2.2.2.2.2.2.1 = true) : goodB tDon (moveD s) = true := by
  unfold moveD moveS
  cases decide (s.2.2.2.1.1 + 1 > 1000000000) with
  | true => rfl
  | false =>
    cases decide (s.2.2.2.1.2.2.1 + halvesN s.2.1 > 999999000) with
    | true => rfl
    | false => exact done_good h (mvOps_good s s.2.2.1)
theorem compact_good (s : Sto) : goodB tDon (compactS s) = true := by
  unfold compactS
  cases hv : validStore s with
  | false => rfl
  | true => exact moveD_good (state_good (storeOk hv).2.2.1)
/-! ### What nobody wrote -/
theorem flag_loop {α E : Type} {xs : List α} (z : α) (p : α → Bool) {g : Nat → Bool → Int → Option E} {ok : Bool → E}
    (hs : ∀ m (i : Nat), i < xs.length → g (m + 1) true i = g m (p (xs.getD i z)) ((i + 1 : Nat) : Int)) (hf : ∀ m (i : Nat), i ≤ xs.length → g (m + 1) false i = some (ok false)) (he : ∀ m b, g (m + 1) b (xs.length : Int) = some (ok b)) :
    ∀ (m i : Nat) (b : Bool), i ≤ xs.length → xs.length - i < m → g m b i = some (ok (b && (xs.drop i).all p))
  | 0, i, b, _, hm => by omega
  | m + 1, i, false, hl, hm => by rw [hf m i hl]; rfl
  | m + 1, i, true, hl, hm => by
    by_cases h : i < xs.length
    · rw [hs m i h, flag_loop z p hs hf he m (i + 1) _ (by omega) (by omega), getD_drop xs i z h, List.all_cons, Bool.true_and]
    · have : i = xs.length := by omega
      subst this
      rw [he, List.drop_length]
      rfl
def inL (ws : List ByteArray) (x : ByteArray) : Bool := ws.any fun y => keyEq y x
theorem all_inL (x : ByteArray) : ∀ ws : List ByteArray, (ws.all fun y => !keyEq y x) = !inL ws x
  | [] => rfl
  | y :: ws => by
    show ((!keyEq y x) && ws.all fun y => !keyEq y x) = !(keyEq y x || inL ws x)
    rw [all_inL x ws, Bool.not_or]
theorem lookB_upd (x k : ByteArray) (v : Bool) : ∀ m : List (ByteArray × Bool), lookB x (updL k v m) = bif keyEq k x then v else lookB x m
  | [] => by simp only [updL, lookB]
  | p :: m => by
    simp only [updL]
    cases hp : keyEq p.1 k with
    | true =>
      simp only [cond_true, lookB]
      rw [keyEq_iff.1 hp]
      cases keyEq k x <;> rfl
    | false =>
      simp only [cond_false, lookB]
      rw [lookB_upd x k v m]
      cases hx : keyEq p.1 x with
      | false => rfl
      | true =>
        cases hk : keyEq k x with
        | false => rfl
        | true => rw [keyEq_iff.1 hx, keyEq_iff.1 hk, keyEq_iff.2 rfl] at hp; cases hp
theorem lookB_all (x : ByteArray) : ∀ (ws : List ByteArray) (i : Nat) (m : List (ByteArray × Bool)), lookB x (foldI (fun _ y m => updL y true m) i ws m) = (inL ws x || lookB x m)
  | [], _, _ => rfl
  | y :: ws, i, m => by
    show lookB x (foldI (fun _ y m => updL y true m) (i + 1) ws (updL y true m)) = ((keyEq y x || inL ws x) || lookB x m)
    rw [lookB_all x ws, lookB_upd]
    cases keyEq y x <;> cases inL ws x <;> rfl
def forgedS (w : Wld) : ByteArray := bif validWorld w then findGo (fun x => (readP x w.1).2 && !inL w.2.2.2.2.2.1 x) (fun x => x) z0 w.2.1.1 else z0
theorem worldOk {w : Wld} (h : validWorld w = true) : validDisk w.2.1 = true ∧ w.2.2.2.2.2.1.length ≤ 2000 ∧ (1 ≤ w.2.2.2.2.1.length ∧ w.2.2.2.2.1.length ≤ 200) := by
  unfold validWorld at h
  obtain ⟨_, h⟩ := and2 h
  obtain ⟨h1, h⟩ := and2 h
  obtain ⟨h2, h⟩ := and2 h
  obtain ⟨h3, h⟩ := and2 h
  have h2 := inB_r h2
  exact ⟨h1, of_decide_eq_true h3, by omega⟩
end Go.Proofs.Ytjoiklaecelalaa.V
