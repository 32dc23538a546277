/- What is proved: what the program's joining of pieces comes to, where all pieces but one at the most are right: the text. Conditions: those that each theorem names. -/
import Derived.Test.YtjbiiciippclcaaTopC
namespace Go.Proofs.Ytjbiiciippclcaa.Pure
open Go.RowKit Go.Proofs.Ytjbiiciippclcaa.PTopPieces Go.Proofs.YtjbiiciippclcaaW.PrintWords Go.Proofs.YtjbiiciippclcaaW.PrintLast Go.Proofs.YtjbiiciippclcaaW.PrintMore Go.Proofs.Ytjbiiciippclcaa.GF
set_option linter.unusedVariables false

/-! ### The cells of a column, of which some are there -/
def cellOf (c : List Nat) (u : Nat → Bool) (j : Nat) : S93 := if u j = true then ⟨true, ((c.getD j 0 : Nat) : Int)⟩ else z93
def cellsOf (c : List Nat) (u : Nat → Bool) (n : Nat) : List S93 := (List.range n).map (cellOf c u)
def plc (u : Nat → Bool) (k q : Nat) : List Nat := ((List.range q).filter u).take k
theorem cells_at (c : List Nat) (u : Nat → Bool) (n j : Nat) (h : j < n) : rd_T93 (cellsOf c u n) (j : Int) = cellOf c u j := by
  unfold rd_T93 cellsOf
  rw [Int.toNat_natCast, getD_map_range _ _ _ _ h]
theorem plc_succ_no (u : Nat → Bool) (k q : Nat) (h : u q = false) : plc u k (q + 1) = plc u k q := by
  unfold plc
  rw [List.range_succ, List.filter_append]
  simp [h]
theorem plc_succ_full (u : Nat → Bool) (k q : Nat) (h : k ≤ (plc u k q).length) : plc u k (q + 1) = plc u k q := by
  unfold plc at h ⊢
  rw [List.range_succ, List.filter_append, List.take_append_of_le_length]
  rw [List.length_take] at h
  omega
theorem plc_succ_more (u : Nat → Bool) (k q : Nat) (h : u q = true) (hl : (plc u k q).length < k) : plc u k (q + 1) = plc u k q ++ [q] := by
  unfold plc at hl ⊢
  rw [List.length_take] at hl
  rw [List.range_succ, List.filter_append]
  have h1 : ((List.range q).filter u).length < k := by omega
  rw [List.take_append, List.take_of_length_le (by omega : ((List.range q).filter u).length ≤ k), show List.filter u [q] = [q] by simp [h]]
  congr 1
  exact List.take_of_length_le (by simp; omega)
theorem plc_length_le (u : Nat → Bool) (k q : Nat) : (plc u k q).length ≤ q := by
  unfold plc
  rw [List.length_take]
  have := List.length_filter_le u (List.range q)
  rw [List.length_range] at this
  omega
theorem ints_map_cell (c : List Nat) (l : List Nat) (q : Nat) : ints (l.map fun j => c.getD j 0) ++ [((c.getD q 0 : Nat) : Int)] = ints ((l ++ [q]).map fun j => c.getD j 0) := by simp [ints]
theorem mend_l1 (t : List Nat) (ht : Bytes t) (hT : t.length ≤ 60) (k m n : Nat) (hk : 1 ≤ k) (hk6 : k ≤ 6) (hkn : k ≤ n) (hn : n ≤ 10) (u : Nat → Bool) (z : Nat) (hz : z ≤ k) (hu : plc u k n = lostP k z) (i : Nat) : ∀ d q : Nat, n - q = d → q ≤ n → Ev (fun f => reed_Mend.l1 f (ints (rowOf t k m n i)) (cellsOf (rowOf t k m n i) u n) (n : Int) (q : Int)) (ints (rowOf t k m n i), 0) := by
  intro d
  induction d with
  | zero =>
    intro q hd hq
    refine Ev.step (f := fun _ => some (ints (rowOf t k m n i), 0)) (fun f => ?_) (Ev.now _)
    simp only [reed_Mend.l1]
    rw [if_neg (by omega)]
  | succ d ih =>
    intro q hd hq
    refine Ev.step (fun f => ?_) (ih (q + 1) (by omega) (by omega))
    simp only [reed_Mend.l1]
    rw [if_pos (by omega), if_pos (by omega), if_pos (by simp [cellsOf]; omega), cells_at _ _ _ _ (by omega), w64s (by omega)]
    by_cases h : u q = true
    · rw [if_pos (by simp [cellOf, h]), if_pos (by rw [ints_length, rowOf_length]; omega), if_pos (by rw [rd_ints]; simp [cellOf, h])]
    · rw [if_neg (by simp [cellOf, h, z93])]
theorem mend_l0 (t : List Nat) (ht : Bytes t) (hT : t.length ≤ 60) (k m n : Nat) (hk : 1 ≤ k) (hk6 : k ≤ 6) (hkn : k ≤ n) (hn : n ≤ 10) (u : Nat → Bool) (z : Nat) (hz : z ≤ k) (hu : plc u k n = lostP k z) (i : Nat) : ∀ d q : Nat, n - q = d → q ≤ n → Ev (fun f => reed_Mend.l0 f (cellsOf (rowOf t k m n i) u n) (k : Int) (ints (plc u k q)) (ints ((plc u k q).map fun j => (rowOf t k m n i).getD j 0)) (cellsOf (rowOf t k m n i) u n) (n : Int) (q : Int)) (ints (rowOf t k m n i), 0) := by
  intro d
  induction d with
  | zero =>
    intro q hd hq
    obtain rfl : q = n := by omega
    have hrb := rowOf_bytes t ht k m q i
    have hcb : Bytes ((lostP k z).map fun j => (rowOf t k m q i).getD j 0) := Bytes.of fun a ha => by
      obtain ⟨j, _, rfl⟩ := List.mem_map.1 ha
      exact hrb j
    have hll := lostP_length k z (by omega) hz
    have hr := row_ev (lostP k z) ((lostP k z).map fun j => (rowOf t k m q i).getD j 0) (lostP_bytes k z (by omega)) hcb (by simp) (by omega) q (by omega)
    have he : row (lostP k z) ((lostP k z).map fun j => (rowOf t k m q i).getD j 0) q = rowOf t k m q i := by
      refine row_mended (dat t k m i) (dat_bytes t ht k m i) k z q hk6 hz (by omega) _ hcb fun j hj => ?_
      have hj' : j < (lostP k z).length := by omega
      have hp : (lostP k z).getD j 0 < q := by
        have h1 : (lostP k z).getD j 0 ∈ plc u k q := by
          rw [hu, List.getD_eq_getElem?_getD, List.getElem?_eq_getElem hj']
          exact List.getElem_mem hj'
        have := List.mem_range.1 (List.mem_filter.1 (List.mem_of_mem_take h1)).1
        exact this
      rw [List.getD_eq_getElem?_getD, List.getElem?_map, List.getElem?_eq_getElem hj']
      have e2 : (lostP k z).getD j 0 = (lostP k z)[j] := by rw [List.getD_eq_getElem?_getD, List.getElem?_eq_getElem hj']; rfl
      rw [e2] at hp ⊢
      show (rowOf t k m q i).getD (lostP k z)[j] 0 = _
      unfold rowOf
      rw [row_getD _ _ _ _ hp, List.length_range]
    rw [hu]
    refine Ev.step (fun f => ?_) (Ev.bind (by rw [he] at hr; exact hr) (f := fun f t254 => reed_Mend.l1 f t254 (cellsOf (rowOf t k m q i) u q) (q : Int) ((0 : Nat) : Int)) (mend_l1 t ht hT k m q hk hk6 hkn hn u z hz hu i q 0 rfl (by omega)))
    simp only [reed_Mend.l0]
    rw [if_neg (by omega), if_neg (by rw [ints_length, hll]; omega), show ((cellsOf (rowOf t k m q i) u q).length : Int) = (q : Int) by simp [cellsOf]]
    rfl
  | succ d ih =>
    intro q hd hq
    have hle := plc_length_le u k q
    refine Ev.step (fun f => ?_) (ih (q + 1) (by omega) (by omega))
    simp only [reed_Mend.l0]
    rw [if_pos (by omega), if_pos (by omega), if_pos (by simp [cellsOf]; omega), cells_at _ _ _ _ (by omega), w64s (by omega)]
    by_cases h : u q = true
    · rw [if_pos (by simp [cellOf, h])]
      by_cases h2 : (plc u k q).length < k
      · rw [if_pos (by rw [ints_length]; omega), Option.bind_some, if_pos (by rw [ints_length]; simp; omega), Option.bind_some, if_pos (by rw [ints_length, List.length_map]; simp; omega), plc_succ_more u k q h h2]
        rw [show (cellOf (rowOf t k m n i) u q).f1 = (((rowOf t k m n i).getD q 0 : Nat) : Int) by simp [cellOf, h], ints_map_cell, show [(q : Int)] = ints [q] from rfl, ints_append]
      · rw [if_neg (by rw [ints_length]; omega), plc_succ_full u k q (by omega)]
    · rw [if_neg (by simp [cellOf, h, z93]), plc_succ_no u k q (by simpa using h)]
theorem mend_ev (t : List Nat) (ht : Bytes t) (hT : t.length ≤ 60) (k m n : Nat) (hk : 1 ≤ k) (hk6 : k ≤ 6) (hkn : k ≤ n) (hn : n ≤ 10) (u : Nat → Bool) (z : Nat) (hz : z ≤ k) (hu : plc u k n = lostP k z) (i : Nat) : Ev (fun f => reed_Mend.f f (cellsOf (rowOf t k m n i) u n) (k : Int)) (ints (rowOf t k m n i), 0) := by
  have h := mend_l0 t ht hT k m n hk hk6 hkn hn u z hz hu i (n - 0) 0 rfl (by omega)
  have hc : (cellsOf (rowOf t k m n i) u n).length = n := by simp [cellsOf]
  rw [show plc u k 0 = [] by simp [plc]] at h
  refine Ev.congr (fun f => ?_) h
  unfold reed_Mend.f reed_Check.f
  rw [hc, if_neg (by omega), if_neg (by omega), if_neg (by omega), Option.bind_some, if_pos rfl]
  rfl
/-! ### Joining -/
theorem join_l3 (t : List Nat) (ht : Bytes t) (hT : t.length ≤ 60) (k n : Nat) (hk : 1 ≤ k) (hk6 : k ≤ 6) (hkn : k < n) (hn : n ≤ 10) (u : Nat → Bool) (z : Nat) (hz : z ≤ k) (hu : plc u k n = lostP k z) (l : List ByteArray) (hl : l.length = n) (m : Nat) (hm : m = psize t.length k) (hgood : ∀ j, j < n → u j = true → l.getD j ByteArray.empty = str (pcL t k m n j)) (hbad : ∀ j, j < n → u j = false → ∃ e : Int, e ≠ 0 ∧ Ev (fun f => piece_Check.f f (l.getD j ByteArray.empty) (k : Int)) e) (us : List Bool) (xl : Int) (r : ByteArray × Int) (i : Nat) (him : i < max m 1)
    (next : ∀ o : List Nat, o.length = k * m → (∀ j' i', j' < k → i' < m → i' < i + 1 → o.getD (j' * m + i') 0 = t.getD (j' * m + i') 0) → Ev (fun f => piece_Join.l1 f l (k : Int) us xl (m : Int) (ints o) ((max m 1 : Nat) : Int) ((i + 1 : Nat) : Int)) r) :
    ∀ d q : Nat, ∀ o : List Nat, k - q = d → q ≤ k → o.length = k * m → (∀ j' i', j' < k → i' < m → (i' < i ∨ i' = i ∧ j' < q) → o.getD (j' * m + i') 0 = t.getD (j' * m + i') 0) →
    Ev (fun f => piece_Join.l3 f l (k : Int) us xl (m : Int) (ints o) (i : Int) (ints (rowOf t k m n i)) ((max m 1 : Nat) : Int) (i : Int) (k : Int) (q : Int)) r := by
  have hm60 := psize_le t.length k hk hT
  rw [← hm] at hm60
  intro d
  induction d with
  | zero =>
    intro q o hd hq ho hx
    obtain rfl : q = k := by omega
    refine Ev.step (fun f => ?_) (next o ho fun j' i' hj hi hlt => hx j' i' hj hi (by omega))
    simp only [piece_Join.l3]
    rw [if_neg (by omega), w64s (by omega)]
  | succ d ih =>
    intro q o hd hq ho hx
    by_cases h0 : 0 < m
    · have him' : i < m := by omega
      have hin : q * m + i < k * m := by
        have : (q + 1) * m ≤ k * m := Nat.mul_le_mul_right _ (by omega)
        rw [Nat.succ_mul] at this
        omega
      have hrow : (rowOf t k m n i).getD q 0 = t.getD (q * m + i) 0 := by
        unfold rowOf
        rw [row_getD _ _ _ _ (by omega), List.length_range, row_data _ (dat_bytes t ht k m i) k q (by omega) (by omega), dat, getD_map_range _ _ _ _ (by omega)]
      have h1 := ih (q + 1) (o.set (q * m + i) (t.getD (q * m + i) 0)) (by omega) (by omega) (by rw [List.length_set]; exact ho) (fun j' i' hj hi h => by
        rw [getD_set]
        by_cases e : j' * m + i' = q * m + i
        · rw [if_pos ⟨e, by omega⟩, e]
        · rw [if_neg (by omega)]
          refine hx j' i' hj hi ?_
          rcases h with h | ⟨h, h2⟩
          · exact .inl h
          · refine .inr ⟨h, ?_⟩
            rcases Nat.lt_or_ge j' q with h3 | h3
            · exact h3
            · obtain rfl : j' = q := by omega
              subst h
              exact absurd rfl e)
      refine Ev.step (fun f => ?_) h1
      simp only [piece_Join.l3]
      rw [if_pos (by omega), if_pos (by omega), if_pos (by omega), if_pos (by rw [ints_length, rowOf_length]; omega), w64ji (j := q) (m := m) (i := i) (by omega) (by omega) (by omega), if_pos (Int.natCast_nonneg _), if_pos (by rw [ints_length, ho]; exact_mod_cast hin), rd_ints, hrow, Int.toNat_natCast, ints_set, w64s (by omega)]
    · have h1 := ih (q + 1) o (by omega) (by omega) ho (fun j' i' _ hi _ => by omega)
      refine Ev.step (fun f => ?_) h1
      simp only [piece_Join.l3]
      rw [if_pos (by omega), if_neg (by omega), w64s (by omega)]
theorem row_empty (t : List Nat) (ht : Bytes t) (hT : t.length ≤ 60) (k n : Nat) (hk : 1 ≤ k) (hk6 : k ≤ 6) (hkn : k < n) (hn : n ≤ 10) (u : Nat → Bool) (z : Nat) (hz : z ≤ k) (hu : plc u k n = lostP k z) (l : List ByteArray) (hl : l.length = n) (m : Nat) (hm : m = psize t.length k) (hgood : ∀ j, j < n → u j = true → l.getD j ByteArray.empty = str (pcL t k m n j)) (hbad : ∀ j, j < n → u j = false → ∃ e : Int, e ≠ 0 ∧ Ev (fun f => piece_Check.f f (l.getD j ByteArray.empty) (k : Int)) e) (h0 : m = 0) (j i : Nat) : (rowOf t k m n i).getD j 0 = 0 := by
  have ht0 : t = [] := by
    rcases Nat.eq_zero_or_pos t.length with h | h
    · exact List.length_eq_zero_iff.1 h
    · exfalso
      rw [hm] at h0
      unfold psize at h0
      have := (Nat.div_eq_zero_iff).1 h0
      omega
  subst ht0
  have hz : ∀ x q, rs (List.range k) (dat [] k m i) x q = 0 := by
    intro x q
    have hd : ∀ j, (dat [] k m i).getD j 0 = 0 := by
      intro j
      rcases Nat.lt_or_ge j k with h | h
      · rw [dat, getD_map_range _ _ _ _ h]; simp
      · rw [getD_out _ _ _ (by rw [dat_length]; exact h)]
    have htm : ∀ p i x j, tm p i x 0 j = 0 := by
      intro p i x j
      induction j with
      | zero => rfl
      | succ j ih => simp only [tm]; split; exact ih; rw [ih]; exact gm_zero _
    induction q with
    | zero => rfl
    | succ q ih => simp only [rs]; rw [ih, hd q, htm]; rfl
  rcases Nat.lt_or_ge j n with h | h
  · unfold rowOf
    rw [row_getD _ _ _ _ h, hz]
  · rw [getD_out _ _ _ (by rw [rowOf_length]; exact h)]
theorem join_l2 (t : List Nat) (ht : Bytes t) (hT : t.length ≤ 60) (k n : Nat) (hk : 1 ≤ k) (hk6 : k ≤ 6) (hkn : k < n) (hn : n ≤ 10) (u : Nat → Bool) (z : Nat) (hz : z ≤ k) (hu : plc u k n = lostP k z) (l : List ByteArray) (hl : l.length = n) (m : Nat) (hm : m = psize t.length k) (hgood : ∀ j, j < n → u j = true → l.getD j ByteArray.empty = str (pcL t k m n j)) (hbad : ∀ j, j < n → u j = false → ∃ e : Int, e ≠ 0 ∧ Ev (fun f => piece_Check.f f (l.getD j ByteArray.empty) (k : Int)) e) (us : List Bool) (hus : us.length = n ∧ ∀ j, j < n → us.getD j false = u j) (xl : Int) (r : ByteArray × Int) (i : Nat) (him : i < max m 1) (o : List Nat)
    (next : Ev (fun f => piece_Join.l3 f l (k : Int) us xl (m : Int) (ints o) (i : Int) (ints (rowOf t k m n i)) ((max m 1 : Nat) : Int) (i : Int) (k : Int) ((0 : Nat) : Int)) r) :
    ∀ d q : Nat, ∀ cs : List S93, n - q = d → q ≤ n → cs.length = n → (∀ j, j < n → cs.getD j z93 = if j < q then cellOf (rowOf t k m n i) u j else z93) →
    Ev (fun f => piece_Join.l2 f l (k : Int) us xl (m : Int) (ints o) (i : Int) cs ((max m 1 : Nat) : Int) (i : Int) l (n : Int) (q : Int)) r := by
  have hm60 := psize_le t.length k hk hT
  rw [← hm] at hm60
  intro d
  induction d with
  | zero =>
    intro q cs hd hq hc hx
    obtain rfl : q = n := by omega
    have e : cs = cellsOf (rowOf t k m q i) u q := extG z93 (by rw [hc]; simp [cellsOf]) fun j hj => by
      rw [hc] at hj
      rw [hx j hj, if_pos hj, cellsOf, getD_map_range _ _ _ _ hj]
    have hmd := mend_ev t ht hT k m q hk hk6 (by omega) hn u z hz hu i
    refine Ev.step (fun f => ?_) (Ev.bind hmd (f := fun f (bt283 : List Int × Int) => if bt283.2 = 0 then piece_Join.l3 f l (k : Int) us xl (m : Int) (ints o) (i : Int) bt283.1 ((max m 1 : Nat) : Int) (i : Int) (k : Int) 0 else some ((⟨#[]⟩ : ByteArray), bt283.2)) (Ev.congr (fun f => if_pos rfl) next))
    simp only [piece_Join.l2]
    rw [if_neg (by omega), e]
  | succ d ih =>
    intro q cs hd hq hc hx
    have hq2 : q < n := by omega
    have huq : rdOf false us (q : Int) = u q := by unfold rdOf; rw [Int.toNat_natCast]; exact hus.2 q hq2
    by_cases h : u q = true
    · have hg := hgood q hq2 h
      have hlq : rdOf ByteArray.empty l (q : Int) = str (pcL t k m n q) := by unfold rdOf; rw [Int.toNat_natCast]; exact hg
      have hcq : rd_T93 cs (q : Int) = z93 := by unfold rd_T93; rw [Int.toNat_natCast, hx q hq2, if_neg (by omega)]
      have h1 := ih (q + 1) (cs.set q (cellOf (rowOf t k m n i) u q)) (by omega) (by omega) (by rw [List.length_set]; exact hc) (fun j hj => by
        rw [getD_setG]
        by_cases e : j = q
        · subst e; rw [if_pos ⟨rfl, by omega⟩, if_pos (by omega)]
        · rw [if_neg (by omega), hx j hj]
          by_cases e2 : j < q
          · rw [if_pos e2, if_pos (by omega)]
          · rw [if_neg e2, if_neg (by omega)])
      refine Ev.step (fun f => ?_) h1
      simp only [piece_Join.l2]
      rw [if_pos (by omega), if_pos (by omega), if_pos (by omega), if_pos (by rw [hus.1]; omega), huq, if_pos h, if_pos (by omega), hcq, Option.bind_some, w64s (by omega), Int.toNat_natCast]
      by_cases h0 : 0 < m
      · have hb := bt_str (pcL t k m n q) (pcL_bytes t ht k m n q) (1 + i)
        have hbv : (pcL t k m n q).getD (1 + i) 0 = (rowOf t k m n i).getD q 0 := by
          unfold pcL sld
          rw [List.getD_eq_getElem?_getD, List.getElem?_append_left (by simp [part_length]; omega), List.getElem?_append_right (by simp)]
          simp only [List.length_singleton, Nat.add_sub_cancel_left]
          rw [← List.getD_eq_getElem?_getD, part, getD_map_range _ _ _ _ (by omega)]
        rw [if_pos (by omega), hlq, w64 (i := 1 + (i : Int)) (by omega) (by omega), show (1 + (i : Int)) = ((1 + i : Nat) : Int) by omega, if_pos (Int.natCast_nonneg _), if_pos (by rw [str_size, pcL_length]; omega), hb, hbv, List.set_set]
        have e3 : rd_T93 (cs.set q ⟨true, z93.f1⟩) (q : Int) = ⟨true, z93.f1⟩ := by
          unfold rd_T93
          rw [Int.toNat_natCast, getD_setG, if_pos ⟨rfl, by omega⟩]
        rw [e3]
        have e4 : cellOf (rowOf t k m n i) u q = ⟨true, (((rowOf t k m n i).getD q 0 : Nat) : Int)⟩ := by simp [cellOf, h]
        rw [e4]
      · have hre := row_empty t ht hT k n hk hk6 hkn hn u z hz hu l hl m hm hgood hbad (by omega) q i
        have e4 : cellOf (rowOf t k m n i) u q = ⟨true, z93.f1⟩ := by unfold cellOf; rw [if_pos h, hre]; rfl
        rw [if_neg (by omega), e4]
    · have h1 := ih (q + 1) cs (by omega) (by omega) hc (fun j hj => by
        rw [hx j hj]
        by_cases e : j = q
        · subst e; rw [if_neg (by omega), if_pos (by omega), cellOf, if_neg h]
        · by_cases e2 : j < q
          · rw [if_pos e2, if_pos (by omega)]
          · rw [if_neg e2, if_neg (by omega)])
      refine Ev.step (fun f => ?_) h1
      simp only [piece_Join.l2]
      rw [if_pos (by omega), if_pos (by omega), if_pos (by omega), if_pos (by rw [hus.1]; omega), huq, if_neg h, w64s (by omega)]
theorem len_le (t : List Nat) (ht : Bytes t) (hT : t.length ≤ 60) (k n : Nat) (hk : 1 ≤ k) (hk6 : k ≤ 6) (hkn : k < n) (hn : n ≤ 10) (u : Nat → Bool) (z : Nat) (hz : z ≤ k) (hu : plc u k n = lostP k z) (l : List ByteArray) (hl : l.length = n) (m : Nat) (hm : m = psize t.length k) (hgood : ∀ j, j < n → u j = true → l.getD j ByteArray.empty = str (pcL t k m n j)) (hbad : ∀ j, j < n → u j = false → ∃ e : Int, e ≠ 0 ∧ Ev (fun f => piece_Check.f f (l.getD j ByteArray.empty) (k : Int)) e) : t.length ≤ k * m := by
  have h1 := Nat.lt_div_mul_add (a := t.length + k - 1) (b := k) (by omega)
  unfold psize at hm
  rw [hm, Nat.mul_comm]
  omega
theorem join_l1 (t : List Nat) (ht : Bytes t) (hT : t.length ≤ 60) (k n : Nat) (hk : 1 ≤ k) (hk6 : k ≤ 6) (hkn : k < n) (hn : n ≤ 10) (u : Nat → Bool) (z : Nat) (hz : z ≤ k) (hu : plc u k n = lostP k z) (l : List ByteArray) (hl : l.length = n) (m : Nat) (hm : m = psize t.length k) (hgood : ∀ j, j < n → u j = true → l.getD j ByteArray.empty = str (pcL t k m n j)) (hbad : ∀ j, j < n → u j = false → ∃ e : Int, e ≠ 0 ∧ Ev (fun f => piece_Check.f f (l.getD j ByteArray.empty) (k : Int)) e) (us : List Bool) (hus : us.length = n ∧ ∀ j, j < n → us.getD j false = u j) :
    ∀ d i : Nat, ∀ o : List Nat, max m 1 - i = d → i ≤ max m 1 → o.length = k * m → (∀ j' i', j' < k → i' < m → i' < i → o.getD (j' * m + i') 0 = t.getD (j' * m + i') 0) →
    Ev (fun f => piece_Join.l1 f l (k : Int) us (t.length : Int) (m : Int) (ints o) ((max m 1 : Nat) : Int) (i : Int)) (str t, 0) := by
  have hm60 := psize_le t.length k hk hT
  rw [← hm] at hm60
  intro d
  induction d with
  | zero =>
    intro i o hd hi ho hx
    have hle := len_le t ht hT k n hk hk6 hkn hn u z hz hu l hl m hm hgood hbad
    have hmx : mx (t.length : Int) 0 = (t.length : Int) := by unfold mx; rw [if_neg (by omega)]
    have e : o.take t.length = t := extG 0 (by rw [List.length_take, ho]; omega) fun p hp => by
      rw [List.length_take, ho] at hp
      have hp2 : p < t.length := by omega
      have hm0 : 0 < m := by
        rcases Nat.eq_zero_or_pos m with h | h
        · rw [h] at hle; omega
        · exact h
      have h1 : p / m < k := (Nat.div_lt_iff_lt_mul hm0).2 (by omega)
      have h2 := Nat.mod_lt p hm0
      have h3 : p / m * m + p % m = p := Nat.div_add_mod' p m
      have := hx (p / m) (p % m) h1 h2 (by omega)
      rw [h3] at this
      rw [← this, List.getD_eq_getElem?_getD, List.getD_eq_getElem?_getD, List.getElem?_take_of_lt hp2]
    refine Ev.step (f := fun _ => some (str t, 0)) (fun f => ?_) (Ev.now _)
    simp only [piece_Join.l1]
    rw [if_neg (by omega), hmx, if_pos (by omega), if_pos (by rw [ints_length, ho]; exact_mod_cast hle), Int.toNat_natCast]
    rw [show (ints o).take t.length = ints (o.take t.length) by simp [ints, List.map_take], e]
    rfl
  | succ d ih =>
    intro i o hd hi ho hx
    have h3 := join_l3 t ht hT k n hk hk6 hkn hn u z hz hu l hl m hm hgood hbad us (t.length : Int) (str t, 0) i (by omega) (fun o' ho' hx' => ih (i + 1) o' (by omega) (by omega) ho' hx') (k - 0) 0 o rfl (by omega) ho (fun j' i' hj hi' h => hx j' i' hj hi' (by omega))
    have h2 := join_l2 t ht hT k n hk hk6 hkn hn u z hz hu l hl m hm hgood hbad us hus (t.length : Int) (str t, 0) i (by omega) o h3 (n - 0) 0 (List.replicate n z93) rfl (by omega) (by simp) (fun j hj => by rw [getD_rep, if_neg (by omega)])
    refine Ev.step (fun f => ?_) h2
    simp only [piece_Join.l1]
    rw [if_pos (by omega), hl, if_pos (by omega), if_pos (by omega), Int.toNat_natCast]
    rfl
theorem join_l0 (t : List Nat) (ht : Bytes t) (hT : t.length ≤ 60) (k n : Nat) (hk : 1 ≤ k) (hk6 : k ≤ 6) (hkn : k < n) (hn : n ≤ 10) (u : Nat → Bool) (z : Nat) (hz : z ≤ k) (hu : plc u k n = lostP k z) (l : List ByteArray) (hl : l.length = n) (m : Nat) (hm : m = psize t.length k) (hgood : ∀ j, j < n → u j = true → l.getD j ByteArray.empty = str (pcL t k m n j)) (hbad : ∀ j, j < n → u j = false → ∃ e : Int, e ≠ 0 ∧ Ev (fun f => piece_Check.f f (l.getD j ByteArray.empty) (k : Int)) e) (hany : ∃ j, j < n ∧ u j = true) : ∀ d q : Nat, ∀ us : List Bool, n - q = d → q ≤ n → us.length = n → (∀ j, j < q → us.getD j false = u j) →
    Ev (fun f => piece_Join.l0 f l (k : Int) us (if (List.range q).any u = true then (t.length : Int) else -1) l (n : Int) (q : Int)) (str t, 0) := by
  have hm60 := psize_le t.length k hk hT
  rw [← hm] at hm60
  intro d
  induction d with
  | zero =>
    intro q us hd hq hus hx
    obtain rfl : q = n := by omega
    obtain ⟨j0, hj0, hu0⟩ := hany
    have ha : (List.range q).any u = true := List.any_eq_true.2 ⟨j0, List.mem_range.2 hj0, hu0⟩
    have h1 := join_l1 t ht hT k q hk hk6 hkn hn u z hz hu l hl m hm hgood hbad us ⟨hus, hx⟩ (max m 1 - 0) 0 (List.replicate (k * m) 0) rfl (by omega) (by simp) (fun j' i' _ _ h => by omega)
    have hmx : mx (t.length : Int) 0 = (t.length : Int) := by unfold mx; rw [if_neg (by omega)]
    have hmx2 : mx (m : Int) 1 = ((max m 1 : Nat) : Int) := by unfold mx; split <;> omega
    have hkm : k * m ≤ 6 * 60 := Nat.mul_le_mul hk6 hm60
    refine Ev.step (fun f => ?_) h1
    simp only [piece_Join.l0]
    rw [if_neg (by omega), if_pos ha, hmx, size_some _ k (by omega) hk (by omega), Option.bind_some, ← hm, hmx2, show (k : Int) * (m : Int) = ((k * m : Nat) : Int) from (Int.natCast_mul k m).symm]
    generalize hkq : k * m = km at hkm ⊢
    rw [w64 (i := (km : Int)) (by omega) (by omega), if_pos (by omega), if_pos (by omega), Int.toNat_natCast, ints_rep]
    rfl
  | succ d ih =>
    intro q us hd hq hus hx
    have hq2 : q < n := by omega
    have hlq : rdOf ByteArray.empty l (q : Int) = l.getD q ByteArray.empty := by unfold rdOf; rw [Int.toNat_natCast]
    have hset : ∀ b : Bool, b = u q → ∀ j, j < q + 1 → (us.set q b).getD j false = u j := by
      intro b hb j hj
      rw [getD_setG]
      by_cases e : j = q
      · subst e; rw [if_pos ⟨rfl, by omega⟩, hb]
      · rw [if_neg (by omega)]; exact hx j (by omega)
    have hrd : ∀ b : Bool, rdOf false (us.set q b) (q : Int) = b := by
      intro b
      unfold rdOf
      rw [Int.toNat_natCast, getD_setG, if_pos ⟨rfl, by omega⟩]
    by_cases h : u q = true
    · have hg := hgood q hq2 h
      have hck : Ev (fun f => piece_Check.f f (l.getD q ByteArray.empty) (k : Int)) 0 := by
        rw [hg]
        have := check_ev (pcL t k m n q) (pcL_bytes t ht k m n q) k hk (by omega) (by rw [pcL_length]; omega) (by rw [pcL_length]; omega)
        rwa [pcL, chk_seal _ _ _ hT (by rw [part_length, hm])] at this
      have h1 := ih (q + 1) (us.set q true) (by omega) (by omega) (by rw [List.length_set]; exact hus) (hset true h.symm)
      rw [show (List.range (q + 1)).any u = true by rw [List.range_succ, List.any_append]; simp [h], if_pos rfl] at h1
      have hb0 : bt (str (pcL t k m n q)) 0 = (t.length : Int) := by
        rw [bt_str0 _ (pcL_bytes t ht k m n q)]
        have : (pcL t k m n q).getD 0 0 = t.length := by simp [pcL, sld]; omega
        rw [this]
      refine Ev.step (fun f => ?_) (Ev.bind hck (f := fun f t265 => if (q : Int) < (us.length : Int) then ((some (us.set q (t265 == 0)) : Option (List Bool)).bind fun y266 => (if rdOf false y266 (q : Int) = true then (if (if (List.range q).any u = true then (t.length : Int) else -1) ≥ 0 then (if 0 < ((str (pcL t k m n q)).size : Int) then (if (wrap64 (bt (str (pcL t k m n q)) 0)) = (if (List.range q).any u = true then (t.length : Int) else -1) then (piece_Join.l0 f l (k : Int) y266 (wrap64 (bt (str (pcL t k m n q)) 0)) l (n : Int) ((q + 1 : Nat) : Int)) else (some ((⟨#[]⟩ : ByteArray), 3))) else (none)) else (if 0 < ((str (pcL t k m n q)).size : Int) then (piece_Join.l0 f l (k : Int) y266 (wrap64 (bt (str (pcL t k m n q)) 0)) l (n : Int) ((q + 1 : Nat) : Int)) else (none))) else (piece_Join.l0 f l (k : Int) y266 (if (List.range q).any u = true then (t.length : Int) else -1) l (n : Int) ((q + 1 : Nat) : Int)))) else none) (Ev.congr (fun f => ?_) h1))
      · simp only [piece_Join.l0]
        rw [if_pos (by omega), if_pos (by omega), if_pos (by omega), hlq, hg, w64s (by omega), Int.toNat_natCast]
      · show (if _ then _ else _) = _
        rw [if_pos (by omega), Option.bind_some, show ((0 : Int) == 0) = true from rfl, hrd, if_pos rfl, hb0, w64 (i := (t.length : Int)) (by omega) (by omega)]
        have hsz : 0 < ((str (pcL t k m n q)).size : Int) := by rw [str_size, pcL_length]; omega
        by_cases ha : (List.range q).any u = true
        · rw [if_pos ha, if_pos (by omega), if_pos hsz, if_pos rfl]
        · rw [if_neg ha, if_neg (by omega), if_pos hsz]
    · have hf : u q = false := by simpa using h
      obtain ⟨e, he, hck⟩ := hbad q hq2 hf
      have h1 := ih (q + 1) (us.set q false) (by omega) (by omega) (by rw [List.length_set]; exact hus) (hset false hf.symm)
      rw [show (List.range (q + 1)).any u = (List.range q).any u by rw [List.range_succ, List.any_append]; simp [hf]] at h1
      refine Ev.step (fun f => ?_) (Ev.bind hck (f := fun f t265 => if (q : Int) < (us.length : Int) then ((some (us.set q (t265 == 0)) : Option (List Bool)).bind fun y266 => (if rdOf false y266 (q : Int) = true then (if (if (List.range q).any u = true then (t.length : Int) else -1) ≥ 0 then (if 0 < ((l.getD q ByteArray.empty).size : Int) then (if (wrap64 (bt (l.getD q ByteArray.empty) 0)) = (if (List.range q).any u = true then (t.length : Int) else -1) then (piece_Join.l0 f l (k : Int) y266 (wrap64 (bt (l.getD q ByteArray.empty) 0)) l (n : Int) ((q + 1 : Nat) : Int)) else (some ((⟨#[]⟩ : ByteArray), 3))) else (none)) else (if 0 < ((l.getD q ByteArray.empty).size : Int) then (piece_Join.l0 f l (k : Int) y266 (wrap64 (bt (l.getD q ByteArray.empty) 0)) l (n : Int) ((q + 1 : Nat) : Int)) else (none))) else (piece_Join.l0 f l (k : Int) y266 (if (List.range q).any u = true then (t.length : Int) else -1) l (n : Int) ((q + 1 : Nat) : Int)))) else none) (Ev.congr (fun f => ?_) h1))
      · simp only [piece_Join.l0]
        rw [if_pos (by omega), if_pos (by omega), if_pos (by omega), hlq, w64s (by omega), Int.toNat_natCast]
      · show (if _ then _ else _) = _
        rw [if_pos (by omega), Option.bind_some, show (e == 0) = false by simpa using he, hrd, if_neg (by simp)]
theorem join_ev (t : List Nat) (ht : Bytes t) (hT : t.length ≤ 60) (k n : Nat) (hk : 1 ≤ k) (hk6 : k ≤ 6) (hkn : k < n) (hn : n ≤ 10) (u : Nat → Bool) (z : Nat) (hz : z ≤ k) (hu : plc u k n = lostP k z) (l : List ByteArray) (hl : l.length = n) (m : Nat) (hm : m = psize t.length k) (hgood : ∀ j, j < n → u j = true → l.getD j ByteArray.empty = str (pcL t k m n j)) (hbad : ∀ j, j < n → u j = false → ∃ e : Int, e ≠ 0 ∧ Ev (fun f => piece_Check.f f (l.getD j ByteArray.empty) (k : Int)) e) (hany : ∃ j, j < n ∧ u j = true) : Ev (fun f => piece_Join.f f l (k : Int)) (str t, 0) := by
  have h := join_l0 t ht hT k n hk hk6 hkn hn u z hz hu l hl m hm hgood hbad hany (n - 0) 0 (List.replicate n false) rfl (by omega) (by simp) (fun j h => by omega)
  refine Ev.congr (fun f => ?_) h
  unfold piece_Join.f
  rw [hl, right_some k n hk (by omega) hn, Option.bind_some, if_pos rfl, if_pos (by omega), if_pos (by omega), Int.toNat_natCast]
  rfl
end Go.Proofs.Ytjbiiciippclcaa.Pure
