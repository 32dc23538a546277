/- What is proved: the pieces of a text have a byte, as many as a part, and four, all of one length, and the first so many of them tell the text (the plain statement behind the law PieceLong). Conditions: none beyond the law's own. -/
import Derived.Test.YtjbiiciippclcaaDoorTopC
namespace Go.Proofs.YtjbiiciippclcaaDoor.Pure
set_option linter.unusedVariables false
open Go.RowKit Go.Proofs.YtjbiiciippclcaaDoor.PPieceLong Go.Proofs.YtjbiiciippclcaaDoorW.PrintWords Go.Proofs.YtjbiiciippclcaaDoorW.PrintLast Go.Proofs.YtjbiiciippclcaaDoorW.PrintMore Go.Proofs.YtjbiiciippclcaaDoor.GF

theorem pieces_at : (wholekeep_pieces.f 150).getD false = true := by decide +kernel
theorem pieces_ev : Ev (fun k => wholekeep_pieces.f k) true := by
  refine Ev.of wholekeep_pieces.mono (k := 150) ?_
  cases e : wholekeep_pieces.f 150 with
  | none => have := pieces_at; rw [e] at this; cases this
  | some b => have := pieces_at; rw [e] at this; exact congrArg some this
theorem pcs_length (t : List Nat) (k m n : Nat) : (pcs t k m n).length = n := by simp [pcs]
theorem pcs_getD (t : List Nat) (k m n j : Nat) (h : j < n) : (pcs t k m n).getD j ByteArray.empty = str (pcL t k m n j) := by rw [pcs, getD_map_range _ _ _ _ h]
theorem right_cases (a b : Int) : piece_right.f a b = some false ∨ ∃ k n : Nat, a = (k : Int) ∧ b = (n : Int) ∧ 1 ≤ k ∧ k ≤ n ∧ n ≤ 10 := by
  by_cases h : 1 ≤ a ∧ a ≤ b ∧ b ≤ 10
  · exact .inr ⟨a.toNat, b.toNat, by omega, by omega, by omega, by omega, by omega⟩
  · refine .inl ?_
    unfold piece_right.f
    by_cases h1 : 1 ≤ a
    · rw [if_pos h1]
      by_cases h2 : a ≤ b
      · rw [if_pos h2, decide_eq_false (by omega)]
      · rw [if_neg h2]
    · rw [if_neg h1]
theorem size_eq (n k : Nat) (hn : n < 1000) (hk : 1 ≤ k) (hk2 : k < 1000) : wrap64 (Int.tdiv (wrap64 (wrap64 ((n : Int) + (k : Int)) - 1)) (k : Int)) = ((psize n k : Nat) : Int) := by
  have h := size_some n k hn hk hk2
  unfold piece_size.f at h
  rw [if_neg (by omega)] at h
  exact Option.some.inj h
/-! ### What all parts are together -/
def allL (t : List Nat) (q : Nat) : List Nat := (List.range q).map fun p => t.getD p 0
theorem allL_length (t : List Nat) (q : Nat) : (allL t q).length = q := by simp [allL]
theorem part_data (t : List Nat) (ht : Bytes t) (k m n j : Nat) (hk : k ≤ 10) (hj : j < k) (hkn : k ≤ n) (hn : n ≤ 10) : part t k m n j m = (List.range m).map fun i => t.getD (j * m + i) 0 := by
  unfold part
  refine List.map_congr_left fun i _ => ?_
  unfold rowOf
  rw [row_getD _ _ _ _ (by omega), List.length_range, row_data _ (dat_bytes t ht k m i) k j (by omega) (by omega), dat, getD_map_range _ _ _ _ (by omega)]
theorem allL_succ (t : List Nat) (j m : Nat) : allL t ((j + 1) * m) = allL t (j * m) ++ (List.range m).map fun i => t.getD (j * m + i) 0 := by
  unfold allL
  rw [Nat.succ_mul, List.range_add, List.map_append, List.map_map]
  rfl
theorem allL_take (t : List Nat) (q : Nat) (h : t.length ≤ q) : (allL t q).take t.length = t := extG 0 (by rw [List.length_take, allL_length]; omega) fun n hn => by
  rw [List.length_take, allL_length] at hn
  rw [List.getD_eq_getElem?_getD, List.getElem?_take_of_lt (by omega), ← List.getD_eq_getElem?_getD, allL, getD_map_range _ _ _ _ (by omega)]
theorem allL_drop (t : List Nat) (q : Nat) (h : t.length ≤ q) : (allL t q).drop t.length = List.replicate (q - t.length) 0 := extG 0 (by rw [List.length_drop, allL_length]; simp) fun n hn => by
  rw [List.length_drop, allL_length] at hn
  rw [List.getD_eq_getElem?_getD, List.getElem?_drop, ← List.getD_eq_getElem?_getD, allL, getD_map_range _ _ _ _ (by omega), getD_rep, getD_out _ _ _ (by omega)]
theorem rep_bytes (q : Nat) : Bytes (List.replicate q 0) := fun j => by rw [getD_rep]; decide
/-! ### Trimming zeros -/
theorem right_zero : ∀ q : Nat, q < 4611686018427387000 → Ev (fun f => strings_trimRightByte.l0 f (str (List.replicate q 0)) 0) (str []) := by
  intro q
  induction q with
  | zero =>
    intro _
    refine Ev.step (f := fun _ => some (str [])) (fun f => ?_) (Ev.now _)
    simp only [strings_trimRightByte.l0]
    rw [if_neg (by rw [str_size]; simp)]
    rfl
  | succ q ih =>
    intro hq
    refine Ev.step (fun f => ?_) (ih (by omega))
    have hs : (str (List.replicate (q + 1) 0)).size = q + 1 := by rw [str_size]; simp
    simp only [strings_trimRightByte.l0]
    rw [hs, w64 (i := ((q + 1 : Nat) : Int) - 1) (by omega) (by omega), show (((q + 1 : Nat) : Int) - 1) = (q : Int) by omega, if_pos (by omega), if_pos (by omega), if_pos (by omega), bt_str _ (rep_bytes _), getD_rep, if_pos (show ((0 : Nat) : Int) = 0 from rfl), if_pos (by omega), Int.toNat_natCast, str_extract, List.drop_zero, List.take_replicate, Nat.min_eq_left (by omega)]
theorem left_nil : Ev (fun f => strings_trimLeftByte.f f (str []) 0) (str []) := by
  refine Ev.step (f := fun _ => some (str [])) (fun f => ?_) (Ev.now _)
  simp only [strings_trimLeftByte.f, strings_trimLeftByte.l0]
  rw [if_neg (by rw [str_size]; simp)]
theorem trim_zero (q : Nat) (hq : q < 4611686018427387000) : Ev (fun f => strings_Trim.f f (str (List.replicate q 0)) (⟨#[0]⟩ : ByteArray)) (str []) := by
  by_cases h0 : q = 0
  · subst h0
    refine Ev.congr (f := fun f => strings_Trim.j0 f (str []) (⟨#[0]⟩ : ByteArray) true) (fun f => ?_) (Ev.step (f := fun _ => some (str [])) (fun f => ?_) (Ev.now _))
    · unfold strings_Trim.f
      rw [if_pos (by rw [str_toList]; rfl)]
      rfl
    · simp only [strings_Trim.j0]
      rw [if_pos (by simp)]
  · have h1 : Ev (fun f => strings_Trim.j1 f (str (List.replicate q 0)) (⟨#[0]⟩ : ByteArray) true) (str []) := by
      refine Ev.step (fun f => ?_) (Ev.bind (right_zero q hq) (f := fun f t => (strings_trimLeftByte.f f t 0).bind fun t171 => some t171) (Ev.bind left_nil (f := fun _ t => some t) (Ev.now _)))
      simp only [strings_Trim.j1]
      rw [if_pos (by simp), if_pos (by decide), show bt (⟨#[0]⟩ : ByteArray) 0 = 0 by decide]
      rfl
    refine Ev.congr (f := fun f => strings_Trim.j0 f (str (List.replicate q 0)) (⟨#[0]⟩ : ByteArray) false) (fun f => ?_) (Ev.step (fun f => ?_) h1)
    · unfold strings_Trim.f
      rw [if_neg (by rw [str_toList]; intro h; have := congrArg List.length h; simp at this; exact h0 this), show ((⟨#[0]⟩ : ByteArray).toList == ([] : List UInt8)) = false by rw [Lib.toList_data]; rfl]
    · simp only [strings_Trim.j0]
      rw [if_neg (by simp), if_pos (by decide), if_pos (by decide), show decide (bt (⟨#[0]⟩ : ByteArray) 0 < 128) = true by decide]
theorem empty_eq : (⟨#[]⟩ : ByteArray) = str [] := by apply ByteArray.ext; rfl
theorem long_l0 (t : List Nat) (ht : Bytes t) (hT : t.length ≤ 60) (k n : Nat) (hk : 1 ≤ k) (hkn : k ≤ n) (hn : n ≤ 10) (m : Nat) (hm : m = psize t.length k) (hm60 : m ≤ 60) (hle : t.length ≤ k * m) :
    ∀ d i : Nat, n - i = d → i ≤ n → Ev (fun f => wholekeep_PieceLong.l0 f (str t) (k : Int) (n : Int) (pcs t k m n) (m : Int) (str (allL t (min i k * m))) (pcs t k m n) (n : Int) (i : Int)) true := by
  intro d
  have hkm : k * m ≤ 10 * 60 := Nat.mul_le_mul (by omega) hm60
  induction d with
  | zero =>
    intro i hd hi
    obtain rfl : i = n := by omega
    have hpre : strings_HasPrefix.f (str (allL t (k * m))) (str t) = some true := by
      unfold strings_HasPrefix.f stringslite_HasPrefix.f
      rw [str_size, str_size, allL_length, if_pos (by exact_mod_cast hle), if_pos (by omega), if_pos (by exact_mod_cast hle), Int.toNat_natCast, str_extract, List.drop_zero, allL_take t _ hle, Option.bind_some]
      simp
    have htr := trim_zero (k * m - t.length) (by omega)
    refine Ev.step (fun f => ?_) (Ev.bind htr (f := fun _ t178 => some (t178.toList == ([] : List UInt8))) (Ev.congr (f := fun _ => some true) (fun f => ?_) (Ev.now _)))
    · simp only [wholekeep_PieceLong.l0]
      rw [if_neg (by omega), pcs_length, if_pos rfl, Nat.min_eq_right hkn, hpre, Option.bind_some, if_pos rfl, str_size, str_size, allL_length, if_pos (by omega), if_pos (by exact_mod_cast hle), Int.toNat_natCast, str_extract, List.take_of_length_le (by rw [allL_length]; exact Nat.le_refl _), allL_drop t _ hle]
    · show some _ = some true
      rw [str_toList]; rfl
  | succ d ih =>
    intro i hd hi
    have hin : i < n := by omega
    have hrd : rdOf ByteArray.empty (pcs t k m n) (i : Int) = str (pcL t k m n i) := by unfold rdOf; rw [Int.toNat_natCast]; exact pcs_getD t k m n i hin
    have h0 : bt (str (pcL t k m n i)) 0 = (t.length : Int) := by
      rw [bt_str0 _ (pcL_bytes t ht k m n i)]
      have : (pcL t k m n i).getD 0 0 = t.length := by simp [pcL, sld]; omega
      rw [this]
    have hnext := ih (i + 1) (by omega) (by omega)
    have hj2 : Ev (fun f => wholekeep_PieceLong.j2 f (str t) (k : Int) (n : Int) (pcs t k m n) (m : Int) (str (allL t (min i k * m))) (i : Int) (str (pcL t k m n i)) (pcs t k m n) (n : Int) (i : Int) false) true := by
      by_cases hik : i < k
      · have hex : (str (pcL t k m n i)).extract 1 (1 + m) = str ((List.range m).map fun i' => t.getD (i * m + i') 0) := by
          rw [str_extract, ← part_data t ht k m n i (by omega) hik hkn hn]
          congr 1
          have hp := part_length t k m n i m
          unfold pcL sld
          rw [List.append_assoc, List.take_append, List.drop_append]
          simp only [List.length_singleton, Nat.add_sub_cancel_left, List.length_take]
          rw [List.drop_of_length_le (by simp), List.nil_append, List.take_append_of_le_length (by omega), List.take_of_length_le (by omega)]
          simp
        rw [Nat.min_eq_left (by omega : i + 1 ≤ k), allL_succ, ← str_append] at hnext
        rw [Nat.min_eq_left (by omega : i ≤ k)]
        have him : i * m ≤ 10 * 60 := Nat.mul_le_mul (by omega) hm60
        refine Ev.step (fun f => ?_) hnext
        simp only [wholekeep_PieceLong.j2]
        rw [if_neg (by simp), if_pos (by omega), w64 (i := 1 + (m : Int)) (by omega) (by omega), show (1 + (m : Int)) = ((1 + m : Nat) : Int) by omega, if_pos (by omega), if_pos (by rw [str_size, pcL_length]; omega), Int.toNat_natCast, hex, if_pos (by rw [str_size, str_size, allL_length]; simp; omega), w64s (by omega)]
      · rw [Nat.min_eq_right (by omega : k ≤ i + 1)] at hnext
        rw [Nat.min_eq_right (by omega : k ≤ i)]
        refine Ev.step (fun f => ?_) hnext
        simp only [wholekeep_PieceLong.j2]
        rw [if_neg (by simp), if_neg (by omega), w64s (by omega)]
    refine Ev.step (fun f => ?_) hj2
    simp only [wholekeep_PieceLong.l0]
    rw [if_pos (by omega), if_pos (by omega), if_pos (by rw [pcs_length]; omega), hrd, str_size, pcL_length, w64 (i := (m : Int) + 5) (by omega) (by omega), if_pos (by omega), if_pos (by omega), h0, w64 (i := (t.length : Int)) (by omega) (by omega), str_size, show ((t.length : Int) != (t.length : Int)) = false by simp]
theorem PieceLong : wholekeep_PieceLong.Pure := by
  intro a0 a1 a2 _ _ _
  obtain ⟨t, rfl, ht⟩ : ∃ t, a0 = str t ∧ Bytes t := ⟨nats a0, (str_nats a0).symm, nats_bytes a0⟩
  refine Ev.rounds ?_
  have fail : ∀ e : Int, e ≠ 0 → (∀ f, piece_Split.f f (str t) a1 a2 = some ([], e)) → Ev (fun k => wholekeep_PieceLong.f k (str t) a1 a2) true := by
    intro e he hs
    have hj : Ev (fun f => wholekeep_PieceLong.j0 f (str t) a1 a2 [] e true) true := by
      refine Ev.step (f := fun _ => some true) (fun f => ?_) (Ev.now _)
      simp only [wholekeep_PieceLong.j0]
      rw [if_pos (by simp), if_neg he]
      rfl
    refine Ev.congr (fun k => ?_) (Ev.bind pieces_ev (f := fun k t172 => if t172 = true then wholekeep_PieceLong.j0 k (str t) a1 a2 [] e true else some false) (Ev.congr (fun k => if_pos rfl) hj))
    unfold wholekeep_PieceLong.f
    congr 1
    funext t172
    rw [hs, Option.bind_some, if_neg he]
  rcases right_cases a1 a2 with h | ⟨k, n, rfl, rfl, hk, hkn, hn⟩
  · refine fail 1 (by decide) fun f => ?_
    unfold piece_Split.f
    rw [h, Option.bind_some, if_neg (by simp)]
  · by_cases hT : t.length ≤ 60
    · have hs := split_ev t ht hT k n hk hkn hn
      have hm60 := psize_le t.length k hk hT
      obtain ⟨m, hm⟩ : ∃ m, m = psize t.length k := ⟨_, rfl⟩
      rw [← hm] at hs hm60
      have hle : t.length ≤ k * m := by
        have h1 := Nat.lt_div_mul_add (a := t.length + k - 1) (b := k) (by omega)
        unfold psize at hm
        rw [hm, Nat.mul_comm]
        omega
      have h0 := long_l0 t ht hT k n hk hkn hn m hm hm60 hle (n - 0) 0 rfl (by omega)
      have hj : Ev (fun f => wholekeep_PieceLong.j0 f (str t) (k : Int) (n : Int) (pcs t k m n) 0 false) true := by
        refine Ev.step (fun f => ?_) h0
        simp only [wholekeep_PieceLong.j0]
        rw [if_neg (by simp), if_neg (by omega), str_size, size_eq _ k (by omega) hk (by omega), ← hm, pcs_length, Nat.min_eq_left (by omega : 0 ≤ k), Nat.zero_mul, empty_eq]
        rfl
      refine Ev.congr (fun f => ?_) (Ev.bind pieces_ev (f := fun f t172 => if t172 = true then ((piece_Split.f f (str t) (k : Int) (n : Int)).bind fun bt173 => if bt173.2 = 0 then wholekeep_PieceLong.j0 f (str t) (k : Int) (n : Int) bt173.1 bt173.2 false else wholekeep_PieceLong.j0 f (str t) (k : Int) (n : Int) bt173.1 bt173.2 true) else some false) (Ev.congr (fun f => if_pos rfl) (Ev.bind hs (f := fun f (bt173 : List ByteArray × Int) => if bt173.2 = 0 then wholekeep_PieceLong.j0 f (str t) (k : Int) (n : Int) bt173.1 bt173.2 false else wholekeep_PieceLong.j0 f (str t) (k : Int) (n : Int) bt173.1 bt173.2 true) (Ev.congr (fun f => if_pos rfl) hj))))
      unfold wholekeep_PieceLong.f
      rw [decide_eq_false (by omega)]
    · exact fail 2 (by decide) fun f => split_long t (by omega) k n hk hkn hn f
end Go.Proofs.YtjbiiciippclcaaDoor.Pure
