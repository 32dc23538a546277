/- What is proved: the pieces of a text are proved by the root of their hash tree, and whichever one byte of them is another, they are joined to the text (the plain statement behind the law TopPieces). Conditions: none beyond the law's own. -/
import Derived.Test.YtjbiiciippclcaaTopD
import Derived.Test.YtjbiiciippclcaaTopE
namespace Go.Proofs.Ytjbiiciippclcaa.Pure
open Go.RowKit Go.Proofs.Ytjbiiciippclcaa.PTopPieces Go.Proofs.YtjbiiciippclcaaW.PrintWords Go.Proofs.YtjbiiciippclcaaW.PrintLast Go.Proofs.YtjbiiciippclcaaW.PrintMore Go.Proofs.Ytjbiiciippclcaa.GF

/-- The rest of a division by a small positive number. -/
theorem within_some (a m : Int) (h1 : 0 < m) (h2 : m ≤ 1000000) : wholekeep_Within.f a m = some (a % m) := by
  unfold wholekeep_Within.f wholeref_Rest.f
  rw [if_neg (by omega)]
  have e := Int.emod_nonneg a (show m ≠ 0 by omega)
  have e2 := Int.emod_lt_of_pos a h1
  by_cases h : Int.tmod a m < 0
  · rw [if_pos h]
    have h3 : Int.tmod a m = a % m - m := by
      rw [Int.tmod_eq_emod]
      by_cases h0 : 0 ≤ a ∨ m ∣ a
      · rw [Int.tmod_eq_emod, if_pos h0] at h; omega
      · rw [if_neg h0]; omega
    have h4 : wrap64 (Int.tmod a m + m) = a % m := by
      rw [h3]; unfold wrap64; omega
    rw [h4]; rfl
  · rw [if_neg h]
    have h3 : Int.tmod a m = a % m := by
      rw [Int.tmod_eq_emod] at h ⊢
      by_cases h0 : 0 ≤ a ∨ m ∣ a
      · rw [if_pos h0]; omega
      · rw [if_neg h0] at h; omega
    rw [h3]; rfl
/-- The rest, as a natural number. -/
theorem within_nat (a : Int) (m : Nat) (h1 : 0 < m) (h2 : m ≤ 1000000) : ∃ r : Nat, r < m ∧ wholekeep_Within.f a (m : Int) = some (r : Int) := by
  refine ⟨(a % m).toNat, ?_, ?_⟩
  · have := Int.emod_lt_of_pos a (show (0 : Int) < m by omega)
    have := Int.emod_nonneg a (show (m : Int) ≠ 0 by omega)
    omega
  · rw [within_some a m (by omega) (by omega), Int.toNat_of_nonneg (Int.emod_nonneg a (by omega))]
theorem works_at : (wholetop_works.f 90).getD false = true := by decide +kernel
theorem works_ev : Ev (fun k => wholetop_works.f k) true := by
  refine Ev.of wholetop_works.mono (k := 90) ?_
  cases e : wholetop_works.f 90 with
  | none => have := works_at; rw [e] at this; cases this
  | some b => have := works_at; rw [e] at this; exact congrArg some this
def plcB (k n : Nat) : Bool := (List.range (n + 1)).all fun w => plc (fun j => j != w) k n == lostP k (min w k)
theorem plc_tab : (List.range 7).all (fun k => (List.range 11).all fun n => if k < n then plcB k n else true) = true := by decide +kernel
theorem plc_at (k n w : Nat) (hk : k ≤ 6) (hkn : k < n) (hn : n ≤ 10) (hw : w ≤ n) : plc (fun j => j != w) k n = lostP k (min w k) := by
  have h := List.all_eq_true.1 (List.all_eq_true.1 plc_tab k (List.mem_range.2 (by omega))) n (List.mem_range.2 (by omega))
  rw [if_pos hkn] at h
  exact beq_iff_eq.1 (List.all_eq_true.1 h w (List.mem_range.2 (by omega)))
theorem pcs_length (t : List Nat) (k m n : Nat) : (pcs t k m n).length = n := by simp [pcs]
theorem pcs_getD (t : List Nat) (k m n j : Nat) (h : j < n) : (pcs t k m n).getD j ByteArray.empty = str (pcL t k m n j) := by rw [pcs, getD_map_range _ _ _ _ h]
theorem good3 : wholetop_good.f [0, 0, 0] = some true := rfl
theorem good2 : wholetop_good.f [0, 0] = some true := rfl
theorem short (t : List Nat) (ht : Bytes t) (hT : t.length ≤ 60) (k n : Nat) (hk : 1 ≤ k) (hk6 : k ≤ 6) (hkn : k < n) (hn : n ≤ 10) (a3 a4 : Int) (v : Nat) (hv : v < 256) :
    Ev (fun f => wholetop_TopPieces.j0 f (str t) (k : Int) a3 a4 (v : Int) (n : Int) (pcs t k (psize t.length k) n) false) true := by
  have hm60 := psize_le t.length k hk hT
  obtain ⟨m, hm⟩ : ∃ m, m = psize t.length k := ⟨_, rfl⟩
  rw [← hm] at hm60 ⊢
  have hpl := pcs_length t k m n
  have hsz : ∀ s, s ∈ pcs t k m n → s.size < 4611686018427387000 := by
    intro s hs
    obtain ⟨j, _, rfl⟩ := List.mem_map.1 hs
    rw [str_size, pcL_length]; omega
  obtain ⟨root, hroot, hp⟩ := tree_ev (pcs t k m n) (by omega) (by omega) hsz
  obtain ⟨at_, hat, ewat⟩ := within_nat a3 n (by omega) (by omega)
  obtain ⟨pf, hpf, hck⟩ := hp at_ (by omega)
  rw [hpl] at hck
  have hg := pcs_getD t k m n at_ hat
  have hgl : (pcL t k m n at_).length = m + 5 := pcL_length t k m n at_
  have hgb : Bytes (pcL t k m n at_) := pcL_bytes t ht k m n at_
  obtain ⟨pl, hpl2, ewpl⟩ := within_nat a4 (m + 5) (by omega) (by omega)
  obtain ⟨b1, hb1, hbt1⟩ := hck (str (pcL t k m n at_)) (by rw [str_size, hgl]; omega)
  obtain rfl : b1 = true := hbt1 hg.symm
  -- the piece with a byte that may be another
  obtain ⟨v', hv'⟩ : ∃ v', v' = (pcL t k m n at_).getD pl 0 ^^^ v := ⟨_, rfl⟩
  have hv'lt : v' < 256 := by rw [hv']; exact xor_lt (hgb pl) hv
  obtain ⟨l', hl'⟩ : ∃ l', l' = (pcL t k m n at_).set pl v' := ⟨_, rfl⟩
  obtain ⟨b2, hb2, hbt2⟩ := hck (str l') (by rw [str_size, hl', List.length_set, hgl]; omega)
  have hrdat : rdOf ByteArray.empty (pcs t k m n) (at_ : Int) = str (pcL t k m n at_) := by unfold rdOf; rw [Int.toNat_natCast]; exact hg
  have hrd2 : rdOf ByteArray.empty ((pcs t k m n).set at_ (str l')) (at_ : Int) = str l' := by unfold rdOf; rw [Int.toNat_natCast, getD_setG, if_pos ⟨rfl, by omega⟩]
  have hsame : v = 0 → l' = pcL t k m n at_ := by
    intro h0
    rw [hl', hv', h0, Nat.xor_zero]
    refine nat_ext (by rw [List.length_set]) fun j hj => ?_
    rw [getD_set]
    by_cases e : j = pl
    · subst e; rw [if_pos ⟨rfl, by omega⟩]
    · rw [if_neg (by omega)]
  obtain ⟨w, hw⟩ : ∃ w, w = if v = 0 then n else at_ := ⟨_, rfl⟩
  have hwn : w ≤ n := by rw [hw]; split <;> omega
  have hjoin : Ev (fun f => piece_Join.f f ((pcs t k m n).set at_ (str l')) (k : Int)) (str t, 0) := by
    refine join_ev t ht hT k n hk hk6 hkn hn (fun j => j != w) (min w k) (by omega) (plc_at k n w hk6 hkn hn hwn) _ (by rw [List.length_set]; exact hpl) m hm (fun j hj hu => ?_) (fun j hj hu => ?_) ?_
    · rw [getD_setG]
      by_cases e : j = at_
      · subst e
        have hv0 : v = 0 := by
          by_cases h : v = 0
          · exact h
          · rw [hw, if_neg h] at hu; simp at hu
        rw [if_pos ⟨rfl, by omega⟩, hsame hv0]
      · rw [if_neg (by omega)]; exact pcs_getD t k m n j hj
    · have e : j = w := by simpa using hu
      have hvn : v ≠ 0 := by
        intro h
        rw [hw, if_pos h] at e
        omega
      rw [hw, if_neg hvn] at e
      subst e
      refine ⟨8, by decide, ?_⟩
      rw [getD_setG, if_pos ⟨rfl, by omega⟩]
      have hc := check_ev l' (by rw [hl']; exact hgb.set pl v' hv'lt) k hk (by omega) (by rw [hl', List.length_set, hgl]; omega) (by rw [hl', List.length_set, hgl]; omega)
      have hbad : chk l' k = 8 := by
        rw [hl']
        refine chk_bad t.length k (part t k m n j m) (part_bytes t ht k m n j m) pl v' (by show pl < (pcL t k m n j).length; omega) hv'lt ?_
        show v' ≠ (pcL t k m n j).getD pl 0
        rw [hv']
        intro h
        have : (pcL t k m n j).getD pl 0 ^^^ v = (pcL t k m n j).getD pl 0 ^^^ 0 := by rw [Nat.xor_zero]; exact h
        exact hvn (xor_cancel_left this)
      rwa [hbad] at hc
    · by_cases e : w = 0
      · exact ⟨1, by omega, by simp [e]⟩
      · exact ⟨0, by omega, by simp; omega⟩
  have hj1 : Ev (fun f => wholetop_TopPieces.j1 f (str t) (k : Int) (at_ : Int) a4 (v : Int) (n : Int) (pcs t k m n) root pf false) true := by
    refine Ev.step (fun f => ?_) (Ev.bind hjoin (f := fun f (bt320 : ByteArray × Int) => (tree_Check.f f root (n : Int) (at_ : Int) (str l') pf).bind fun bt323 => ((wholetop_good.f (([bt320.2, bt323.2] : List Int))).bind fun t328 => (if t328 = true then (if bt320.1.toList = (str t).toList then (if (v : Int) = 0 then (some bt323.1) else (some true)) else (some false)) else (some false)))) (Ev.bind hb2 (f := fun f (bt323 : Bool × Int) => (wholetop_good.f (([0, bt323.2] : List Int))).bind fun t328 => (if t328 = true then (if (str t).toList = (str t).toList then (if (v : Int) = 0 then (some bt323.1) else (some true)) else (some false)) else (some false))) (Ev.congr (f := fun _ => some true) (fun f => ?_) (Ev.now _))))
    · simp only [wholetop_TopPieces.j1]
      rw [if_neg (by simp), if_pos (by omega), if_pos (by rw [hpl]; omega), hrdat, if_pos (by rw [str_size, hgl]; omega), Option.bind_some, bytesOf_str _ hgb, ints_length, hgl, ewpl, Option.bind_some, if_pos (by omega), if_pos (by omega), rd_ints, xor8 _ _ (hgb pl) hv, Int.toNat_natCast, Int.toNat_natCast, ints_set, ← hv', ← hl', Option.bind_some]
      rw [show strOfNums (ints l') = str l' from rfl, hrd2]
    · rw [good2, Option.bind_some, if_pos rfl, if_pos rfl]
      by_cases h0 : v = 0
      · rw [if_pos (by omega), hbt2 (by rw [hsame h0]; exact hg.symm)]
      · rw [if_neg (by omega)]
  refine Ev.step (fun f => ?_) (Ev.bind hroot (f := fun f (bt297 : Int × Int) => (tree_Prove.f f (pcs t k m n) (at_ : Int)).bind fun bt300 => ((tree_Check.f f bt297.1 (n : Int) (at_ : Int) (str (pcL t k m n at_)) bt300.1).bind fun bt305 => ((wholetop_good.f (([bt297.2, bt300.2, bt305.2] : List Int))).bind fun t310 => (if t310 = true then (if bt305.1 = true then (wholetop_TopPieces.j1 f (str t) (k : Int) (at_ : Int) a4 (v : Int) (n : Int) (pcs t k m n) bt297.1 bt300.1 false) else (wholetop_TopPieces.j1 f (str t) (k : Int) (at_ : Int) a4 (v : Int) (n : Int) (pcs t k m n) bt297.1 bt300.1 true)) else (wholetop_TopPieces.j1 f (str t) (k : Int) (at_ : Int) a4 (v : Int) (n : Int) (pcs t k m n) bt297.1 bt300.1 true)))))
    (Ev.bind hpf (f := fun f (bt300 : List Int × Int) => (tree_Check.f f root (n : Int) (at_ : Int) (str (pcL t k m n at_)) bt300.1).bind fun bt305 => ((wholetop_good.f (([0, bt300.2, bt305.2] : List Int))).bind fun t310 => (if t310 = true then (if bt305.1 = true then (wholetop_TopPieces.j1 f (str t) (k : Int) (at_ : Int) a4 (v : Int) (n : Int) (pcs t k m n) root bt300.1 false) else (wholetop_TopPieces.j1 f (str t) (k : Int) (at_ : Int) a4 (v : Int) (n : Int) (pcs t k m n) root bt300.1 true)) else (wholetop_TopPieces.j1 f (str t) (k : Int) (at_ : Int) a4 (v : Int) (n : Int) (pcs t k m n) root bt300.1 true))))
    (Ev.bind hb1 (f := fun f (bt305 : Bool × Int) => (wholetop_good.f (([0, 0, bt305.2] : List Int))).bind fun t310 => (if t310 = true then (if bt305.1 = true then (wholetop_TopPieces.j1 f (str t) (k : Int) (at_ : Int) a4 (v : Int) (n : Int) (pcs t k m n) root pf false) else (wholetop_TopPieces.j1 f (str t) (k : Int) (at_ : Int) a4 (v : Int) (n : Int) (pcs t k m n) root pf true)) else (wholetop_TopPieces.j1 f (str t) (k : Int) (at_ : Int) a4 (v : Int) (n : Int) (pcs t k m n) root pf true))) (Ev.congr (fun f => ?_) hj1))))
  · simp only [wholetop_TopPieces.j0]
    rw [if_neg (by simp), hpl, ewat]
    simp only [Option.bind_some]
    congr 1
    funext bt297
    congr 1
    funext bt300
    rw [if_pos (show (0 : Int) ≤ (at_ : Int) by omega), if_pos (show (at_ : Int) < (n : Int) by omega), hrdat, show ((((str (pcL t k m n at_)).size : Nat) : Int) == 0) = false by rw [str_size, hgl]; simp; omega]
  · rw [good3, Option.bind_some, if_pos rfl, if_pos rfl]

theorem bounds8 {n : Int} (h : (Lit.int .u8 n).wf = true) : 0 ≤ n ∧ n ≤ 255 := by
  simp [Lit.wf, IntKind.min, IntKind.max, IntKind.signed, IntKind.bits] at h
  omega
theorem TopPieces : wholetop_TopPieces.Pure := by
  intro a0 a1 a2 a3 a4 a5 _ _ _ _ _ hw5
  obtain ⟨t, rfl, ht⟩ : ∃ t, a0 = str t ∧ Bytes t := ⟨nats a0, (str_nats a0).symm, nats_bytes a0⟩
  obtain ⟨v, rfl, hv⟩ : ∃ v : Nat, a5 = (v : Int) ∧ v < 256 := by
    have := bounds8 hw5
    exact ⟨a5.toNat, by omega, by omega⟩
  obtain ⟨k0, hk0, e1⟩ := within_nat a1 6 (by omega) (by omega)
  obtain ⟨n0, hn0, e2⟩ := within_nat a2 3 (by omega) (by omega)
  refine Ev.rounds ?_
  have ek : wrap64 (1 + (k0 : Int)) = ((1 + k0 : Nat) : Int) := by unfold wrap64; omega
  have en : wrap64 (wrap64 (((1 + k0 : Nat) : Int) + 1) + (n0 : Int)) = ((1 + k0 + 1 + n0 : Nat) : Int) := by unfold wrap64; omega
  have EK := Hold.mk ek
  have EN := Hold.mk en
  clear ek en
  obtain ⟨k, hk⟩ : ∃ k, k = 1 + k0 := ⟨_, rfl⟩
  obtain ⟨n, hn⟩ : ∃ n, n = k + 1 + n0 := ⟨_, rfl⟩
  rw [← hk] at EK EN
  rw [← hn] at EN
  by_cases hT : t.length ≤ 60
  · have hs := split_ev t ht hT k n (by omega) (by omega) (by omega)
    have hj := short t ht hT k n (by omega) (by omega) (by omega) (by omega) a3 a4 v hv
    refine Ev.congr (fun f => ?_) (Ev.bind hs (f := fun f (bt291 : List ByteArray × Int) => (wholetop_works.f f).bind fun t295 => (if t295 = true then (wholetop_TopPieces.j0 f (str t) (k : Int) a3 a4 (v : Int) (n : Int) bt291.1 (bt291.2 != 0)) else (wholetop_TopPieces.j0 f (str t) (k : Int) a3 a4 (v : Int) (n : Int) bt291.1 true))) (Ev.bind works_ev (f := fun f t295 => if t295 = true then (wholetop_TopPieces.j0 f (str t) (k : Int) a3 a4 (v : Int) (n : Int) (pcs t k (psize t.length k) n) ((0 : Int) != 0)) else (wholetop_TopPieces.j0 f (str t) (k : Int) a3 a4 (v : Int) (n : Int) (pcs t k (psize t.length k) n) true)) (Ev.congr (fun f => if_pos rfl) hj)))
    unfold wholetop_TopPieces.f
    rw [show (6 : Int) = ((6 : Nat) : Int) from rfl, e1, Option.bind_some, show (3 : Int) = ((3 : Nat) : Int) from rfl, e2, Option.bind_some, EK.out, EN.out]
  · have hs := split_long t (by omega) k n (by omega) (by omega) (by omega)
    have hj : Ev (fun f => wholetop_TopPieces.j0 f (str t) (k : Int) a3 a4 (v : Int) (n : Int) [] true) true := by
      refine Ev.step (fun f => ?_) (Ev.bind works_ev (f := fun f t296 => if t296 = true then some (decide (((str t).size : Int) > 60)) else some false) (Ev.congr (f := fun _ => some true) (fun f => ?_) (Ev.now _)))
      · simp only [wholetop_TopPieces.j0]
        rw [if_pos (by simp)]
      · rw [if_pos rfl, decide_eq_true (by rw [str_size]; omega)]
    refine Ev.congr (fun f => ?_) (Ev.bind works_ev (f := fun f t295 => if t295 = true then (wholetop_TopPieces.j0 f (str t) (k : Int) a3 a4 (v : Int) (n : Int) [] ((2 : Int) != 0)) else (wholetop_TopPieces.j0 f (str t) (k : Int) a3 a4 (v : Int) (n : Int) [] true)) (Ev.congr (fun f => if_pos rfl) hj))
    unfold wholetop_TopPieces.f
    rw [show (6 : Int) = ((6 : Nat) : Int) from rfl, e1, Option.bind_some, show (3 : Int) = ((3 : Nat) : Int) from rfl, e2, Option.bind_some, EK.out, EN.out, hs, Option.bind_some]
end Go.Proofs.Ytjbiiciippclcaa.Pure
