/- What is proved here: Go functions of the program come to what the Lean functions beside them tell. Conditions: those that each theorem names. (Written by wip/printx.py of this session, after the guide print.sh.) -/
import Derived.Test.YtjbiiciippclcaaPTopPiecesx0
import Derived.Test.YtjbiiciippclcaaPTopPiecesx2
import Derived.Test.YtjbiiciippclcaaPTopPiecesx6
import Derived.Test.YtjbiiciippclcaaPTopPiecesx8
namespace Go.Proofs.Ytjbiiciippclcaa.PTopPieces
open Go.RowKit Go.Proofs.YtjbiiciippclcaaW.PrintWords Go.Proofs.YtjbiiciippclcaaW.PrintLast Go.Proofs.YtjbiiciippclcaaW.PrintMore
attribute [local go_sem] max2_int min2_int max_two min_two max_three min_three max_four min_four   -- for this text's walks alone
set_option linter.unusedVariables false
set_option linter.unusedSimpArgs false

/-! ### piece_Join: function 14 -/
mutual
def piece_Join.l0 : Nat → List ByteArray → Int → List Bool → Int → List ByteArray → Int → Int → Option (ByteArray × Int)
  | 0, _, _, _, _, _, _, _ => none
  | k + 1, x0, x1, x6, x7, x27, x28, x29 => if x29 < x28 then (if 0 ≤ x29 then (if x29 < (x27.length : Int) then ((piece_Check.f k (rdOf ByteArray.empty x27 x29) x1).bind fun t265 => (if x29 < (x6.length : Int) then ((some (x6.set (x29 : Int).toNat (t265 == 0) : List Bool)).bind fun y266 => (if rdOf false y266 x29 = true then (if x7 ≥ 0 then (if 0 < ((rdOf ByteArray.empty x27 x29).size : Int) then (if (wrap64 (bt (rdOf ByteArray.empty x27 x29) 0)) = x7 then (piece_Join.l0 k x0 x1 y266 (wrap64 (bt (rdOf ByteArray.empty x27 x29) 0)) x27 x28 (wrap64 (x29 + 1))) else (some ((⟨#[]⟩ : ByteArray), 3))) else (none)) else (if 0 < ((rdOf ByteArray.empty x27 x29).size : Int) then (piece_Join.l0 k x0 x1 y266 (wrap64 (bt (rdOf ByteArray.empty x27 x29) 0)) x27 x28 (wrap64 (x29 + 1))) else (none))) else (piece_Join.l0 k x0 x1 y266 x7 x27 x28 (wrap64 (x29 + 1))))) else (none))) else (none)) else (none)) else ((piece_size.f (mx x7 0) x1).bind fun t268 => (if 0 ≤ (wrap64 (x1 * t268)) then (if (wrap64 (x1 * t268) : Int).toNat ≤ 281474976710656 then (piece_Join.l1 k x0 x1 x6 x7 t268 (List.replicate (wrap64 (x1 * t268) : Int).toNat 0) (mx t268 1) 0) else (none)) else (none)))
def piece_Join.l1 : Nat → List ByteArray → Int → List Bool → Int → Int → List Int → Int → Int → Option (ByteArray × Int)
  | 0, _, _, _, _, _, _, _, _ => none
  | k + 1, x0, x1, x6, x7, x10, x11, x68, x69 => if x69 < x68 then (if 0 ≤ (x0.length : Int) then (if ((x0.length : Int) : Int).toNat ≤ 140737488355328 then (piece_Join.l2 k x0 x1 x6 x7 x10 x11 x69 (List.replicate ((x0.length : Int) : Int).toNat z93) x68 x69 x0 (x0.length : Int) 0) else (none)) else (none)) else (if 0 ≤ (mx x7 0) then (if (mx x7 0) ≤ (x11.length : Int) then (some (strOfNums (x11.take ((mx x7 0) : Int).toNat), 0)) else (none)) else (none))
def piece_Join.l2 : Nat → List ByteArray → Int → List Bool → Int → Int → List Int → Int → List (S93) → Int → Int → List ByteArray → Int → Int → Option (ByteArray × Int)
  | 0, _, _, _, _, _, _, _, _, _, _, _, _, _ => none
  | k + 1, x0, x1, x6, x7, x10, x11, x12, x13, x68, x69, x75, x76, x77 => if x77 < x76 then (if 0 ≤ x77 then (if x77 < (x75.length : Int) then (if x77 < (x6.length : Int) then (if rdOf false x6 x77 = true then (if x77 < (x13.length : Int) then ((some (x13.set (x77 : Int).toNat (⟨true, (rd_T93 x13 x77).f1⟩ : S93) : List (S93))).bind fun y281 => (if x10 > 0 then (if 0 ≤ (wrap64 (1 + x12)) then (if (wrap64 (1 + x12)) < ((rdOf ByteArray.empty x75 x77).size : Int) then (piece_Join.l2 k x0 x1 x6 x7 x10 x11 x12 (y281.set (x77 : Int).toNat (⟨(rd_T93 y281 x77).f0, bt (rdOf ByteArray.empty x75 x77) (wrap64 (1 + x12))⟩ : S93)) x68 x69 x75 x76 (wrap64 (x77 + 1))) else (none)) else (none)) else (piece_Join.l2 k x0 x1 x6 x7 x10 x11 x12 y281 x68 x69 x75 x76 (wrap64 (x77 + 1))))) else (none)) else (piece_Join.l2 k x0 x1 x6 x7 x10 x11 x12 x13 x68 x69 x75 x76 (wrap64 (x77 + 1)))) else (none)) else (none)) else (none)) else ((reed_Mend.f k x13 x1).bind fun bt283 => (if bt283.2 = 0 then (piece_Join.l3 k x0 x1 x6 x7 x10 x11 x12 bt283.1 x68 x69 x1 0) else (some ((⟨#[]⟩ : ByteArray), bt283.2))))
def piece_Join.l3 : Nat → List ByteArray → Int → List Bool → Int → Int → List Int → Int → List Int → Int → Int → Int → Int → Option (ByteArray × Int)
  | 0, _, _, _, _, _, _, _, _, _, _, _, _ => none
  | k + 1, x0, x1, x6, x7, x10, x11, x12, x16, x68, x69, x110, x111 => if x111 < x110 then (if x10 > 0 then (if 0 ≤ x111 then (if x111 < (x16.length : Int) then (if 0 ≤ (wrap64 ((wrap64 (x111 * x10)) + x12)) then (if (wrap64 ((wrap64 (x111 * x10)) + x12)) < (x11.length : Int) then (piece_Join.l3 k x0 x1 x6 x7 x10 (x11.set ((wrap64 ((wrap64 (x111 * x10)) + x12)) : Int).toNat (rd x16 x111)) x12 x16 x68 x69 x110 (wrap64 (x111 + 1))) else (none)) else (none)) else (none)) else (none)) else (piece_Join.l3 k x0 x1 x6 x7 x10 x11 x12 x16 x68 x69 x110 (wrap64 (x111 + 1)))) else (piece_Join.l1 k x0 x1 x6 x7 x10 x11 x68 (wrap64 (x69 + 1)))
end
def piece_Join.f (k : Nat) (l0 : List ByteArray) (a1 : Int) : Option (ByteArray × Int) := (piece_right.f a1 (l0.length : Int)).bind fun t260 => (if t260 = true then (if 0 ≤ (l0.length : Int) then (if ((l0.length : Int) : Int).toNat ≤ 281474976710656 then (piece_Join.l0 k l0 a1 (List.replicate ((l0.length : Int) : Int).toNat false) (-1) l0 (l0.length : Int) 0) else (none)) else (none)) else (some ((⟨#[]⟩ : ByteArray), 1)))
theorem piece_Join.mono_l : ∀ k, (∀ y0 y1 y2 y3 y4 y5 y6, LeO (piece_Join.l0 k y0 y1 y2 y3 y4 y5 y6) (piece_Join.l0 (k + 1) y0 y1 y2 y3 y4 y5 y6)) ∧ (∀ y0 y1 y2 y3 y4 y5 y6 y7, LeO (piece_Join.l1 k y0 y1 y2 y3 y4 y5 y6 y7) (piece_Join.l1 (k + 1) y0 y1 y2 y3 y4 y5 y6 y7)) ∧ (∀ y0 y1 y2 y3 y4 y5 y6 y7 y8 y9 y10 y11 y12, LeO (piece_Join.l2 k y0 y1 y2 y3 y4 y5 y6 y7 y8 y9 y10 y11 y12) (piece_Join.l2 (k + 1) y0 y1 y2 y3 y4 y5 y6 y7 y8 y9 y10 y11 y12)) ∧ (∀ y0 y1 y2 y3 y4 y5 y6 y7 y8 y9 y10 y11, LeO (piece_Join.l3 k y0 y1 y2 y3 y4 y5 y6 y7 y8 y9 y10 y11) (piece_Join.l3 (k + 1) y0 y1 y2 y3 y4 y5 y6 y7 y8 y9 y10 y11))
  | 0 => ⟨fun _ _ _ _ _ _ _ r h => by simp [piece_Join.l0] at h, fun _ _ _ _ _ _ _ _ r h => by simp [piece_Join.l1] at h, fun _ _ _ _ _ _ _ _ _ _ _ _ _ r h => by simp [piece_Join.l2] at h, fun _ _ _ _ _ _ _ _ _ _ _ _ r h => by simp [piece_Join.l3] at h⟩
  | k + 1 => by
    obtain ⟨ih0, ih1, ih2, ih3⟩ := piece_Join.mono_l k
    refine ⟨?_, ?_, ?_, ?_⟩
    · intro y0 y1 y2 y3 y4 y5 y6
      unfold piece_Join.l0
      repeat' first
      | (with_reducible exact ih0 _ _ _ _ _ _ _)
      | (with_reducible exact ih1 _ _ _ _ _ _ _ _)
      | (with_reducible exact ih2 _ _ _ _ _ _ _ _ _ _ _ _ _)
      | (with_reducible exact ih3 _ _ _ _ _ _ _ _ _ _ _ _)
      | (with_reducible exact piece_Check.mono _ _ _)
      | (with_reducible exact reed_Mend.mono _ _ _)
      | (with_reducible exact LeO.refl _)
      | (with_reducible exact LeO.none _)
      | (with_reducible refine LeO.ite ?_ ?_)
      | (with_reducible refine LeO.bind ?_ (fun _ => ?_))
      | exact ih0 _ _ _ _ _ _ _
      | exact ih1 _ _ _ _ _ _ _ _
      | exact ih2 _ _ _ _ _ _ _ _ _ _ _ _ _
      | exact ih3 _ _ _ _ _ _ _ _ _ _ _ _
      | exact piece_Check.mono _ _ _
      | exact reed_Mend.mono _ _ _
      | exact LeO.none _
      | refine LeO.ite ?_ ?_
      | refine LeO.bind ?_ (fun _ => ?_)
    · intro y0 y1 y2 y3 y4 y5 y6 y7
      unfold piece_Join.l1
      repeat' first
      | (with_reducible exact ih0 _ _ _ _ _ _ _)
      | (with_reducible exact ih1 _ _ _ _ _ _ _ _)
      | (with_reducible exact ih2 _ _ _ _ _ _ _ _ _ _ _ _ _)
      | (with_reducible exact ih3 _ _ _ _ _ _ _ _ _ _ _ _)
      | (with_reducible exact piece_Check.mono _ _ _)
      | (with_reducible exact reed_Mend.mono _ _ _)
      | (with_reducible exact LeO.refl _)
      | (with_reducible exact LeO.none _)
      | (with_reducible refine LeO.ite ?_ ?_)
      | (with_reducible refine LeO.bind ?_ (fun _ => ?_))
      | exact ih0 _ _ _ _ _ _ _
      | exact ih1 _ _ _ _ _ _ _ _
      | exact ih2 _ _ _ _ _ _ _ _ _ _ _ _ _
      | exact ih3 _ _ _ _ _ _ _ _ _ _ _ _
      | exact piece_Check.mono _ _ _
      | exact reed_Mend.mono _ _ _
      | exact LeO.none _
      | refine LeO.ite ?_ ?_
      | refine LeO.bind ?_ (fun _ => ?_)
    · intro y0 y1 y2 y3 y4 y5 y6 y7 y8 y9 y10 y11 y12
      unfold piece_Join.l2
      repeat' first
      | (with_reducible exact ih0 _ _ _ _ _ _ _)
      | (with_reducible exact ih1 _ _ _ _ _ _ _ _)
      | (with_reducible exact ih2 _ _ _ _ _ _ _ _ _ _ _ _ _)
      | (with_reducible exact ih3 _ _ _ _ _ _ _ _ _ _ _ _)
      | (with_reducible exact piece_Check.mono _ _ _)
      | (with_reducible exact reed_Mend.mono _ _ _)
      | (with_reducible exact LeO.refl _)
      | (with_reducible exact LeO.none _)
      | (with_reducible refine LeO.ite ?_ ?_)
      | (with_reducible refine LeO.bind ?_ (fun _ => ?_))
      | exact ih0 _ _ _ _ _ _ _
      | exact ih1 _ _ _ _ _ _ _ _
      | exact ih2 _ _ _ _ _ _ _ _ _ _ _ _ _
      | exact ih3 _ _ _ _ _ _ _ _ _ _ _ _
      | exact piece_Check.mono _ _ _
      | exact reed_Mend.mono _ _ _
      | exact LeO.none _
      | refine LeO.ite ?_ ?_
      | refine LeO.bind ?_ (fun _ => ?_)
    · intro y0 y1 y2 y3 y4 y5 y6 y7 y8 y9 y10 y11
      unfold piece_Join.l3
      repeat' first
      | (with_reducible exact ih0 _ _ _ _ _ _ _)
      | (with_reducible exact ih1 _ _ _ _ _ _ _ _)
      | (with_reducible exact ih2 _ _ _ _ _ _ _ _ _ _ _ _ _)
      | (with_reducible exact ih3 _ _ _ _ _ _ _ _ _ _ _ _)
      | (with_reducible exact piece_Check.mono _ _ _)
      | (with_reducible exact reed_Mend.mono _ _ _)
      | (with_reducible exact LeO.refl _)
      | (with_reducible exact LeO.none _)
      | (with_reducible refine LeO.ite ?_ ?_)
      | (with_reducible refine LeO.bind ?_ (fun _ => ?_))
      | exact ih0 _ _ _ _ _ _ _
      | exact ih1 _ _ _ _ _ _ _ _
      | exact ih2 _ _ _ _ _ _ _ _ _ _ _ _ _
      | exact ih3 _ _ _ _ _ _ _ _ _ _ _ _
      | exact piece_Check.mono _ _ _
      | exact reed_Mend.mono _ _ _
      | exact LeO.none _
      | refine LeO.ite ?_ ?_
      | refine LeO.bind ?_ (fun _ => ?_)
theorem piece_Join.mono : ∀ a0 a1 k, LeO (piece_Join.f k a0 a1) (piece_Join.f (k + 1) a0 a1) := by
  intro a0 a1 k
  obtain ⟨ih0, ih1, ih2, ih3⟩ := piece_Join.mono_l k
  unfold piece_Join.f
  repeat' first
      | (with_reducible exact ih0 _ _ _ _ _ _ _)
      | (with_reducible exact ih1 _ _ _ _ _ _ _ _)
      | (with_reducible exact ih2 _ _ _ _ _ _ _ _ _ _ _ _ _)
      | (with_reducible exact ih3 _ _ _ _ _ _ _ _ _ _ _ _)
      | (with_reducible exact piece_Check.mono _ _ _)
      | (with_reducible exact reed_Mend.mono _ _ _)
      | (with_reducible exact LeO.refl _)
      | (with_reducible exact LeO.none _)
      | (with_reducible refine LeO.ite ?_ ?_)
      | (with_reducible refine LeO.bind ?_ (fun _ => ?_))
      | exact ih0 _ _ _ _ _ _ _
      | exact ih1 _ _ _ _ _ _ _ _
      | exact ih2 _ _ _ _ _ _ _ _ _ _ _ _ _
      | exact ih3 _ _ _ _ _ _ _ _ _ _ _ _
      | exact piece_Check.mono _ _ _
      | exact reed_Mend.mono _ _ _
      | exact LeO.none _
      | refine LeO.ite ?_ ?_
      | refine LeO.bind ?_ (fun _ => ?_)
set_option maxHeartbeats 8000000 in
set_option maxRecDepth 100000 in
theorem piece_Join.calls (k : Nat) (A0 : Option Addr) (c0 : Nat) (l0 : List ByteArray) (a1 : Int) (r1 : ByteArray) (r2 : Int) (w : World) (hr0 : Kd.C Kd.string w A0 l0.length l0) (hc0 : l0.length ≤ c0) (h : piece_Join.f k l0 a1 = some (r1, r2)) :
    Calls Try.prog 14 #[.slice A0 l0.length c0, .int .i64 a1] w fun e w' => e = .returned (.tuple #[.string r1, .int .i64 r2]) ∧ Below w.heap.size w w' := by
  have HR0 := Aside0.mk hr0
  have HC0 := Aside0.mk hc0
  clear hr0 hc0
  have HB := Aside0.mk (Below.refl w.heap.size w)
  have H : ((piece_right.f a1 (l0.length : Int)).bind fun t260 => (if t260 = true then (if 0 ≤ (l0.length : Int) then (if ((l0.length : Int) : Int).toNat ≤ 281474976710656 then (piece_Join.l0 k l0 a1 (List.replicate ((l0.length : Int) : Int).toNat false) (-1) l0 (l0.length : Int) 0) else (none)) else (none)) else (some ((⟨#[]⟩ : ByteArray), 1)))) = some (r1, r2) := h
  clear h
  replace H := Option.bind_eq_some_iff.mp H
  obtain ⟨t260, A30, H⟩ := H
  replace H : (if t260 = true then (if 0 ≤ (l0.length : Int) then (if ((l0.length : Int) : Int).toNat ≤ 281474976710656 then (piece_Join.l0 k l0 a1 (List.replicate ((l0.length : Int) : Int).toNat false) (-1) l0 (l0.length : Int) 0) else (none)) else (none)) else (some ((⟨#[]⟩ : ByteArray), 1))) = some (r1, r2) := H
  have A3 := Aside0.mk A30
  clear A30
  by_cases c4 : t260 = true
  · subst c4
    have H1 : (if 0 ≤ (l0.length : Int) then (if ((l0.length : Int) : Int).toNat ≤ 281474976710656 then (piece_Join.l0 k l0 a1 (List.replicate ((l0.length : Int) : Int).toNat false) (-1) l0 (l0.length : Int) 0) else (none)) else (none)) = some (r1, r2) := by rw [if_pos rfl] at H; exact H
    clear H
    have H := H1
    clear H1
    by_cases c5 : 0 ≤ (l0.length : Int)
    · rw [if_pos c5] at H
      have c5b0 := eq_true c5
      have c5b1 : decide (0 ≤ (l0.length : Int)) = true := decide_eq_true c5
      clear c5
      by_cases c6 : ((l0.length : Int) : Int).toNat ≤ 281474976710656
      · rw [if_pos c6] at H
        have c6b0 := eq_true c6
        have c6b1 : decide (((l0.length : Int) : Int).toNat ≤ 281474976710656) = true := decide_eq_true c6
        clear c6
        obtain ⟨y261, hy261⟩ : ∃ y_ : List Bool, y_ = (List.replicate ((l0.length : Int) : Int).toNat false) := ⟨_, rfl⟩
        replace H : (piece_Join.l0 k l0 a1 y261 (-1) l0 (l0.length : Int) 0) = some (r1, r2) := by first | (rw [hy261]; with_reducible exact H) | (have H2_ := (Option.bind_some _ _).symm.trans H; rw [hy261]; with_reducible exact H2_) | (have H2_ := (Option.bind_some _ _).symm.trans H; with_reducible exact H2_) | with_reducible exact H | (rw [hy261]; exact H) | exact H
        have Ny261 := Aside0.mk hy261
        clear hy261
        have H' := Aside0.mk H
        clear H
        go_enter Try.func14, Try.ntmps14
        go_wp2_with (first | ((with_reducible refine gate_callee (f := 33) rfl ?_); refine goesL_ (some 22) rfl rfl Try.func33 (by kernel_rfl) rfl #[.int .i64 a1, .int .i64 (l0.length : Int)] rfl (by (try simp only [List.map_toArray, List.map_cons, List.map_nil]); first | done | rfl | (simp only [List.length_drop, List.length_take]; rfl)) ?_; (with_reducible refine (piece_right.calls a1 (l0.length : Int) true _ A3.out).mono ?_); rintro e w' ⟨rfl, ⟨nd, rfl⟩⟩; refine ⟨_, rfl, ?_⟩) | ((with_reducible refine gate_dst (N := 26) rfl ?_); refine Kd.R_make Kd.bool _ 4 rfl (N := 26) rfl 89 _ _ rfl (l0.length : Int) rfl rfl Try.underlying89 (.bool false) 1 info4 rfl (by decide) (by omega) false (ok := fun _ => True) (okp := fun _ => True) rfl (fun _ hk => hk) trivial (of_decide_eq_true (by first | (with_reducible assumption) | assumption)) (Nat.le_trans (Nat.mul_le_mul_right _ (of_decide_eq_true (by first | (with_reducible assumption) | assumption) : (l0.length : Int).toNat ≤ 281474976710656)) (by omega)) (Below.refl _ _) (Nat.le_refl _) ?_; intro v262 w7 ho8 hb hg_ hnew_; clear hg_ hnew_; (first | rw [← Ny261.out] at ho8 | (simp only [Int.reduceToNat] at ho8; rw [← Ny261.out] at ho8)); have n0_ := Aside0.mk (Kd.R_lower ho8 (below_size (by repeat (first | (with_reducible first | exact HB.out | apply below_alloc | apply pw_below_drewN | apply below_drew1) | exact HB.out)))); have n1_ := Aside0.mk (below_step (by repeat (first | (with_reducible first | exact HB.out | apply below_alloc | apply pw_below_drewN | apply below_drew1) | exact HB.out)) hb); clear HB; have HO263 := n0_; have HB := n1_; clear n0_ n1_; clear hb ho8))
        go_loopg [7, 29] k (fun kq v7 v29 w' => ∃ (x6_1 : List Bool) (x7_1 : Int) (x29_1 : Int), v7 = .int .i64 x7_1 ∧ v29 = .int .i64 x29_1 ∧ Aside0 (piece_Join.l0 kq l0 a1 x6_1 x7_1 l0 (l0.length : Int) x29_1 = some (r1, r2)) ∧ Aside0 (kq ≤ k) ∧ Aside0 (Kd.R Kd.bool 4 w' w.heap.size (fun _ => True) v262 x6_1) ∧ Aside0 (Below w.heap.size w w'))
        case atStart => exact ⟨(y261), ((-1)), (0), (by first | rfl | (simp; done) | (simp [*]; done)), (by first | rfl | (simp; done) | (simp [*]; done)), H', ⟨Nat.le_refl _⟩, ⟨by (with_reducible repeat (first | apply Kd.R_alloc | apply Kd.R_drewN | apply Kd.R_drew)); exact HO263.out⟩, ⟨by repeat (first | (with_reducible first | exact HB.out | apply below_alloc | apply pw_below_drewN | apply below_drew1) | exact HB.out)⟩⟩
        case round =>
          clear H'
          try clear c1
          try clear p2
          try clear c3
          try clear c4
          try clear c5
          try clear c5b0
          try clear c5b1
          try clear c6
          try clear c6b0
          try clear c6b1
          obtain ⟨x6_1, x7_1, x29_1, rfl, rfl, HA, HK1, HO_6, HB⟩ := hrel
          cases gk with
          | zero => exact absurd HA.out (by simp [piece_Join.l0])
          | succ k1 =>
            have H := HA.out
            clear HA
            simp only [piece_Join.l0] at H
            by_cases c9 : x29_1 < (l0.length : Int)
            · rw [if_pos c9] at H
              have c9b0 : decide (x29_1 < (l0.length : Int)) = true := decide_eq_true c9
              clear c9
              by_cases c10 : 0 ≤ x29_1
              · rw [if_pos c10] at H
                have c10b0 : decide (0 ≤ x29_1) = true := decide_eq_true c10
                clear c10
                by_cases c11 : x29_1 < (l0.length : Int)
                · rw [if_pos c11] at H
                  have c11b0 : decide (x29_1 < (l0.length : Int)) = true := decide_eq_true c11
                  clear c11
                  replace H := Option.bind_eq_some_iff.mp H
                  obtain ⟨t265, A120, H⟩ := H
                  replace H : (if x29_1 < (x6_1.length : Int) then ((some (x6_1.set (x29_1 : Int).toNat (t265 == 0) : List Bool)).bind fun y266 => (if rdOf false y266 x29_1 = true then (if x7_1 ≥ 0 then (if 0 < ((rdOf ByteArray.empty l0 x29_1).size : Int) then (if (wrap64 (bt (rdOf ByteArray.empty l0 x29_1) 0)) = x7_1 then (piece_Join.l0 k1 l0 a1 y266 (wrap64 (bt (rdOf ByteArray.empty l0 x29_1) 0)) l0 (l0.length : Int) (wrap64 (x29_1 + 1))) else (some ((⟨#[]⟩ : ByteArray), 3))) else (none)) else (if 0 < ((rdOf ByteArray.empty l0 x29_1).size : Int) then (piece_Join.l0 k1 l0 a1 y266 (wrap64 (bt (rdOf ByteArray.empty l0 x29_1) 0)) l0 (l0.length : Int) (wrap64 (x29_1 + 1))) else (none))) else (piece_Join.l0 k1 l0 a1 y266 x7_1 l0 (l0.length : Int) (wrap64 (x29_1 + 1))))) else (none)) = some (r1, r2) := H
                  have A12 := Aside0.mk A120
                  clear A120
                  by_cases c13 : x29_1 < (x6_1.length : Int)
                  · rw [if_pos c13] at H
                    have c13b0 : decide (x29_1 < (x6_1.length : Int)) = true := decide_eq_true c13
                    clear c13
                    obtain ⟨y266, hy266⟩ : ∃ y_ : List Bool, y_ = (x6_1.set (x29_1 : Int).toNat (t265 == 0)) := ⟨_, rfl⟩
                    replace H : (if rdOf false y266 x29_1 = true then (if x7_1 ≥ 0 then (if 0 < ((rdOf ByteArray.empty l0 x29_1).size : Int) then (if (wrap64 (bt (rdOf ByteArray.empty l0 x29_1) 0)) = x7_1 then (piece_Join.l0 k1 l0 a1 y266 (wrap64 (bt (rdOf ByteArray.empty l0 x29_1) 0)) l0 (l0.length : Int) (wrap64 (x29_1 + 1))) else (some ((⟨#[]⟩ : ByteArray), 3))) else (none)) else (if 0 < ((rdOf ByteArray.empty l0 x29_1).size : Int) then (piece_Join.l0 k1 l0 a1 y266 (wrap64 (bt (rdOf ByteArray.empty l0 x29_1) 0)) l0 (l0.length : Int) (wrap64 (x29_1 + 1))) else (none))) else (piece_Join.l0 k1 l0 a1 y266 x7_1 l0 (l0.length : Int) (wrap64 (x29_1 + 1)))) = some (r1, r2) := by first | (rw [hy266]; with_reducible exact H) | (have H2_ := (Option.bind_some _ _).symm.trans H; rw [hy266]; with_reducible exact H2_) | (have H2_ := (Option.bind_some _ _).symm.trans H; with_reducible exact H2_) | with_reducible exact H | (rw [hy266]; exact H) | exact H
                    have Ny266 := Aside0.mk hy266
                    clear hy266
                    obtain ⟨bq15, hbq15⟩ : ∃ b_ : Bool, b_ = (rdOf false y266 x29_1) := ⟨_, rfl⟩
                    replace H : (if bq15 = true then (if x7_1 ≥ 0 then (if 0 < ((rdOf ByteArray.empty l0 x29_1).size : Int) then (if (wrap64 (bt (rdOf ByteArray.empty l0 x29_1) 0)) = x7_1 then (piece_Join.l0 k1 l0 a1 y266 (wrap64 (bt (rdOf ByteArray.empty l0 x29_1) 0)) l0 (l0.length : Int) (wrap64 (x29_1 + 1))) else (some ((⟨#[]⟩ : ByteArray), 3))) else (none)) else (if 0 < ((rdOf ByteArray.empty l0 x29_1).size : Int) then (piece_Join.l0 k1 l0 a1 y266 (wrap64 (bt (rdOf ByteArray.empty l0 x29_1) 0)) l0 (l0.length : Int) (wrap64 (x29_1 + 1))) else (none))) else (piece_Join.l0 k1 l0 a1 y266 x7_1 l0 (l0.length : Int) (wrap64 (x29_1 + 1)))) = some (r1, r2) := by rw [← hbq15] at H; exact H
                    have Nbq15 := Aside0.mk hbq15
                    clear hbq15
                    by_cases c16 : bq15 = true
                    · subst c16
                      have H1 : (if x7_1 ≥ 0 then (if 0 < ((rdOf ByteArray.empty l0 x29_1).size : Int) then (if (wrap64 (bt (rdOf ByteArray.empty l0 x29_1) 0)) = x7_1 then (piece_Join.l0 k1 l0 a1 y266 (wrap64 (bt (rdOf ByteArray.empty l0 x29_1) 0)) l0 (l0.length : Int) (wrap64 (x29_1 + 1))) else (some ((⟨#[]⟩ : ByteArray), 3))) else (none)) else (if 0 < ((rdOf ByteArray.empty l0 x29_1).size : Int) then (piece_Join.l0 k1 l0 a1 y266 (wrap64 (bt (rdOf ByteArray.empty l0 x29_1) 0)) l0 (l0.length : Int) (wrap64 (x29_1 + 1))) else (none))) = some (r1, r2) := by rw [if_pos rfl] at H; exact H
                      clear H
                      have H := H1
                      clear H1
                      by_cases c17 : x7_1 ≥ 0
                      · rw [if_pos c17] at H
                        have c17b0 : decide (0 ≤ x7_1) = true := decide_eq_true c17
                        clear c17
                        by_cases c18 : 0 < ((rdOf ByteArray.empty l0 x29_1).size : Int)
                        · rw [if_pos c18] at H
                          have c18b0 : decide (0 < ((rdOf ByteArray.empty l0 x29_1).size : Int)) = true := decide_eq_true c18
                          have c18b1 : decide (0 < (rdOf ByteArray.empty l0 x29_1).size) = true := decide_eq_true (by omega)
                          clear c18
                          by_cases c20 : (wrap64 (bt (rdOf ByteArray.empty l0 x29_1) 0)) = x7_1
                          · rw [if_pos c20] at H
                            have c20b0 : ((wrap64 (bt (rdOf ByteArray.empty l0 x29_1) 0)) == x7_1) = true := beq_iff_eq.mpr c20
                            have c20b1 : ((wrap64 (bt (rdOf ByteArray.empty l0 x29_1) 0)) != x7_1) = false := bne_eq_false_iff_eq.mpr c20
                            clear c20
                            have H' := Aside0.mk H
                            clear H
                            have p264 : 0 ≤ (x29_1 : Int) := of_decide_eq_true (by first | (with_reducible assumption) | assumption)
                            have q264 : x29_1 < (l0.length : Int) := of_decide_eq_true (by first | (with_reducible assumption) | assumption)
                            obtain ⟨ad264, e264, hx264_0⟩ := Kd.at_string HR0.out x29_1 p264 q264
                            cases e264
                            replace hx264_0 := (HB.out.cell (World.block_lt_of_cell? w _ hx264_0)).trans hx264_0
                            replace p264 := eq_true p264
                            replace q264 := eq_true q264
                            go_wp2_with (first | ((with_reducible refine gate_callee (f := 43) rfl ?_); refine goesL_ (some 38) rfl rfl Try.func43 (by kernel_rfl) rfl #[.string (rdOf ByteArray.empty l0 x29_1), .int .i64 a1] rfl (by (try simp only [List.map_toArray, List.map_cons, List.map_nil]); first | done | rfl | (simp only [List.length_drop, List.length_take]; rfl)) ?_; (with_reducible refine (piece_Check.calls k1 (rdOf ByteArray.empty l0 x29_1) a1 t265 _ A12.out).mono ?_); rintro e w22 ⟨rfl, hb⟩; refine ⟨_, rfl, ?_⟩; have n0_ := Aside0.mk (Kd.R_below (by (with_reducible repeat (first | apply Kd.R_alloc | apply Kd.R_drewN | apply Kd.R_drew)); exact HO_6.out) hb); have n1_ := Aside0.mk (below_step (by repeat (first | (with_reducible first | exact HB.out | apply below_alloc | apply pw_below_drewN | apply below_drew1) | exact HB.out)) hb); clear HO_6; clear HB; have HO_6 := n0_; have HB := n1_; clear n0_ n1_; (try clear hb); (try clear hb2); (try clear hk); (try clear hi); have p14 : 0 ≤ (x29_1 : Int) := of_decide_eq_true (by first | (with_reducible assumption) | assumption); have q14 : (x29_1 : Int) < ((x6_1.length : Int) : Int) := of_decide_eq_true (by first | (with_reducible assumption) | assumption); obtain ⟨go14, co14, eo14, gb14, gl14, cl14, HG14⟩ := Kd.R_form HO_6.out (by omega); (first | cases eo14 | (injection eo14 with ea_ en_ ec_; (first | subst ea_ | (injection ea_ with ea_; subst ea_)); subst ec_; clear en_)); have GB14 := Aside0.mk gb14; have GG14 := Aside0.mk HG14; clear gb14 gl14 HG14; obtain ⟨hx14_0, hf14_0⟩ := Kd.R_celln false HO_6.out (x29_1 : Int) p14 q14; replace p14 := eq_true p14; replace q14 := eq_true q14; obtain ⟨hy23_, hz23_⟩ := Kd.R_celln false HO_6.out (x29_1 : Int) (of_decide_eq_true (by first | (with_reducible assumption) | assumption)) (of_decide_eq_true (by first | (with_reducible assumption) | assumption)); have HP23 := Kd.R_putg HO_6.out (x29_1 : Int) (t265 == 0)) | ((with_reducible refine gate_store (t := 4) (p := 40) rfl ?_); refine store_event (t := 4) (p := 40) (v := ?vo_w24) (w1 := (w22.setCell ⟨go14, (x29_1 : Int).toNat, none⟩ (.bool (t265 == 0)))) ?hg ?ho ?hn ?hr ?_; (case ho => rfl); (case hg => rfl); (case hn => rfl); (case hr => first | (go_simp; done) | (go_simp; rfl)); intro w24 hw; have hg : w22.grownBy w24 (some go14) := (by rw [hw]; exact HP23.2); have hp_ : Kd.R Kd.bool 4 w24 w.heap.size (fun _ => True) (.slice (some ⟨go14, 0, none⟩) x6_1.length co14) y266 := (by rw [hw, Ny266.out]; exact HP23.1); clear HP23; have n0_ := Aside0.mk (hp_); have n1_ := Aside0.mk ((by rw [hw]; exact below_set (HB.out) GB14.out : Below w.heap.size w w24)); clear HO_6; clear HB; have HO_6 := n0_; have HB := n1_; clear n0_ n1_; clear hg hw hp_; have p267 : 0 ≤ (x29_1 : Int) := of_decide_eq_true (by first | (with_reducible assumption) | assumption); have q267 : x29_1 < (y266.length : Int) := (by have h_ : (x29_1 : Int) < ((x6_1.length : Int) : Int) := of_decide_eq_true (by first | (with_reducible assumption) | assumption); first | (have e_ := (Kd.R_reads' HO_6.out).1; omega) | simpa only [Ny266.out, List.length_set] using h_); have ql267 : ((x29_1 : Int) < ((x6_1.length : Int) : Int)) = True := eq_true (of_decide_eq_true (by first | (with_reducible assumption) | assumption)); obtain ⟨ad267, e267, hx267_0⟩ := Kd.at_bool (Kd.R_reads' HO_6.out).2.2 x29_1 p267 q267; (try rw [← Nbq15.out] at hx267_0); obtain rfl : (⟨go14, 0, none⟩ : Addr) = ad267 := (by injection e267); (first | simp only [add_plain] at hx267_0 | simp only [add_at] at hx267_0 | simp only [Addr.add, Nat.zero_add] at hx267_0 | skip); replace p267 := eq_true p267; replace q267 := eq_true q267; have p19 : 0 ≤ (0 : Int) := (by omega); have q19 : 0 < (rdOf ByteArray.empty l0 x29_1).size := (by have : (0 : Int) < ((rdOf ByteArray.empty l0 x29_1).size : Int) := of_decide_eq_true (by first | (with_reducible assumption) | assumption); omega); have hx19 : ∀ h : 0 < (rdOf ByteArray.empty l0 x29_1).size, (((rdOf ByteArray.empty l0 x29_1)[0]'h).toNat : Int) = bt (rdOf ByteArray.empty l0 x29_1) 0 := bt_at (rdOf ByteArray.empty l0 x29_1) 0; clear p19; have qi19 : (0 < ((rdOf ByteArray.empty l0 x29_1).size : Int)) = True := eq_true (of_decide_eq_true (by first | (with_reducible assumption) | assumption)); replace q19 := eq_true q19; have p21 : 0 ≤ (0 : Int) := (by omega); have q21 : 0 < (rdOf ByteArray.empty l0 x29_1).size := (by have : (0 : Int) < ((rdOf ByteArray.empty l0 x29_1).size : Int) := of_decide_eq_true (by first | (with_reducible assumption) | assumption); omega); have hx21 : ∀ h : 0 < (rdOf ByteArray.empty l0 x29_1).size, (((rdOf ByteArray.empty l0 x29_1)[0]'h).toNat : Int) = bt (rdOf ByteArray.empty l0 x29_1) 0 := bt_at (rdOf ByteArray.empty l0 x29_1) 0; clear p21; have qi21 : (0 < ((rdOf ByteArray.empty l0 x29_1).size : Int)) = True := eq_true (of_decide_eq_true (by first | (with_reducible assumption) | assumption)); replace q21 := eq_true q21))
                            go_roundg k1
                            case measure => have := HK1.out; omega
                            case rel => exact ⟨(y266), (wrap64 (bt (rdOf ByteArray.empty l0 x29_1) 0)), (wrap64 (x29_1 + 1)), (by first | rfl | (simp; done) | (simp [*]; done)), (by first | rfl | (simp; done) | (simp [*]; done)), H', ⟨by have := HK1.out; omega⟩, ⟨by (with_reducible repeat (first | apply Kd.R_alloc | apply Kd.R_drewN | apply Kd.R_drew)); exact HO_6.out⟩, ⟨by repeat (first | (with_reducible first | exact HB.out | apply below_alloc | apply pw_below_drewN | apply below_drew1) | exact HB.out)⟩⟩
                          · rw [if_neg c20] at H
                            have c20b0 : ((wrap64 (bt (rdOf ByteArray.empty l0 x29_1) 0)) == x7_1) = false := beq_eq_false_iff_ne.mpr c20
                            have c20b1 : ((wrap64 (bt (rdOf ByteArray.empty l0 x29_1) 0)) != x7_1) = true := bne_iff_ne.mpr c20
                            simp only [Option.some.injEq, Prod.mk.injEq] at H
                            obtain ⟨rfl, rfl⟩ := H
                            have p264 : 0 ≤ (x29_1 : Int) := of_decide_eq_true (by first | (with_reducible assumption) | assumption)
                            have q264 : x29_1 < (l0.length : Int) := of_decide_eq_true (by first | (with_reducible assumption) | assumption)
                            obtain ⟨ad264, e264, hx264_0⟩ := Kd.at_string HR0.out x29_1 p264 q264
                            cases e264
                            replace hx264_0 := (HB.out.cell (World.block_lt_of_cell? w _ hx264_0)).trans hx264_0
                            replace p264 := eq_true p264
                            replace q264 := eq_true q264
                            go_wp2_with (first | ((with_reducible refine gate_callee (f := 43) rfl ?_); refine goesL_ (some 38) rfl rfl Try.func43 (by kernel_rfl) rfl #[.string (rdOf ByteArray.empty l0 x29_1), .int .i64 a1] rfl (by (try simp only [List.map_toArray, List.map_cons, List.map_nil]); first | done | rfl | (simp only [List.length_drop, List.length_take]; rfl)) ?_; (with_reducible refine (piece_Check.calls k1 (rdOf ByteArray.empty l0 x29_1) a1 t265 _ A12.out).mono ?_); rintro e w25 ⟨rfl, hb⟩; refine ⟨_, rfl, ?_⟩; have n0_ := Aside0.mk (Kd.R_below (by (with_reducible repeat (first | apply Kd.R_alloc | apply Kd.R_drewN | apply Kd.R_drew)); exact HO_6.out) hb); have n1_ := Aside0.mk (below_step (by repeat (first | (with_reducible first | exact HB.out | apply below_alloc | apply pw_below_drewN | apply below_drew1) | exact HB.out)) hb); clear HO_6; clear HB; have HO_6 := n0_; have HB := n1_; clear n0_ n1_; (try clear hb); (try clear hb2); (try clear hk); (try clear hi); have p14 : 0 ≤ (x29_1 : Int) := of_decide_eq_true (by first | (with_reducible assumption) | assumption); have q14 : (x29_1 : Int) < ((x6_1.length : Int) : Int) := of_decide_eq_true (by first | (with_reducible assumption) | assumption); obtain ⟨go14, co14, eo14, gb14, gl14, cl14, HG14⟩ := Kd.R_form HO_6.out (by omega); (first | cases eo14 | (injection eo14 with ea_ en_ ec_; (first | subst ea_ | (injection ea_ with ea_; subst ea_)); subst ec_; clear en_)); have GB14 := Aside0.mk gb14; have GG14 := Aside0.mk HG14; clear gb14 gl14 HG14; obtain ⟨hx14_0, hf14_0⟩ := Kd.R_celln false HO_6.out (x29_1 : Int) p14 q14; replace p14 := eq_true p14; replace q14 := eq_true q14; obtain ⟨hy26_, hz26_⟩ := Kd.R_celln false HO_6.out (x29_1 : Int) (of_decide_eq_true (by first | (with_reducible assumption) | assumption)) (of_decide_eq_true (by first | (with_reducible assumption) | assumption)); have HP26 := Kd.R_putg HO_6.out (x29_1 : Int) (t265 == 0)) | ((with_reducible refine gate_store (t := 4) (p := 40) rfl ?_); refine store_event (t := 4) (p := 40) (v := ?vo_w27) (w1 := (w25.setCell ⟨go14, (x29_1 : Int).toNat, none⟩ (.bool (t265 == 0)))) ?hg ?ho ?hn ?hr ?_; (case ho => rfl); (case hg => rfl); (case hn => rfl); (case hr => first | (go_simp; done) | (go_simp; rfl)); intro w27 hw; have hg : w25.grownBy w27 (some go14) := (by rw [hw]; exact HP26.2); have hp_ : Kd.R Kd.bool 4 w27 w.heap.size (fun _ => True) (.slice (some ⟨go14, 0, none⟩) x6_1.length co14) y266 := (by rw [hw, Ny266.out]; exact HP26.1); clear HP26; have n0_ := Aside0.mk (hp_); have n1_ := Aside0.mk ((by rw [hw]; exact below_set (HB.out) GB14.out : Below w.heap.size w w27)); clear HO_6; clear HB; have HO_6 := n0_; have HB := n1_; clear n0_ n1_; clear hg hw hp_; have p267 : 0 ≤ (x29_1 : Int) := of_decide_eq_true (by first | (with_reducible assumption) | assumption); have q267 : x29_1 < (y266.length : Int) := (by have h_ : (x29_1 : Int) < ((x6_1.length : Int) : Int) := of_decide_eq_true (by first | (with_reducible assumption) | assumption); first | (have e_ := (Kd.R_reads' HO_6.out).1; omega) | simpa only [Ny266.out, List.length_set] using h_); have ql267 : ((x29_1 : Int) < ((x6_1.length : Int) : Int)) = True := eq_true (of_decide_eq_true (by first | (with_reducible assumption) | assumption)); obtain ⟨ad267, e267, hx267_0⟩ := Kd.at_bool (Kd.R_reads' HO_6.out).2.2 x29_1 p267 q267; (try rw [← Nbq15.out] at hx267_0); obtain rfl : (⟨go14, 0, none⟩ : Addr) = ad267 := (by injection e267); (first | simp only [add_plain] at hx267_0 | simp only [add_at] at hx267_0 | simp only [Addr.add, Nat.zero_add] at hx267_0 | skip); replace p267 := eq_true p267; replace q267 := eq_true q267; have p19 : 0 ≤ (0 : Int) := (by omega); have q19 : 0 < (rdOf ByteArray.empty l0 x29_1).size := (by have : (0 : Int) < ((rdOf ByteArray.empty l0 x29_1).size : Int) := of_decide_eq_true (by first | (with_reducible assumption) | assumption); omega); have hx19 : ∀ h : 0 < (rdOf ByteArray.empty l0 x29_1).size, (((rdOf ByteArray.empty l0 x29_1)[0]'h).toNat : Int) = bt (rdOf ByteArray.empty l0 x29_1) 0 := bt_at (rdOf ByteArray.empty l0 x29_1) 0; clear p19; have qi19 : (0 < ((rdOf ByteArray.empty l0 x29_1).size : Int)) = True := eq_true (of_decide_eq_true (by first | (with_reducible assumption) | assumption)); replace q19 := eq_true q19))
                            go_ret2
                            exact ⟨by first | rfl | (simp [errW_none, errW_some] <;> rfl) | (simp [*, errW_none, errW_some] <;> rfl), by repeat (first | (with_reducible first | exact HB.out | apply below_alloc | apply pw_below_drewN | apply below_drew1) | exact HB.out)⟩
                        · rw [if_neg c18] at H
                          exact absurd H (by simp)
                      · rw [if_neg c17] at H
                        have c17b0 : decide (0 ≤ x7_1) = false := decide_eq_false c17
                        clear c17
                        by_cases c28 : 0 < ((rdOf ByteArray.empty l0 x29_1).size : Int)
                        · rw [if_pos c28] at H
                          have c28b0 : decide (0 < ((rdOf ByteArray.empty l0 x29_1).size : Int)) = true := decide_eq_true c28
                          have c28b1 : decide (0 < (rdOf ByteArray.empty l0 x29_1).size) = true := decide_eq_true (by omega)
                          clear c28
                          have H' := Aside0.mk H
                          clear H
                          have p264 : 0 ≤ (x29_1 : Int) := of_decide_eq_true (by first | (with_reducible assumption) | assumption)
                          have q264 : x29_1 < (l0.length : Int) := of_decide_eq_true (by first | (with_reducible assumption) | assumption)
                          obtain ⟨ad264, e264, hx264_0⟩ := Kd.at_string HR0.out x29_1 p264 q264
                          cases e264
                          replace hx264_0 := (HB.out.cell (World.block_lt_of_cell? w _ hx264_0)).trans hx264_0
                          replace p264 := eq_true p264
                          replace q264 := eq_true q264
                          go_wp2_with (first | ((with_reducible refine gate_callee (f := 43) rfl ?_); refine goesL_ (some 38) rfl rfl Try.func43 (by kernel_rfl) rfl #[.string (rdOf ByteArray.empty l0 x29_1), .int .i64 a1] rfl (by (try simp only [List.map_toArray, List.map_cons, List.map_nil]); first | done | rfl | (simp only [List.length_drop, List.length_take]; rfl)) ?_; (with_reducible refine (piece_Check.calls k1 (rdOf ByteArray.empty l0 x29_1) a1 t265 _ A12.out).mono ?_); rintro e w30 ⟨rfl, hb⟩; refine ⟨_, rfl, ?_⟩; have n0_ := Aside0.mk (Kd.R_below (by (with_reducible repeat (first | apply Kd.R_alloc | apply Kd.R_drewN | apply Kd.R_drew)); exact HO_6.out) hb); have n1_ := Aside0.mk (below_step (by repeat (first | (with_reducible first | exact HB.out | apply below_alloc | apply pw_below_drewN | apply below_drew1) | exact HB.out)) hb); clear HO_6; clear HB; have HO_6 := n0_; have HB := n1_; clear n0_ n1_; (try clear hb); (try clear hb2); (try clear hk); (try clear hi); have p14 : 0 ≤ (x29_1 : Int) := of_decide_eq_true (by first | (with_reducible assumption) | assumption); have q14 : (x29_1 : Int) < ((x6_1.length : Int) : Int) := of_decide_eq_true (by first | (with_reducible assumption) | assumption); obtain ⟨go14, co14, eo14, gb14, gl14, cl14, HG14⟩ := Kd.R_form HO_6.out (by omega); (first | cases eo14 | (injection eo14 with ea_ en_ ec_; (first | subst ea_ | (injection ea_ with ea_; subst ea_)); subst ec_; clear en_)); have GB14 := Aside0.mk gb14; have GG14 := Aside0.mk HG14; clear gb14 gl14 HG14; obtain ⟨hx14_0, hf14_0⟩ := Kd.R_celln false HO_6.out (x29_1 : Int) p14 q14; replace p14 := eq_true p14; replace q14 := eq_true q14; obtain ⟨hy31_, hz31_⟩ := Kd.R_celln false HO_6.out (x29_1 : Int) (of_decide_eq_true (by first | (with_reducible assumption) | assumption)) (of_decide_eq_true (by first | (with_reducible assumption) | assumption)); have HP31 := Kd.R_putg HO_6.out (x29_1 : Int) (t265 == 0)) | ((with_reducible refine gate_store (t := 4) (p := 40) rfl ?_); refine store_event (t := 4) (p := 40) (v := ?vo_w32) (w1 := (w30.setCell ⟨go14, (x29_1 : Int).toNat, none⟩ (.bool (t265 == 0)))) ?hg ?ho ?hn ?hr ?_; (case ho => rfl); (case hg => rfl); (case hn => rfl); (case hr => first | (go_simp; done) | (go_simp; rfl)); intro w32 hw; have hg : w30.grownBy w32 (some go14) := (by rw [hw]; exact HP31.2); have hp_ : Kd.R Kd.bool 4 w32 w.heap.size (fun _ => True) (.slice (some ⟨go14, 0, none⟩) x6_1.length co14) y266 := (by rw [hw, Ny266.out]; exact HP31.1); clear HP31; have n0_ := Aside0.mk (hp_); have n1_ := Aside0.mk ((by rw [hw]; exact below_set (HB.out) GB14.out : Below w.heap.size w w32)); clear HO_6; clear HB; have HO_6 := n0_; have HB := n1_; clear n0_ n1_; clear hg hw hp_; have p267 : 0 ≤ (x29_1 : Int) := of_decide_eq_true (by first | (with_reducible assumption) | assumption); have q267 : x29_1 < (y266.length : Int) := (by have h_ : (x29_1 : Int) < ((x6_1.length : Int) : Int) := of_decide_eq_true (by first | (with_reducible assumption) | assumption); first | (have e_ := (Kd.R_reads' HO_6.out).1; omega) | simpa only [Ny266.out, List.length_set] using h_); have ql267 : ((x29_1 : Int) < ((x6_1.length : Int) : Int)) = True := eq_true (of_decide_eq_true (by first | (with_reducible assumption) | assumption)); obtain ⟨ad267, e267, hx267_0⟩ := Kd.at_bool (Kd.R_reads' HO_6.out).2.2 x29_1 p267 q267; (try rw [← Nbq15.out] at hx267_0); obtain rfl : (⟨go14, 0, none⟩ : Addr) = ad267 := (by injection e267); (first | simp only [add_plain] at hx267_0 | simp only [add_at] at hx267_0 | simp only [Addr.add, Nat.zero_add] at hx267_0 | skip); replace p267 := eq_true p267; replace q267 := eq_true q267; have p29 : 0 ≤ (0 : Int) := (by omega); have q29 : 0 < (rdOf ByteArray.empty l0 x29_1).size := (by have : (0 : Int) < ((rdOf ByteArray.empty l0 x29_1).size : Int) := of_decide_eq_true (by first | (with_reducible assumption) | assumption); omega); have hx29 : ∀ h : 0 < (rdOf ByteArray.empty l0 x29_1).size, (((rdOf ByteArray.empty l0 x29_1)[0]'h).toNat : Int) = bt (rdOf ByteArray.empty l0 x29_1) 0 := bt_at (rdOf ByteArray.empty l0 x29_1) 0; clear p29; have qi29 : (0 < ((rdOf ByteArray.empty l0 x29_1).size : Int)) = True := eq_true (of_decide_eq_true (by first | (with_reducible assumption) | assumption)); replace q29 := eq_true q29))
                          go_roundg k1
                          case measure => have := HK1.out; omega
                          case rel => exact ⟨(y266), (wrap64 (bt (rdOf ByteArray.empty l0 x29_1) 0)), (wrap64 (x29_1 + 1)), (by first | rfl | (simp; done) | (simp [*]; done)), (by first | rfl | (simp; done) | (simp [*]; done)), H', ⟨by have := HK1.out; omega⟩, ⟨by (with_reducible repeat (first | apply Kd.R_alloc | apply Kd.R_drewN | apply Kd.R_drew)); exact HO_6.out⟩, ⟨by repeat (first | (with_reducible first | exact HB.out | apply below_alloc | apply pw_below_drewN | apply below_drew1) | exact HB.out)⟩⟩
                        · rw [if_neg c28] at H
                          exact absurd H (by simp)
                    · replace c16 := Bool.eq_false_iff.mpr c16
                      subst c16
                      have H1 : (piece_Join.l0 k1 l0 a1 y266 x7_1 l0 (l0.length : Int) (wrap64 (x29_1 + 1))) = some (r1, r2) := by rw [if_neg (show ¬ (false = true) by decide)] at H; exact H
                      clear H
                      have H := H1
                      clear H1
                      have H' := Aside0.mk H
                      clear H
                      have p264 : 0 ≤ (x29_1 : Int) := of_decide_eq_true (by first | (with_reducible assumption) | assumption)
                      have q264 : x29_1 < (l0.length : Int) := of_decide_eq_true (by first | (with_reducible assumption) | assumption)
                      obtain ⟨ad264, e264, hx264_0⟩ := Kd.at_string HR0.out x29_1 p264 q264
                      cases e264
                      replace hx264_0 := (HB.out.cell (World.block_lt_of_cell? w _ hx264_0)).trans hx264_0
                      replace p264 := eq_true p264
                      replace q264 := eq_true q264
                      go_wp2_with (first | ((with_reducible refine gate_callee (f := 43) rfl ?_); refine goesL_ (some 38) rfl rfl Try.func43 (by kernel_rfl) rfl #[.string (rdOf ByteArray.empty l0 x29_1), .int .i64 a1] rfl (by (try simp only [List.map_toArray, List.map_cons, List.map_nil]); first | done | rfl | (simp only [List.length_drop, List.length_take]; rfl)) ?_; (with_reducible refine (piece_Check.calls k1 (rdOf ByteArray.empty l0 x29_1) a1 t265 _ A12.out).mono ?_); rintro e w33 ⟨rfl, hb⟩; refine ⟨_, rfl, ?_⟩; have n0_ := Aside0.mk (Kd.R_below (by (with_reducible repeat (first | apply Kd.R_alloc | apply Kd.R_drewN | apply Kd.R_drew)); exact HO_6.out) hb); have n1_ := Aside0.mk (below_step (by repeat (first | (with_reducible first | exact HB.out | apply below_alloc | apply pw_below_drewN | apply below_drew1) | exact HB.out)) hb); clear HO_6; clear HB; have HO_6 := n0_; have HB := n1_; clear n0_ n1_; (try clear hb); (try clear hb2); (try clear hk); (try clear hi); have p14 : 0 ≤ (x29_1 : Int) := of_decide_eq_true (by first | (with_reducible assumption) | assumption); have q14 : (x29_1 : Int) < ((x6_1.length : Int) : Int) := of_decide_eq_true (by first | (with_reducible assumption) | assumption); obtain ⟨go14, co14, eo14, gb14, gl14, cl14, HG14⟩ := Kd.R_form HO_6.out (by omega); (first | cases eo14 | (injection eo14 with ea_ en_ ec_; (first | subst ea_ | (injection ea_ with ea_; subst ea_)); subst ec_; clear en_)); have GB14 := Aside0.mk gb14; have GG14 := Aside0.mk HG14; clear gb14 gl14 HG14; obtain ⟨hx14_0, hf14_0⟩ := Kd.R_celln false HO_6.out (x29_1 : Int) p14 q14; replace p14 := eq_true p14; replace q14 := eq_true q14; obtain ⟨hy34_, hz34_⟩ := Kd.R_celln false HO_6.out (x29_1 : Int) (of_decide_eq_true (by first | (with_reducible assumption) | assumption)) (of_decide_eq_true (by first | (with_reducible assumption) | assumption)); have HP34 := Kd.R_putg HO_6.out (x29_1 : Int) (t265 == 0)) | ((with_reducible refine gate_store (t := 4) (p := 40) rfl ?_); refine store_event (t := 4) (p := 40) (v := ?vo_w35) (w1 := (w33.setCell ⟨go14, (x29_1 : Int).toNat, none⟩ (.bool (t265 == 0)))) ?hg ?ho ?hn ?hr ?_; (case ho => rfl); (case hg => rfl); (case hn => rfl); (case hr => first | (go_simp; done) | (go_simp; rfl)); intro w35 hw; have hg : w33.grownBy w35 (some go14) := (by rw [hw]; exact HP34.2); have hp_ : Kd.R Kd.bool 4 w35 w.heap.size (fun _ => True) (.slice (some ⟨go14, 0, none⟩) x6_1.length co14) y266 := (by rw [hw, Ny266.out]; exact HP34.1); clear HP34; have n0_ := Aside0.mk (hp_); have n1_ := Aside0.mk ((by rw [hw]; exact below_set (HB.out) GB14.out : Below w.heap.size w w35)); clear HO_6; clear HB; have HO_6 := n0_; have HB := n1_; clear n0_ n1_; clear hg hw hp_; have p267 : 0 ≤ (x29_1 : Int) := of_decide_eq_true (by first | (with_reducible assumption) | assumption); have q267 : x29_1 < (y266.length : Int) := (by have h_ : (x29_1 : Int) < ((x6_1.length : Int) : Int) := of_decide_eq_true (by first | (with_reducible assumption) | assumption); first | (have e_ := (Kd.R_reads' HO_6.out).1; omega) | simpa only [Ny266.out, List.length_set] using h_); have ql267 : ((x29_1 : Int) < ((x6_1.length : Int) : Int)) = True := eq_true (of_decide_eq_true (by first | (with_reducible assumption) | assumption)); obtain ⟨ad267, e267, hx267_0⟩ := Kd.at_bool (Kd.R_reads' HO_6.out).2.2 x29_1 p267 q267; (try rw [← Nbq15.out] at hx267_0); obtain rfl : (⟨go14, 0, none⟩ : Addr) = ad267 := (by injection e267); (first | simp only [add_plain] at hx267_0 | simp only [add_at] at hx267_0 | simp only [Addr.add, Nat.zero_add] at hx267_0 | skip); replace p267 := eq_true p267; replace q267 := eq_true q267))
                      go_roundg k1
                      case measure => have := HK1.out; omega
                      case rel => exact ⟨(y266), (x7_1), (wrap64 (x29_1 + 1)), (by first | rfl | (simp; done) | (simp [*]; done)), (by first | rfl | (simp; done) | (simp [*]; done)), H', ⟨by have := HK1.out; omega⟩, ⟨by (with_reducible repeat (first | apply Kd.R_alloc | apply Kd.R_drewN | apply Kd.R_drew)); exact HO_6.out⟩, ⟨by repeat (first | (with_reducible first | exact HB.out | apply below_alloc | apply pw_below_drewN | apply below_drew1) | exact HB.out)⟩⟩
                  · rw [if_neg c13] at H
                    exact absurd H (by simp)
                · rw [if_neg c11] at H
                  exact absurd H (by simp)
              · rw [if_neg c10] at H
                exact absurd H (by simp)
            · rw [if_neg c9] at H
              have c9b0 : decide (x29_1 < (l0.length : Int)) = false := decide_eq_false c9
              clear c9
              obtain ⟨ji36, hji36⟩ : ∃ j_ : Int, (mx x7_1 0) = j_ := ⟨_, rfl⟩
              replace H : ((piece_size.f (ji36) a1).bind fun t268 => (if 0 ≤ (wrap64 (a1 * t268)) then (if (wrap64 (a1 * t268) : Int).toNat ≤ 281474976710656 then (piece_Join.l1 k1 l0 a1 x6_1 x7_1 t268 (List.replicate (wrap64 (a1 * t268) : Int).toNat 0) (mx t268 1) 0) else (none)) else (none))) = some (r1, r2) := by first | (rw [hji36] at H; exact H) | (simp only [hji36] at H ⊢; exact H)
              have hji36_ : (if x7_1 < 0 then 0 else x7_1) = ji36 := hji36
              replace H := Option.bind_eq_some_iff.mp H
              obtain ⟨t268, A370, H⟩ := H
              replace H : (if 0 ≤ (wrap64 (a1 * t268)) then (if (wrap64 (a1 * t268) : Int).toNat ≤ 281474976710656 then (piece_Join.l1 k1 l0 a1 x6_1 x7_1 t268 (List.replicate (wrap64 (a1 * t268) : Int).toNat 0) (mx t268 1) 0) else (none)) else (none)) = some (r1, r2) := H
              have A37 := Aside0.mk A370
              clear A370
              obtain ⟨ji38, hji38⟩ : ∃ j_ : Int, (wrap64 (a1 * t268)) = j_ := ⟨_, rfl⟩
              replace H : (if 0 ≤ (ji38) then (if (ji38 : Int).toNat ≤ 281474976710656 then (piece_Join.l1 k1 l0 a1 x6_1 x7_1 t268 (List.replicate (ji38 : Int).toNat 0) (mx t268 1) 0) else (none)) else (none)) = some (r1, r2) := by first | (rw [hji38] at H; exact H) | (simp only [hji38] at H ⊢; exact H)
              (try rw [hji38] at A37)
              have hji38w : (IntKind.i64.wrap (a1 * t268)) = ji38 := (i64_w _).trans hji38
              by_cases c39 : 0 ≤ (ji38)
              · rw [if_pos c39] at H
                have c39b0 := eq_true c39
                have c39b1 : decide (0 ≤ (ji38)) = true := decide_eq_true c39
                clear c39
                by_cases c40 : (ji38 : Int).toNat ≤ 281474976710656
                · rw [if_pos c40] at H
                  have c40b0 := eq_true c40
                  have c40b1 : decide ((ji38 : Int).toNat ≤ 281474976710656) = true := decide_eq_true c40
                  clear c40
                  obtain ⟨y269, hy269⟩ : ∃ y_ : List Int, y_ = (List.replicate (ji38 : Int).toNat 0) := ⟨_, rfl⟩
                  replace H : (piece_Join.l1 k1 l0 a1 x6_1 x7_1 t268 y269 (mx t268 1) 0) = some (r1, r2) := by first | (rw [hy269]; with_reducible exact H) | (have H2_ := (Option.bind_some _ _).symm.trans H; rw [hy269]; with_reducible exact H2_) | (have H2_ := (Option.bind_some _ _).symm.trans H; with_reducible exact H2_) | with_reducible exact H | (rw [hy269]; exact H) | exact H
                  have Ny269 := Aside0.mk hy269
                  clear hy269
                  obtain ⟨ji41, hji41⟩ : ∃ j_ : Int, (mx t268 1) = j_ := ⟨_, rfl⟩
                  replace H : (piece_Join.l1 k1 l0 a1 x6_1 x7_1 t268 y269 ji41 0) = some (r1, r2) := by first | (rw [hji41] at H; exact H) | (simp only [hji41] at H ⊢; exact H)
                  (try rw [hji41] at A37)
                  (try (have hji41l : 1 ≤ ji41 := by (rw [← hji41]; unfold mx; (repeat' split) <;> omega)))
                  (try (have hji41m : 0 ≤ ji41 := by omega))
                  have hji41_ : (if t268 < 1 then 1 else t268) = ji41 := hji41
                  have H' := Aside0.mk H
                  clear H
                  go_wp2_with (first | ((with_reducible refine gate_callee (f := 34) rfl ?_); refine goesL_ (some 62) rfl rfl Try.func34 (by kernel_rfl) rfl #[.int .i64 ji36, .int .i64 a1] rfl (by (try simp only [List.map_toArray, List.map_cons, List.map_nil]); first | done | (simp only [hji36]; rfl) | rfl | (simp only [List.length_drop, List.length_take]; rfl)) ?_; (with_reducible refine (piece_size.calls ji36 a1 t268 _ A37.out).mono ?_); rintro e w' ⟨rfl, ⟨nd, rfl⟩⟩; refine ⟨_, rfl, ?_⟩) | ((with_reducible refine gate_dst (N := 66) rfl ?_); refine Kd.R_make (Kd.int .u8) _ 5 rfl (N := 66) rfl 37 _ _ rfl ji38 rfl rfl Try.underlying37 (.int .u8 0) 1 info5 rfl (by decide) (by omega) 0 (ok := fun _ => True) (okp := fun _ => True) rfl (fun _ hk => hk) trivial (of_decide_eq_true (by first | (with_reducible assumption) | assumption)) (Nat.le_trans (Nat.mul_le_mul_right _ (of_decide_eq_true (by first | (with_reducible assumption) | assumption) : ji38.toNat ≤ 281474976710656)) (by omega)) (Below.refl _ _) (Nat.le_refl _) ?_; intro v270 w42 ho43 hb hg_ hnew_; clear hg_ hnew_; (first | rw [← Ny269.out] at ho43 | (simp only [Int.reduceToNat] at ho43; rw [← Ny269.out] at ho43)); have n0_ := Aside0.mk (Kd.R_below (by (with_reducible repeat (first | apply Kd.R_alloc | apply Kd.R_drewN | apply Kd.R_drew)); exact HO_6.out) hb); have n1_ := Aside0.mk (Kd.R_lower ho43 (below_size (by repeat (first | (with_reducible first | exact HB.out | apply below_alloc | apply pw_below_drewN | apply below_drew1) | exact HB.out)))); have n2_ := Aside0.mk (below_step (by repeat (first | (with_reducible first | exact HB.out | apply below_alloc | apply pw_below_drewN | apply below_drew1) | exact HB.out)) hb); clear HO_6; clear HB; have HO_6 := n0_; have HO271 := n1_; have HB := n2_; clear n0_ n1_ n2_; clear hb ho43))
                  go_loopg [69] k1 (fun kq v69 w' => ∃ (x11_2 : List Int) (x69_2 : Int), v69 = .int .i64 x69_2 ∧ Aside0 (piece_Join.l1 kq l0 a1 x6_1 x7_1 t268 x11_2 ji41 x69_2 = some (r1, r2)) ∧ Aside0 (kq ≤ k1) ∧ Aside0 (Kd.R Kd.bool 4 w' w.heap.size (fun _ => True) v262 x6_1) ∧ Aside0 (Kd.R (Kd.int .u8) 5 w' w.heap.size (fun _ => True) v270 x11_2) ∧ Aside0 (Below w.heap.size w w'))
                  case atStart => exact ⟨(y269), (0), (by first | rfl | (simp; done) | (simp [*]; done)), H', ⟨Nat.le_refl _⟩, ⟨by (with_reducible repeat (first | apply Kd.R_alloc | apply Kd.R_drewN | apply Kd.R_drew)); exact HO_6.out⟩, ⟨by (with_reducible repeat (first | apply Kd.R_alloc | apply Kd.R_drewN | apply Kd.R_drew)); exact HO271.out⟩, ⟨by repeat (first | (with_reducible first | exact HB.out | apply below_alloc | apply pw_below_drewN | apply below_drew1) | exact HB.out)⟩⟩
                  case round =>
                    clear H'
                    try clear c1
                    try clear p1
                    try clear q1
                    try clear hx1
                    try clear qi1
                    try clear c2
                    try clear p2
                    try clear q2
                    try clear hx2
                    try clear qi2
                    try clear c3
                    try clear c4
                    try clear c5
                    try clear c5b0
                    try clear c5b1
                    try clear c6
                    try clear c6b0
                    try clear c6b1
                    try clear p6
                    try clear c9
                    try clear c9b0
                    try clear c10
                    try clear c10b0
                    try clear c11
                    try clear c11b0
                    try clear c13
                    try clear c13b0
                    try clear c14
                    try clear p14
                    try clear q14
                    try clear hx14
                    try clear hf14
                    try clear q15
                    try clear c16
                    try clear c17
                    try clear c17b0
                    try clear c18
                    try clear c18b0
                    try clear c18b1
                    try clear p19
                    try clear q19
                    try clear hx19
                    try clear qi19
                    try clear c20
                    try clear c20b0
                    try clear c20b1
                    try clear p21
                    try clear q21
                    try clear hx21
                    try clear qi21
                    try clear p26
                    try clear q26
                    try clear hx26
                    try clear c28
                    try clear c28b0
                    try clear c28b1
                    try clear p29
                    try clear q29
                    try clear hx29
                    try clear qi29
                    try clear c33
                    try clear c34
                    try clear c39
                    try clear c39b0
                    try clear c39b1
                    try clear c40
                    try clear c40b0
                    try clear c40b1
                    try clear c43
                    try clear hx14_0
                    try clear hx264_0
                    try clear hx267_0
                    try clear p14
                    try clear p19
                    try clear p2
                    try clear p21
                    try clear p264
                    try clear p267
                    try clear p29
                    try clear q14
                    try clear q19
                    try clear q21
                    try clear q264
                    try clear q267
                    try clear q29
                    obtain ⟨x11_2, x69_2, rfl, HA, HK2, HO_6, HO_11, HB⟩ := hrel
                    cases gk with
                    | zero => exact absurd HA.out (by simp [piece_Join.l1])
                    | succ k2 =>
                      have H := HA.out
                      clear HA
                      simp only [piece_Join.l1] at H
                      by_cases c44 : x69_2 < ji41
                      · rw [if_pos c44] at H
                        have c44b0 : decide (x69_2 < ji41) = true := decide_eq_true c44
                        clear c44
                        by_cases c45 : 0 ≤ (l0.length : Int)
                        · rw [if_pos c45] at H
                          have c45b0 := eq_true c45
                          have c45b1 : decide (0 ≤ (l0.length : Int)) = true := decide_eq_true c45
                          clear c45
                          by_cases c46 : ((l0.length : Int) : Int).toNat ≤ 140737488355328
                          · rw [if_pos c46] at H
                            have c46b0 := eq_true c46
                            have c46b1 : decide (((l0.length : Int) : Int).toNat ≤ 140737488355328) = true := decide_eq_true c46
                            clear c46
                            obtain ⟨y276, hy276⟩ : ∃ y_ : List (S93), y_ = (List.replicate ((l0.length : Int) : Int).toNat z93) := ⟨_, rfl⟩
                            replace H : (piece_Join.l2 k2 l0 a1 x6_1 x7_1 t268 x11_2 x69_2 y276 ji41 x69_2 l0 (l0.length : Int) 0) = some (r1, r2) := by first | (rw [hy276]; with_reducible exact H) | (have H2_ := (Option.bind_some _ _).symm.trans H; rw [hy276]; with_reducible exact H2_) | (have H2_ := (Option.bind_some _ _).symm.trans H; with_reducible exact H2_) | with_reducible exact H | (rw [hy276]; exact H) | exact H
                            have Ny276 := Aside0.mk hy276
                            clear hy276
                            have H' := Aside0.mk H
                            clear H
                            go_wp2_with (first | ((with_reducible refine gate_dst (N := 74) rfl ?_); refine Kd.R_make k93 _ 93 rfl (N := 74) rfl 91 _ _ rfl (l0.length : Int) rfl rfl Try.underlying91 (.agg #[(.bool false), (.int .u8 0)]) 2 info93 rfl (by decide) (by omega) z93 (ok := fun _ => True) (okp := fun _ => True) (k93_mkM _ _ _ z93 ) (fun _ hk => hk) trivial (of_decide_eq_true (by first | (with_reducible assumption) | assumption)) (Nat.le_trans (Nat.mul_le_mul_right _ (of_decide_eq_true (by first | (with_reducible assumption) | assumption) : (l0.length : Int).toNat ≤ 140737488355328)) (by omega)) (Below.refl _ _) (Nat.le_refl _) ?_; intro v277 w47 ho48 hb hg_ hnew_; clear hg_ hnew_; (first | rw [← Ny276.out] at ho48 | (simp only [Int.reduceToNat] at ho48; rw [← Ny276.out] at ho48)); have n0_ := Aside0.mk (Kd.R_below (by (with_reducible repeat (first | apply Kd.R_alloc | apply Kd.R_drewN | apply Kd.R_drew)); exact HO_6.out) hb); have n1_ := Aside0.mk (Kd.R_below (by (with_reducible repeat (first | apply Kd.R_alloc | apply Kd.R_drewN | apply Kd.R_drew)); exact HO_11.out) hb); have n2_ := Aside0.mk (Kd.R_lower ho48 (below_size (by repeat (first | (with_reducible first | exact HB.out | apply below_alloc | apply pw_below_drewN | apply below_drew1) | exact HB.out)))); have n3_ := Aside0.mk (below_step (by repeat (first | (with_reducible first | exact HB.out | apply below_alloc | apply pw_below_drewN | apply below_drew1) | exact HB.out)) hb); clear HO_6; clear HO_11; clear HB; have HO_6 := n0_; have HO_11 := n1_; have HO278 := n2_; have HB := n3_; clear n0_ n1_ n2_ n3_; clear hb ho48))
                            go_loopg [77] k2 (fun kq v77 w' => ∃ (x13_3 : List (S93)) (x77_3 : Int), v77 = .int .i64 x77_3 ∧ Aside0 (piece_Join.l2 kq l0 a1 x6_1 x7_1 t268 x11_2 x69_2 x13_3 ji41 x69_2 l0 (l0.length : Int) x77_3 = some (r1, r2)) ∧ Aside0 (kq ≤ k2) ∧ Aside0 (Kd.R Kd.bool 4 w' w.heap.size (fun _ => True) v262 x6_1) ∧ Aside0 (Kd.R (Kd.int .u8) 5 w' w.heap.size (fun _ => True) v270 x11_2) ∧ Aside0 (Kd.R k93 93 w' w.heap.size (fun _ => True) v277 x13_3) ∧ Aside0 (Below w.heap.size w w'))
                            case atStart => exact ⟨(y276), (0), (by first | rfl | (simp; done) | (simp [*]; done)), H', ⟨Nat.le_refl _⟩, ⟨by (with_reducible repeat (first | apply Kd.R_alloc | apply Kd.R_drewN | apply Kd.R_drew)); exact HO_6.out⟩, ⟨by (with_reducible repeat (first | apply Kd.R_alloc | apply Kd.R_drewN | apply Kd.R_drew)); exact HO_11.out⟩, ⟨by (with_reducible repeat (first | apply Kd.R_alloc | apply Kd.R_drewN | apply Kd.R_drew)); exact HO278.out⟩, ⟨by repeat (first | (with_reducible first | exact HB.out | apply below_alloc | apply pw_below_drewN | apply below_drew1) | exact HB.out)⟩⟩
                            case round =>
                              clear H'
                              try clear c1
                              try clear p1
                              try clear q1
                              try clear hx1
                              try clear qi1
                              try clear c2
                              try clear p2
                              try clear q2
                              try clear hx2
                              try clear qi2
                              try clear c3
                              try clear c4
                              try clear c5
                              try clear c5b0
                              try clear c5b1
                              try clear c6
                              try clear c6b0
                              try clear c6b1
                              try clear p6
                              try clear c9
                              try clear c9b0
                              try clear c10
                              try clear c10b0
                              try clear c11
                              try clear c11b0
                              try clear c13
                              try clear c13b0
                              try clear c14
                              try clear p14
                              try clear q14
                              try clear hx14
                              try clear hf14
                              try clear q15
                              try clear c16
                              try clear c17
                              try clear c17b0
                              try clear c18
                              try clear c18b0
                              try clear c18b1
                              try clear p19
                              try clear q19
                              try clear hx19
                              try clear qi19
                              try clear c20
                              try clear c20b0
                              try clear c20b1
                              try clear p21
                              try clear q21
                              try clear hx21
                              try clear qi21
                              try clear p26
                              try clear q26
                              try clear hx26
                              try clear c28
                              try clear c28b0
                              try clear c28b1
                              try clear p29
                              try clear q29
                              try clear hx29
                              try clear qi29
                              try clear c33
                              try clear c34
                              try clear c39
                              try clear c39b0
                              try clear c39b1
                              try clear c40
                              try clear c40b0
                              try clear c40b1
                              try clear c43
                              try clear c44
                              try clear c44b0
                              try clear c45
                              try clear c45b0
                              try clear c45b1
                              try clear c46
                              try clear c46b0
                              try clear c46b1
                              try clear hx14_0
                              try clear hx264_0
                              try clear hx267_0
                              try clear p1
                              try clear p14
                              try clear p19
                              try clear p2
                              try clear p21
                              try clear p26
                              try clear p264
                              try clear p267
                              try clear p29
                              try clear p6
                              try clear q1
                              try clear q14
                              try clear q15
                              try clear q19
                              try clear q2
                              try clear q21
                              try clear q26
                              try clear q264
                              try clear q267
                              try clear q29
                              obtain ⟨x13_3, x77_3, rfl, HA, HK3, HO_6, HO_11, HO_13, HB⟩ := hrel
                              cases gk with
                              | zero => exact absurd HA.out (by simp [piece_Join.l2])
                              | succ k3 =>
                                have H := HA.out
                                clear HA
                                simp only [piece_Join.l2] at H
                                by_cases c49 : x77_3 < (l0.length : Int)
                                · rw [if_pos c49] at H
                                  have c49b0 : decide (x77_3 < (l0.length : Int)) = true := decide_eq_true c49
                                  clear c49
                                  by_cases c50 : 0 ≤ x77_3
                                  · rw [if_pos c50] at H
                                    have c50b0 : decide (0 ≤ x77_3) = true := decide_eq_true c50
                                    clear c50
                                    by_cases c51 : x77_3 < (l0.length : Int)
                                    · rw [if_pos c51] at H
                                      have c51b0 : decide (x77_3 < (l0.length : Int)) = true := decide_eq_true c51
                                      clear c51
                                      by_cases c52 : x77_3 < (x6_1.length : Int)
                                      · rw [if_pos c52] at H
                                        have c52b0 : decide (x77_3 < (x6_1.length : Int)) = true := decide_eq_true c52
                                        clear c52
                                        obtain ⟨bq53, hbq53⟩ : ∃ b_ : Bool, b_ = (rdOf false x6_1 x77_3) := ⟨_, rfl⟩
                                        replace H : (if bq53 = true then (if x77_3 < (x13_3.length : Int) then ((some (x13_3.set (x77_3 : Int).toNat (⟨true, (rd_T93 x13_3 x77_3).f1⟩ : S93) : List (S93))).bind fun y281 => (if t268 > 0 then (if 0 ≤ (wrap64 (1 + x69_2)) then (if (wrap64 (1 + x69_2)) < ((rdOf ByteArray.empty l0 x77_3).size : Int) then (piece_Join.l2 k3 l0 a1 x6_1 x7_1 t268 x11_2 x69_2 (y281.set (x77_3 : Int).toNat (⟨(rd_T93 y281 x77_3).f0, bt (rdOf ByteArray.empty l0 x77_3) (wrap64 (1 + x69_2))⟩ : S93)) ji41 x69_2 l0 (l0.length : Int) (wrap64 (x77_3 + 1))) else (none)) else (none)) else (piece_Join.l2 k3 l0 a1 x6_1 x7_1 t268 x11_2 x69_2 y281 ji41 x69_2 l0 (l0.length : Int) (wrap64 (x77_3 + 1))))) else (none)) else (piece_Join.l2 k3 l0 a1 x6_1 x7_1 t268 x11_2 x69_2 x13_3 ji41 x69_2 l0 (l0.length : Int) (wrap64 (x77_3 + 1)))) = some (r1, r2) := by rw [← hbq53] at H; exact H
                                        have Nbq53 := Aside0.mk hbq53
                                        clear hbq53
                                        by_cases c54 : bq53 = true
                                        · subst c54
                                          have H1 : (if x77_3 < (x13_3.length : Int) then ((some (x13_3.set (x77_3 : Int).toNat (⟨true, (rd_T93 x13_3 x77_3).f1⟩ : S93) : List (S93))).bind fun y281 => (if t268 > 0 then (if 0 ≤ (wrap64 (1 + x69_2)) then (if (wrap64 (1 + x69_2)) < ((rdOf ByteArray.empty l0 x77_3).size : Int) then (piece_Join.l2 k3 l0 a1 x6_1 x7_1 t268 x11_2 x69_2 (y281.set (x77_3 : Int).toNat (⟨(rd_T93 y281 x77_3).f0, bt (rdOf ByteArray.empty l0 x77_3) (wrap64 (1 + x69_2))⟩ : S93)) ji41 x69_2 l0 (l0.length : Int) (wrap64 (x77_3 + 1))) else (none)) else (none)) else (piece_Join.l2 k3 l0 a1 x6_1 x7_1 t268 x11_2 x69_2 y281 ji41 x69_2 l0 (l0.length : Int) (wrap64 (x77_3 + 1))))) else (none)) = some (r1, r2) := by rw [if_pos rfl] at H; exact H
                                          clear H
                                          have H := H1
                                          clear H1
                                          by_cases c55 : x77_3 < (x13_3.length : Int)
                                          · rw [if_pos c55] at H
                                            have c55b0 : decide (x77_3 < (x13_3.length : Int)) = true := decide_eq_true c55
                                            clear c55
                                            obtain ⟨y281, hy281⟩ : ∃ y_ : List (S93), y_ = (x13_3.set (x77_3 : Int).toNat (⟨true, (rd_T93 x13_3 x77_3).f1⟩ : S93)) := ⟨_, rfl⟩
                                            replace H : (if t268 > 0 then (if 0 ≤ (wrap64 (1 + x69_2)) then (if (wrap64 (1 + x69_2)) < ((rdOf ByteArray.empty l0 x77_3).size : Int) then (piece_Join.l2 k3 l0 a1 x6_1 x7_1 t268 x11_2 x69_2 (y281.set (x77_3 : Int).toNat (⟨(rd_T93 y281 x77_3).f0, bt (rdOf ByteArray.empty l0 x77_3) (wrap64 (1 + x69_2))⟩ : S93)) ji41 x69_2 l0 (l0.length : Int) (wrap64 (x77_3 + 1))) else (none)) else (none)) else (piece_Join.l2 k3 l0 a1 x6_1 x7_1 t268 x11_2 x69_2 y281 ji41 x69_2 l0 (l0.length : Int) (wrap64 (x77_3 + 1)))) = some (r1, r2) := by first | (rw [hy281]; with_reducible exact H) | (have H2_ := (Option.bind_some _ _).symm.trans H; rw [hy281]; with_reducible exact H2_) | (have H2_ := (Option.bind_some _ _).symm.trans H; with_reducible exact H2_) | with_reducible exact H | (rw [hy281]; exact H) | exact H
                                            have Ny281 := Aside0.mk hy281
                                            clear hy281
                                            by_cases c57 : t268 > 0
                                            · rw [if_pos c57] at H
                                              have c57b0 : decide (0 < t268) = true := decide_eq_true c57
                                              clear c57
                                              obtain ⟨ji58, hji58⟩ : ∃ j_ : Int, (wrap64 (1 + x69_2)) = j_ := ⟨_, rfl⟩
                                              replace H : (if 0 ≤ (ji58) then (if (ji58) < ((rdOf ByteArray.empty l0 x77_3).size : Int) then (piece_Join.l2 k3 l0 a1 x6_1 x7_1 t268 x11_2 x69_2 (y281.set (x77_3 : Int).toNat (⟨(rd_T93 y281 x77_3).f0, bt (rdOf ByteArray.empty l0 x77_3) (ji58)⟩ : S93)) ji41 x69_2 l0 (l0.length : Int) (wrap64 (x77_3 + 1))) else (none)) else (none)) = some (r1, r2) := by first | (rw [hji58] at H; exact H) | (simp only [hji58] at H ⊢; exact H)
                                              have hji58w : (IntKind.i64.wrap (1 + x69_2)) = ji58 := (i64_w _).trans hji58
                                              by_cases c59 : 0 ≤ (ji58)
                                              · rw [if_pos c59] at H
                                                have c59b0 : decide (0 ≤ (ji58)) = true := decide_eq_true c59
                                                clear c59
                                                by_cases c60 : (ji58) < ((rdOf ByteArray.empty l0 x77_3).size : Int)
                                                · rw [if_pos c60] at H
                                                  have c60b0 : decide ((ji58) < ((rdOf ByteArray.empty l0 x77_3).size : Int)) = true := decide_eq_true c60
                                                  clear c60
                                                  obtain ⟨y282, hy282⟩ : ∃ y_ : List (S93), y_ = (y281.set (x77_3 : Int).toNat (⟨(rd_T93 y281 x77_3).f0, bt (rdOf ByteArray.empty l0 x77_3) (ji58)⟩ : S93)) := ⟨_, rfl⟩
                                                  replace H : (piece_Join.l2 k3 l0 a1 x6_1 x7_1 t268 x11_2 x69_2 y282 ji41 x69_2 l0 (l0.length : Int) (wrap64 (x77_3 + 1))) = some (r1, r2) := by first | (rw [hy282]; with_reducible exact H) | (have H2_ := (Option.bind_some _ _).symm.trans H; rw [hy282]; with_reducible exact H2_) | (have H2_ := (Option.bind_some _ _).symm.trans H; with_reducible exact H2_) | with_reducible exact H | (rw [hy282]; exact H) | exact H
                                                  have Ny282 := Aside0.mk hy282
                                                  clear hy282
                                                  have H' := Aside0.mk H
                                                  clear H
                                                  have p279 : 0 ≤ (x77_3 : Int) := of_decide_eq_true (by first | (with_reducible assumption) | assumption)
                                                  have q279 : x77_3 < (l0.length : Int) := of_decide_eq_true (by first | (with_reducible assumption) | assumption)
                                                  obtain ⟨ad279, e279, hx279_0⟩ := Kd.at_string HR0.out x77_3 p279 q279
                                                  cases e279
                                                  replace hx279_0 := (HB.out.cell (World.block_lt_of_cell? w _ hx279_0)).trans hx279_0
                                                  replace p279 := eq_true p279
                                                  replace q279 := eq_true q279
                                                  obtain ⟨Ao63, co63, eo63⟩ := Kd.R_slice HO_6.out
                                                  subst eo63
                                                  have p280 : 0 ≤ (x77_3 : Int) := of_decide_eq_true (by first | (with_reducible assumption) | assumption)
                                                  have q280 : x77_3 < (x6_1.length : Int) := of_decide_eq_true (by first | (with_reducible assumption) | assumption)
                                                  obtain ⟨ad280, e280, hx280_0⟩ := Kd.at_bool (Kd.R_reads' HO_6.out).2.2 x77_3 p280 q280
                                                  (try rw [← Nbq53.out] at hx280_0)
                                                  cases e280
                                                  replace p280 := eq_true p280
                                                  replace q280 := eq_true q280
                                                  have p56 : 0 ≤ (x77_3 : Int) := of_decide_eq_true (by first | (with_reducible assumption) | assumption)
                                                  have q56 : (x77_3 : Int) < ((x13_3.length : Int) : Int) := of_decide_eq_true (by first | (with_reducible assumption) | assumption)
                                                  obtain ⟨go56, co56, eo56, gb56, gl56, cl56, HG56⟩ := Kd.R_form HO_13.out (by omega)
                                                  (first | cases eo56 | (injection eo56 with ea_ en_ ec_; (first | subst ea_ | (injection ea_ with ea_; subst ea_)); subst ec_; clear en_))
                                                  have GB56 := Aside0.mk gb56
                                                  have GG56 := Aside0.mk HG56
                                                  clear gb56 gl56 HG56
                                                  obtain ⟨ce56, hcl56, hM56, hcc56, hfr56⟩ := Kd.R_elem HO_13.out z93 (x77_3 : Int) p56 q56
                                                  obtain rfl := k93_openM hM56
                                                  have hx56_0 : wr.cell? ⟨go56, (x77_3 : Int).toNat * 2, none⟩ = some (.bool ((rd_T93 x13_3 x77_3).f0)) := hcc56 0 _ rfl
                                                  have hx56_1 : wr.cell? ⟨go56, (x77_3 : Int).toNat * 2 + 1, none⟩ = some (.int .u8 ((rd_T93 x13_3 x77_3).f1)) := hcc56 1 _ rfl
                                                  have hf56_0 : wr.frozen? ⟨go56, (x77_3 : Int).toNat * 2, none⟩ = false := hfr56 0
                                                  have hf56_1 : wr.frozen? ⟨go56, (x77_3 : Int).toNat * 2 + 1, none⟩ = false := hfr56 1
                                                  clear hcl56 hcc56 hfr56 hM56
                                                  replace p56 := eq_true p56
                                                  replace q56 := eq_true q56
                                                  have HX64 := Aside0.mk (show Kd.R k93 93 wr w.heap.size (fun _ => True) (.slice (some ⟨go56, 0, none⟩) x13_3.length co56) x13_3 from (by (with_reducible repeat (first | apply Kd.R_alloc | apply Kd.R_drewN | apply Kd.R_drew)); exact HO_13.out))
                                                  obtain ⟨ce64, hcl64, hM64, hcc64, hfr64⟩ := Kd.R_elem HX64.out z93 (x77_3 : Int) (of_decide_eq_true (by first | (with_reducible assumption) | assumption)) (by have h_ : (x77_3 : Int) < ((x13_3.length : Int) : Int) := of_decide_eq_true (by first | (with_reducible assumption) | assumption); first | exact h_ | (have e_ := (Kd.R_reads' HO_13.out).1; omega) | simpa using h_)
                                                  obtain rfl := k93_openM hM64
                                                  have HP64 := Kd.R_seg HX64.out (x77_3 : Int) (of_decide_eq_true (by first | (with_reducible assumption) | assumption)) (by have h_ : (x77_3 : Int) < ((x13_3.length : Int) : Int) := of_decide_eq_true (by first | (with_reducible assumption) | assumption); first | exact h_ | (have e_ := (Kd.R_reads' HO_13.out).1; omega) | simpa using h_) (seg := [.bool true]) (j := 0) hcl64 hcc64 (show 1 ≤ 2 from by decide) (x' := (⟨true, (rd_T93 x13_3 x77_3).f1⟩ : S93)) (k93_mkM _ _ _ (⟨true, (rd_T93 x13_3 x77_3).f1⟩ : S93) ) (fun _ hk => hk)
                                                  have hx64_0 := hcc64 0 _ rfl
                                                  (try simp only [show (k93).sz = 2 from rfl, Nat.mul_one, Nat.add_zero] at hx64_0)
                                                  have hf64_0 := hfr64 0
                                                  (try simp only [show (k93).sz = 2 from rfl, Nat.mul_one, Nat.add_zero] at hf64_0)
                                                  clear hcl64 hcc64 hfr64 hM64
                                                  go_wp2_with (first | ((with_reducible refine gate_store (t := 4) (p := 89) rfl ?_); refine store_event (t := 4) (p := 89) (v := ?vo_w65) (w1 := (wr.setCell ⟨go56, (x77_3 : Int).toNat * 2, none⟩ (.bool true))) ?hg ?ho ?hn ?hr ?_; (case ho => rfl); (case hg => rfl); (case hn => rfl); (case hr => first | (go_simp; done) | (go_simp; rfl)); intro w65 hw; have hg : wr.grownBy w65 (some go56) := (by rw [hw]; exact HP64.2); have hp_ : Kd.R k93 93 w65 w.heap.size (fun _ => True) (.slice (some ⟨go56, 0, none⟩) x13_3.length co56) y281 := (by rw [hw, Ny281.out]; exact HP64.1); clear HP64; have n0_ := Aside0.mk (Kd.R_over' (v := (.slice (some ⟨go56, 0, none⟩) x13_3.length co56)) (by (with_reducible repeat (first | apply Kd.R_alloc | apply Kd.R_drewN | apply Kd.R_drew)); exact HO_6.out) (Kd.R_typed HO_13.out) (by decide) hg); have n1_ := Aside0.mk (Kd.R_over' (v := (.slice (some ⟨go56, 0, none⟩) x13_3.length co56)) (by (with_reducible repeat (first | apply Kd.R_alloc | apply Kd.R_drewN | apply Kd.R_drew)); exact HO_11.out) (Kd.R_typed HO_13.out) (by decide) hg); have n2_ := Aside0.mk (hp_); have n3_ := Aside0.mk ((by rw [hw]; exact below_set (HB.out) GB56.out : Below w.heap.size w w65)); clear HO_6; clear HO_11; clear HO_13; clear HB; have HO_6 := n0_; have HO_11 := n1_; have HO_13 := n2_; have HB := n3_; clear n0_ n1_ n2_ n3_; clear hg hw hp_; have p61 : 0 ≤ ((ji58) : Int) := of_decide_eq_true (by first | (with_reducible assumption) | assumption); have q61 : (ji58) < ((rdOf ByteArray.empty l0 x77_3).size : Int) := of_decide_eq_true (by first | (with_reducible assumption) | assumption); have hx61 := bt_at (rdOf ByteArray.empty l0 x77_3) (ji58); replace p61 := eq_true p61; replace q61 := eq_true q61; have p62 : 0 ≤ (x77_3 : Int) := of_decide_eq_true (by first | (with_reducible assumption) | assumption); have q62 : (x77_3 : Int) < ((x13_3.length : Int) : Int) := of_decide_eq_true (by first | (with_reducible assumption) | assumption); obtain ⟨ce62, hcl62, hM62, hcc62, hfr62⟩ := Kd.R_elem HO_13.out z93 (x77_3 : Int) p62 q62; obtain rfl := k93_openM hM62; have hx62_0 : w65.cell? ⟨go56, (x77_3 : Int).toNat * 2, none⟩ = some (.bool ((rd_T93 y281 x77_3).f0)) := hcc62 0 _ rfl; have hx62_1 : w65.cell? ⟨go56, (x77_3 : Int).toNat * 2 + 1, none⟩ = some (.int .u8 ((rd_T93 y281 x77_3).f1)) := hcc62 1 _ rfl; have hf62_0 : w65.frozen? ⟨go56, (x77_3 : Int).toNat * 2, none⟩ = false := hfr62 0; have hf62_1 : w65.frozen? ⟨go56, (x77_3 : Int).toNat * 2 + 1, none⟩ = false := hfr62 1; clear hcl62 hcc62 hfr62 hM62; replace p62 := eq_true p62; replace q62 := eq_true q62; have HX66 := Aside0.mk (show Kd.R k93 93 w65 w.heap.size (fun _ => True) (.slice (some ⟨go56, 0, none⟩) x13_3.length co56) y281 from (by (with_reducible repeat (first | apply Kd.R_alloc | apply Kd.R_drewN | apply Kd.R_drew)); exact HO_13.out)); obtain ⟨ce66, hcl66, hM66, hcc66, hfr66⟩ := Kd.R_elem HX66.out z93 (x77_3 : Int) (of_decide_eq_true (by first | (with_reducible assumption) | assumption)) (by have h_ : (x77_3 : Int) < ((x13_3.length : Int) : Int) := of_decide_eq_true (by first | (with_reducible assumption) | assumption); first | exact h_ | (have e_ := (Kd.R_reads' HO_13.out).1; omega) | simpa using h_); obtain rfl := k93_openM hM66; have HP66 := Kd.R_seg HX66.out (x77_3 : Int) (of_decide_eq_true (by first | (with_reducible assumption) | assumption)) (by have h_ : (x77_3 : Int) < ((x13_3.length : Int) : Int) := of_decide_eq_true (by first | (with_reducible assumption) | assumption); first | exact h_ | (have e_ := (Kd.R_reads' HO_13.out).1; omega) | simpa using h_) (seg := [.int .u8 (bt (rdOf ByteArray.empty l0 x77_3) (ji58))]) (j := 1) hcl66 hcc66 (show 2 ≤ 2 from by decide) (x' := (⟨(rd_T93 y281 x77_3).f0, bt (rdOf ByteArray.empty l0 x77_3) (ji58)⟩ : S93)) (k93_mkM _ _ _ (⟨(rd_T93 y281 x77_3).f0, bt (rdOf ByteArray.empty l0 x77_3) (ji58)⟩ : S93) ) (fun _ hk => hk); have hx66_1 := hcc66 1 _ rfl; (try simp only [show (k93).sz = 2 from rfl, Nat.mul_one, Nat.add_zero] at hx66_1); have hf66_1 := hfr66 1; (try simp only [show (k93).sz = 2 from rfl, Nat.mul_one, Nat.add_zero] at hf66_1); clear hcl66 hcc66 hfr66 hM66) | ((with_reducible refine gate_store (t := 5) (p := 99) rfl ?_); refine store_event (t := 5) (p := 99) (v := ?vo_w67) (w1 := (w65.setCell ⟨go56, (x77_3 : Int).toNat * 2 + 1, none⟩ (.int .u8 (bt (rdOf ByteArray.empty l0 x77_3) (ji58))))) ?hg ?ho ?hn ?hr ?_; (case ho => rfl); (case hg => rfl); (case hn => rfl); (case hr => first | (go_simp; done) | (go_simp; rfl)); intro w67 hw; have hg : w65.grownBy w67 (some go56) := (by rw [hw]; exact HP66.2); have hp_ : Kd.R k93 93 w67 w.heap.size (fun _ => True) (.slice (some ⟨go56, 0, none⟩) x13_3.length co56) y282 := (by rw [hw, Ny282.out]; exact HP66.1); clear HP66; have n0_ := Aside0.mk (Kd.R_over' (v := (.slice (some ⟨go56, 0, none⟩) x13_3.length co56)) (by (with_reducible repeat (first | apply Kd.R_alloc | apply Kd.R_drewN | apply Kd.R_drew)); exact HO_6.out) (Kd.R_typed HO_13.out) (by decide) hg); have n1_ := Aside0.mk (Kd.R_over' (v := (.slice (some ⟨go56, 0, none⟩) x13_3.length co56)) (by (with_reducible repeat (first | apply Kd.R_alloc | apply Kd.R_drewN | apply Kd.R_drew)); exact HO_11.out) (Kd.R_typed HO_13.out) (by decide) hg); have n2_ := Aside0.mk (hp_); have n3_ := Aside0.mk ((by rw [hw]; exact below_set (HB.out) GB56.out : Below w.heap.size w w67)); clear HO_6; clear HO_11; clear HO_13; clear HB; have HO_6 := n0_; have HO_11 := n1_; have HO_13 := n2_; have HB := n3_; clear n0_ n1_ n2_ n3_; clear hg hw hp_))
                                                  go_roundg k3
                                                  case measure => have := HK1.out; have := HK2.out; have := HK3.out; omega
                                                  case rel => exact ⟨(y282), (wrap64 (x77_3 + 1)), (by first | rfl | (simp; done) | (simp [*]; done)), H', ⟨by have := HK1.out; have := HK2.out; have := HK3.out; omega⟩, ⟨by (with_reducible repeat (first | apply Kd.R_alloc | apply Kd.R_drewN | apply Kd.R_drew)); exact HO_6.out⟩, ⟨by (with_reducible repeat (first | apply Kd.R_alloc | apply Kd.R_drewN | apply Kd.R_drew)); exact HO_11.out⟩, ⟨by (with_reducible repeat (first | apply Kd.R_alloc | apply Kd.R_drewN | apply Kd.R_drew)); exact HO_13.out⟩, ⟨by repeat (first | (with_reducible first | exact HB.out | apply below_alloc | apply pw_below_drewN | apply below_drew1) | exact HB.out)⟩⟩
                                                · rw [if_neg c60] at H
                                                  exact absurd H (by simp)
                                              · rw [if_neg c59] at H
                                                exact absurd H (by simp)
                                            · rw [if_neg c57] at H
                                              have c57b0 : decide (0 < t268) = false := decide_eq_false c57
                                              clear c57
                                              have H' := Aside0.mk H
                                              clear H
                                              have p279 : 0 ≤ (x77_3 : Int) := of_decide_eq_true (by first | (with_reducible assumption) | assumption)
                                              have q279 : x77_3 < (l0.length : Int) := of_decide_eq_true (by first | (with_reducible assumption) | assumption)
                                              obtain ⟨ad279, e279, hx279_0⟩ := Kd.at_string HR0.out x77_3 p279 q279
                                              cases e279
                                              replace hx279_0 := (HB.out.cell (World.block_lt_of_cell? w _ hx279_0)).trans hx279_0
                                              replace p279 := eq_true p279
                                              replace q279 := eq_true q279
                                              obtain ⟨Ao68, co68, eo68⟩ := Kd.R_slice HO_6.out
                                              subst eo68
                                              have p280 : 0 ≤ (x77_3 : Int) := of_decide_eq_true (by first | (with_reducible assumption) | assumption)
                                              have q280 : x77_3 < (x6_1.length : Int) := of_decide_eq_true (by first | (with_reducible assumption) | assumption)
                                              obtain ⟨ad280, e280, hx280_0⟩ := Kd.at_bool (Kd.R_reads' HO_6.out).2.2 x77_3 p280 q280
                                              (try rw [← Nbq53.out] at hx280_0)
                                              cases e280
                                              replace p280 := eq_true p280
                                              replace q280 := eq_true q280
                                              have p56 : 0 ≤ (x77_3 : Int) := of_decide_eq_true (by first | (with_reducible assumption) | assumption)
                                              have q56 : (x77_3 : Int) < ((x13_3.length : Int) : Int) := of_decide_eq_true (by first | (with_reducible assumption) | assumption)
                                              obtain ⟨go56, co56, eo56, gb56, gl56, cl56, HG56⟩ := Kd.R_form HO_13.out (by omega)
                                              (first | cases eo56 | (injection eo56 with ea_ en_ ec_; (first | subst ea_ | (injection ea_ with ea_; subst ea_)); subst ec_; clear en_))
                                              have GB56 := Aside0.mk gb56
                                              have GG56 := Aside0.mk HG56
                                              clear gb56 gl56 HG56
                                              obtain ⟨ce56, hcl56, hM56, hcc56, hfr56⟩ := Kd.R_elem HO_13.out z93 (x77_3 : Int) p56 q56
                                              obtain rfl := k93_openM hM56
                                              have hx56_0 : wr.cell? ⟨go56, (x77_3 : Int).toNat * 2, none⟩ = some (.bool ((rd_T93 x13_3 x77_3).f0)) := hcc56 0 _ rfl
                                              have hx56_1 : wr.cell? ⟨go56, (x77_3 : Int).toNat * 2 + 1, none⟩ = some (.int .u8 ((rd_T93 x13_3 x77_3).f1)) := hcc56 1 _ rfl
                                              have hf56_0 : wr.frozen? ⟨go56, (x77_3 : Int).toNat * 2, none⟩ = false := hfr56 0
                                              have hf56_1 : wr.frozen? ⟨go56, (x77_3 : Int).toNat * 2 + 1, none⟩ = false := hfr56 1
                                              clear hcl56 hcc56 hfr56 hM56
                                              replace p56 := eq_true p56
                                              replace q56 := eq_true q56
                                              have HX69 := Aside0.mk (show Kd.R k93 93 wr w.heap.size (fun _ => True) (.slice (some ⟨go56, 0, none⟩) x13_3.length co56) x13_3 from (by (with_reducible repeat (first | apply Kd.R_alloc | apply Kd.R_drewN | apply Kd.R_drew)); exact HO_13.out))
                                              obtain ⟨ce69, hcl69, hM69, hcc69, hfr69⟩ := Kd.R_elem HX69.out z93 (x77_3 : Int) (of_decide_eq_true (by first | (with_reducible assumption) | assumption)) (by have h_ : (x77_3 : Int) < ((x13_3.length : Int) : Int) := of_decide_eq_true (by first | (with_reducible assumption) | assumption); first | exact h_ | (have e_ := (Kd.R_reads' HO_13.out).1; omega) | simpa using h_)
                                              obtain rfl := k93_openM hM69
                                              have HP69 := Kd.R_seg HX69.out (x77_3 : Int) (of_decide_eq_true (by first | (with_reducible assumption) | assumption)) (by have h_ : (x77_3 : Int) < ((x13_3.length : Int) : Int) := of_decide_eq_true (by first | (with_reducible assumption) | assumption); first | exact h_ | (have e_ := (Kd.R_reads' HO_13.out).1; omega) | simpa using h_) (seg := [.bool true]) (j := 0) hcl69 hcc69 (show 1 ≤ 2 from by decide) (x' := (⟨true, (rd_T93 x13_3 x77_3).f1⟩ : S93)) (k93_mkM _ _ _ (⟨true, (rd_T93 x13_3 x77_3).f1⟩ : S93) ) (fun _ hk => hk)
                                              have hx69_0 := hcc69 0 _ rfl
                                              (try simp only [show (k93).sz = 2 from rfl, Nat.mul_one, Nat.add_zero] at hx69_0)
                                              have hf69_0 := hfr69 0
                                              (try simp only [show (k93).sz = 2 from rfl, Nat.mul_one, Nat.add_zero] at hf69_0)
                                              clear hcl69 hcc69 hfr69 hM69
                                              go_wp2_with (first | ((with_reducible refine gate_store (t := 4) (p := 89) rfl ?_); refine store_event (t := 4) (p := 89) (v := ?vo_w70) (w1 := (wr.setCell ⟨go56, (x77_3 : Int).toNat * 2, none⟩ (.bool true))) ?hg ?ho ?hn ?hr ?_; (case ho => rfl); (case hg => rfl); (case hn => rfl); (case hr => first | (go_simp; done) | (go_simp; rfl)); intro w70 hw; have hg : wr.grownBy w70 (some go56) := (by rw [hw]; exact HP69.2); have hp_ : Kd.R k93 93 w70 w.heap.size (fun _ => True) (.slice (some ⟨go56, 0, none⟩) x13_3.length co56) y281 := (by rw [hw, Ny281.out]; exact HP69.1); clear HP69; have n0_ := Aside0.mk (Kd.R_over' (v := (.slice (some ⟨go56, 0, none⟩) x13_3.length co56)) (by (with_reducible repeat (first | apply Kd.R_alloc | apply Kd.R_drewN | apply Kd.R_drew)); exact HO_6.out) (Kd.R_typed HO_13.out) (by decide) hg); have n1_ := Aside0.mk (Kd.R_over' (v := (.slice (some ⟨go56, 0, none⟩) x13_3.length co56)) (by (with_reducible repeat (first | apply Kd.R_alloc | apply Kd.R_drewN | apply Kd.R_drew)); exact HO_11.out) (Kd.R_typed HO_13.out) (by decide) hg); have n2_ := Aside0.mk (hp_); have n3_ := Aside0.mk ((by rw [hw]; exact below_set (HB.out) GB56.out : Below w.heap.size w w70)); clear HO_6; clear HO_11; clear HO_13; clear HB; have HO_6 := n0_; have HO_11 := n1_; have HO_13 := n2_; have HB := n3_; clear n0_ n1_ n2_ n3_; clear hg hw hp_))
                                              go_roundg k3
                                              case measure => have := HK1.out; have := HK2.out; have := HK3.out; omega
                                              case rel => exact ⟨(y281), (wrap64 (x77_3 + 1)), (by first | rfl | (simp; done) | (simp [*]; done)), H', ⟨by have := HK1.out; have := HK2.out; have := HK3.out; omega⟩, ⟨by (with_reducible repeat (first | apply Kd.R_alloc | apply Kd.R_drewN | apply Kd.R_drew)); exact HO_6.out⟩, ⟨by (with_reducible repeat (first | apply Kd.R_alloc | apply Kd.R_drewN | apply Kd.R_drew)); exact HO_11.out⟩, ⟨by (with_reducible repeat (first | apply Kd.R_alloc | apply Kd.R_drewN | apply Kd.R_drew)); exact HO_13.out⟩, ⟨by repeat (first | (with_reducible first | exact HB.out | apply below_alloc | apply pw_below_drewN | apply below_drew1) | exact HB.out)⟩⟩
                                          · rw [if_neg c55] at H
                                            exact absurd H (by simp)
                                        · replace c54 := Bool.eq_false_iff.mpr c54
                                          subst c54
                                          have H1 : (piece_Join.l2 k3 l0 a1 x6_1 x7_1 t268 x11_2 x69_2 x13_3 ji41 x69_2 l0 (l0.length : Int) (wrap64 (x77_3 + 1))) = some (r1, r2) := by rw [if_neg (show ¬ (false = true) by decide)] at H; exact H
                                          clear H
                                          have H := H1
                                          clear H1
                                          have H' := Aside0.mk H
                                          clear H
                                          have p279 : 0 ≤ (x77_3 : Int) := of_decide_eq_true (by first | (with_reducible assumption) | assumption)
                                          have q279 : x77_3 < (l0.length : Int) := of_decide_eq_true (by first | (with_reducible assumption) | assumption)
                                          obtain ⟨ad279, e279, hx279_0⟩ := Kd.at_string HR0.out x77_3 p279 q279
                                          cases e279
                                          replace hx279_0 := (HB.out.cell (World.block_lt_of_cell? w _ hx279_0)).trans hx279_0
                                          replace p279 := eq_true p279
                                          replace q279 := eq_true q279
                                          obtain ⟨Ao71, co71, eo71⟩ := Kd.R_slice HO_6.out
                                          subst eo71
                                          have p280 : 0 ≤ (x77_3 : Int) := of_decide_eq_true (by first | (with_reducible assumption) | assumption)
                                          have q280 : x77_3 < (x6_1.length : Int) := of_decide_eq_true (by first | (with_reducible assumption) | assumption)
                                          obtain ⟨ad280, e280, hx280_0⟩ := Kd.at_bool (Kd.R_reads' HO_6.out).2.2 x77_3 p280 q280
                                          (try rw [← Nbq53.out] at hx280_0)
                                          cases e280
                                          replace p280 := eq_true p280
                                          replace q280 := eq_true q280
                                          go_wp2
                                          go_roundg k3
                                          case measure => have := HK1.out; have := HK2.out; have := HK3.out; omega
                                          case rel => exact ⟨(x13_3), (wrap64 (x77_3 + 1)), (by first | rfl | (simp; done) | (simp [*]; done)), H', ⟨by have := HK1.out; have := HK2.out; have := HK3.out; omega⟩, ⟨by (with_reducible repeat (first | apply Kd.R_alloc | apply Kd.R_drewN | apply Kd.R_drew)); exact HO_6.out⟩, ⟨by (with_reducible repeat (first | apply Kd.R_alloc | apply Kd.R_drewN | apply Kd.R_drew)); exact HO_11.out⟩, ⟨by (with_reducible repeat (first | apply Kd.R_alloc | apply Kd.R_drewN | apply Kd.R_drew)); exact HO_13.out⟩, ⟨by repeat (first | (with_reducible first | exact HB.out | apply below_alloc | apply pw_below_drewN | apply below_drew1) | exact HB.out)⟩⟩
                                      · rw [if_neg c52] at H
                                        exact absurd H (by simp)
                                    · rw [if_neg c51] at H
                                      exact absurd H (by simp)
                                  · rw [if_neg c50] at H
                                    exact absurd H (by simp)
                                · rw [if_neg c49] at H
                                  have c49b0 : decide (x77_3 < (l0.length : Int)) = false := decide_eq_false c49
                                  clear c49
                                  replace H := Option.bind_eq_some_iff.mp H
                                  obtain ⟨⟨t283, t284⟩, A720, H⟩ := H
                                  replace H : (if t284 = 0 then (piece_Join.l3 k3 l0 a1 x6_1 x7_1 t268 x11_2 x69_2 t283 ji41 x69_2 a1 0) else (some ((⟨#[]⟩ : ByteArray), t284))) = some (r1, r2) := H
                                  have A72 := Aside0.mk A720
                                  clear A720
                                  by_cases c73 : t284 = 0
                                  · rw [if_pos c73] at H
                                    have c73b0 : (t284 == 0) = true := beq_iff_eq.mpr c73
                                    have c73b1 : (t284 != 0) = false := bne_eq_false_iff_eq.mpr c73
                                    clear c73
                                    have H' := Aside0.mk H
                                    clear H
                                    obtain ⟨Ao74, co74, eo74⟩ := Kd.R_slice HO_13.out
                                    subst eo74
                                    go_wp2_with (first | ((with_reducible refine gate_callee (f := 44) rfl ?_); refine goesL_ (some 104) rfl rfl Try.func44 (by kernel_rfl) rfl #[.slice Ao74 x13_3.length co74, .int .i64 a1] rfl (by (try simp only [List.map_toArray, List.map_cons, List.map_nil]); first | done | rfl | (simp only [List.length_drop, List.length_take]; rfl)) ?_; (with_reducible refine (reed_Mend.calls k3 _ _ x13_3 a1 t283 t284 _ ?side1 ?side2 A72.out).mono ?_); (case side1 => repeat (first | exact (Kd.R_reads' HO_13.out).2.2 | (with_reducible refine Kd.C_alloc ?_ _) | (with_reducible refine Kd.C_drewN ?_ _) | (with_reducible refine Kd.C_drew ?_))); (case side2 => exact (Kd.R_reads' HO_13.out).2.1); rintro e w75 ⟨v285, rfl, ho0, hb⟩; refine ⟨_, rfl, ?_⟩; have n0_ := Aside0.mk (Kd.R_below (by (with_reducible repeat (first | apply Kd.R_alloc | apply Kd.R_drewN | apply Kd.R_drew)); exact HO_6.out) hb); have n1_ := Aside0.mk (Kd.R_elder' (by (with_reducible repeat (first | apply Kd.R_alloc | apply Kd.R_drewN | apply Kd.R_drew)); exact HO_11.out) (Kd.R_base ho0) hb); have n2_ := Aside0.mk (Kd.R_below (by (with_reducible repeat (first | apply Kd.R_alloc | apply Kd.R_drewN | apply Kd.R_drew)); exact HO_13.out) hb); have n3_ := Aside0.mk (Kd.R_lower (Kd.R_new' ho0 (Kd.R_lt (by (with_reducible repeat (first | apply Kd.R_alloc | apply Kd.R_drewN | apply Kd.R_drew)); exact HO_11.out))) (below_size (by repeat (first | (with_reducible first | exact HB.out | apply below_alloc | apply pw_below_drewN | apply below_drew1) | exact HB.out)))); have n4_ := Aside0.mk (below_step (by repeat (first | (with_reducible first | exact HB.out | apply below_alloc | apply pw_below_drewN | apply below_drew1) | exact HB.out)) hb); clear HO_6; clear HO_11; clear HO_13; clear HB; have HO_6 := n0_; have HO_11 := n1_; have HO_13 := n2_; have HO286 := n3_; have HB := n4_; clear n0_ n1_ n2_ n3_ n4_; (try clear hb); (try clear hb2); (try clear hk); (try clear hi); (try clear ho0)))
                                    go_loopg [111] k3 (fun kq v111 w' => ∃ (x11_4 : List Int) (x111_4 : Int), v111 = .int .i64 x111_4 ∧ Aside0 (piece_Join.l3 kq l0 a1 x6_1 x7_1 t268 x11_4 x69_2 t283 ji41 x69_2 a1 x111_4 = some (r1, r2)) ∧ Aside0 (kq ≤ k3) ∧ Aside0 (Kd.R Kd.bool 4 w' w.heap.size (fun _ => True) v262 x6_1) ∧ Aside0 (Kd.R (Kd.int .u8) 5 w' w.heap.size (fun k_ => some k_ ≠ (v285 : Value).ownBlock) v270 x11_4) ∧ Aside0 (Kd.R (Kd.int .u8) 5 w' w.heap.size (fun k_ => some k_ ≠ (v270 : Value).ownBlock) v285 t283) ∧ Aside0 (Below w.heap.size w w'))
                                    case atStart => exact ⟨(x11_2), (0), (by first | rfl | (simp; done) | (simp [*]; done)), H', ⟨Nat.le_refl _⟩, ⟨by (with_reducible repeat (first | apply Kd.R_alloc | apply Kd.R_drewN | apply Kd.R_drew)); exact HO_6.out⟩, ⟨by (with_reducible repeat (first | apply Kd.R_alloc | apply Kd.R_drewN | apply Kd.R_drew)); exact Kd.R_mono HO_11.out (fun _ hk => hk.2)⟩, ⟨by (with_reducible repeat (first | apply Kd.R_alloc | apply Kd.R_drewN | apply Kd.R_drew)); exact Kd.R_mono HO286.out (fun _ hk => hk.2)⟩, ⟨by repeat (first | (with_reducible first | exact HB.out | apply below_alloc | apply pw_below_drewN | apply below_drew1) | exact HB.out)⟩⟩
                                    case round =>
                                      clear H'
                                      try clear c1
                                      try clear p1
                                      try clear q1
                                      try clear hx1
                                      try clear qi1
                                      try clear c2
                                      try clear p2
                                      try clear q2
                                      try clear hx2
                                      try clear qi2
                                      try clear c3
                                      try clear c4
                                      try clear c5
                                      try clear c5b0
                                      try clear c5b1
                                      try clear p5
                                      try clear q5
                                      try clear hx5
                                      try clear hf5
                                      try clear c6
                                      try clear c6b0
                                      try clear c6b1
                                      try clear p6
                                      try clear q6
                                      try clear hx6
                                      try clear hf6
                                      try clear c7
                                      try clear c9
                                      try clear c9b0
                                      try clear c10
                                      try clear c10b0
                                      try clear c11
                                      try clear c11b0
                                      try clear c13
                                      try clear c13b0
                                      try clear c14
                                      try clear p14
                                      try clear q14
                                      try clear hx14
                                      try clear hf14
                                      try clear q15
                                      try clear c16
                                      try clear c17
                                      try clear c17b0
                                      try clear c18
                                      try clear c18b0
                                      try clear c18b1
                                      try clear p19
                                      try clear q19
                                      try clear hx19
                                      try clear qi19
                                      try clear c20
                                      try clear c20b0
                                      try clear c20b1
                                      try clear p21
                                      try clear q21
                                      try clear hx21
                                      try clear qi21
                                      try clear p26
                                      try clear q26
                                      try clear hx26
                                      try clear p27
                                      try clear q27
                                      try clear hx27
                                      try clear c28
                                      try clear c28b0
                                      try clear c28b1
                                      try clear p28
                                      try clear q28
                                      try clear hx28
                                      try clear p29
                                      try clear q29
                                      try clear hx29
                                      try clear qi29
                                      try clear c33
                                      try clear c34
                                      try clear c39
                                      try clear c39b0
                                      try clear c39b1
                                      try clear c40
                                      try clear c40b0
                                      try clear c40b1
                                      try clear c43
                                      try clear c44
                                      try clear c44b0
                                      try clear c45
                                      try clear c45b0
                                      try clear c45b1
                                      try clear c46
                                      try clear c46b0
                                      try clear c46b1
                                      try clear c49
                                      try clear c49b0
                                      try clear c50
                                      try clear c50b0
                                      try clear c51
                                      try clear c51b0
                                      try clear c52
                                      try clear c52b0
                                      try clear q53
                                      try clear c54
                                      try clear c55
                                      try clear c55b0
                                      try clear c56
                                      try clear p56
                                      try clear q56
                                      try clear hx56
                                      try clear hf56
                                      try clear c57
                                      try clear c57b0
                                      try clear c59
                                      try clear c59b0
                                      try clear c60
                                      try clear c60b0
                                      try clear p61
                                      try clear q61
                                      try clear hx61
                                      try clear c62
                                      try clear p62
                                      try clear q62
                                      try clear hx62
                                      try clear hf62
                                      try clear c64
                                      try clear p64
                                      try clear hx64
                                      try clear hf64
                                      try clear c66
                                      try clear hx66
                                      try clear hf66
                                      try clear c69
                                      try clear hx69
                                      try clear hf69
                                      try clear c73
                                      try clear c73b0
                                      try clear c73b1
                                      try clear hx14_0
                                      try clear hx264_0
                                      try clear hx267_0
                                      try clear hx279_0
                                      try clear hx280_0
                                      try clear hx56_0
                                      try clear hx56_1
                                      try clear hx62_0
                                      try clear hx62_1
                                      try clear hx64_0
                                      try clear hx66_1
                                      try clear hx69_0
                                      try clear p1
                                      try clear p14
                                      try clear p19
                                      try clear p2
                                      try clear p21
                                      try clear p26
                                      try clear p264
                                      try clear p267
                                      try clear p279
                                      try clear p280
                                      try clear p29
                                      try clear p56
                                      try clear p6
                                      try clear p61
                                      try clear p62
                                      try clear q1
                                      try clear q14
                                      try clear q15
                                      try clear q19
                                      try clear q2
                                      try clear q21
                                      try clear q26
                                      try clear q264
                                      try clear q267
                                      try clear q279
                                      try clear q280
                                      try clear q29
                                      try clear q56
                                      try clear q61
                                      try clear q62
                                      obtain ⟨x11_4, x111_4, rfl, HA, HK4, HO_6, HO_11, HO_16, HB⟩ := hrel
                                      cases gk with
                                      | zero => exact absurd HA.out (by simp [piece_Join.l3])
                                      | succ k4 =>
                                        have H := HA.out
                                        clear HA
                                        simp only [piece_Join.l3] at H
                                        by_cases c76 : x111_4 < a1
                                        · rw [if_pos c76] at H
                                          have c76b0 : decide (x111_4 < a1) = true := decide_eq_true c76
                                          clear c76
                                          by_cases c77 : t268 > 0
                                          · rw [if_pos c77] at H
                                            have c77b0 : decide (0 < t268) = true := decide_eq_true c77
                                            clear c77
                                            by_cases c78 : 0 ≤ x111_4
                                            · rw [if_pos c78] at H
                                              have c78b0 : decide (0 ≤ x111_4) = true := decide_eq_true c78
                                              clear c78
                                              by_cases c79 : x111_4 < (t283.length : Int)
                                              · rw [if_pos c79] at H
                                                have c79b0 : decide (x111_4 < (t283.length : Int)) = true := decide_eq_true c79
                                                clear c79
                                                obtain ⟨ji80, hji80⟩ : ∃ j_ : Int, (wrap64 ((wrap64 (x111_4 * t268)) + x69_2)) = j_ := ⟨_, rfl⟩
                                                replace H : (if 0 ≤ (ji80) then (if (ji80) < (x11_4.length : Int) then (piece_Join.l3 k4 l0 a1 x6_1 x7_1 t268 (x11_4.set ((ji80) : Int).toNat (rd t283 x111_4)) x69_2 t283 ji41 x69_2 a1 (wrap64 (x111_4 + 1))) else (none)) else (none)) = some (r1, r2) := by first | (rw [hji80] at H; exact H) | (simp only [hji80] at H ⊢; exact H)
                                                have hji80w : (IntKind.i64.wrap ((wrap64 (x111_4 * t268)) + x69_2)) = ji80 := (i64_w _).trans hji80
                                                by_cases c81 : 0 ≤ (ji80)
                                                · rw [if_pos c81] at H
                                                  have c81b0 : decide (0 ≤ (ji80)) = true := decide_eq_true c81
                                                  clear c81
                                                  by_cases c82 : (ji80) < (x11_4.length : Int)
                                                  · rw [if_pos c82] at H
                                                    have c82b0 : decide ((ji80) < (x11_4.length : Int)) = true := decide_eq_true c82
                                                    clear c82
                                                    obtain ⟨y288, hy288⟩ : ∃ y_ : List Int, y_ = (x11_4.set ((ji80) : Int).toNat (rd t283 x111_4)) := ⟨_, rfl⟩
                                                    replace H : (piece_Join.l3 k4 l0 a1 x6_1 x7_1 t268 y288 x69_2 t283 ji41 x69_2 a1 (wrap64 (x111_4 + 1))) = some (r1, r2) := by first | (rw [hy288]; with_reducible exact H) | (have H2_ := (Option.bind_some _ _).symm.trans H; rw [hy288]; with_reducible exact H2_) | (have H2_ := (Option.bind_some _ _).symm.trans H; with_reducible exact H2_) | with_reducible exact H | (rw [hy288]; exact H) | exact H
                                                    have Ny288 := Aside0.mk hy288
                                                    clear hy288
                                                    have H' := Aside0.mk H
                                                    clear H
                                                    obtain ⟨Ao84, co84, eo84⟩ := Kd.R_slice HO_16.out
                                                    subst eo84
                                                    have p287 : 0 ≤ (x111_4 : Int) := of_decide_eq_true (by first | (with_reducible assumption) | assumption)
                                                    have q287 : x111_4 < (t283.length : Int) := of_decide_eq_true (by first | (with_reducible assumption) | assumption)
                                                    obtain ⟨ad287, e287, hx287_0⟩ := Kd.at_int (Kd.R_reads' HO_16.out).2.2 x111_4 p287 q287
                                                    cases e287
                                                    replace p287 := eq_true p287
                                                    replace q287 := eq_true q287
                                                    have p83 : 0 ≤ ((ji80) : Int) := of_decide_eq_true (by first | (with_reducible assumption) | assumption)
                                                    have q83 : ((ji80) : Int) < ((x11_4.length : Int) : Int) := of_decide_eq_true (by first | (with_reducible assumption) | assumption)
                                                    obtain ⟨go83, co83, eo83, gb83, gl83, cl83, HG83⟩ := Kd.R_form HO_11.out (by omega)
                                                    (first | cases eo83 | (injection eo83 with ea_ en_ ec_; (first | subst ea_ | (injection ea_ with ea_; subst ea_)); subst ec_; clear en_))
                                                    have GB83 := Aside0.mk gb83
                                                    have GG83 := Aside0.mk HG83
                                                    clear gb83 gl83 HG83
                                                    obtain ⟨hx83_0, hf83_0⟩ := Kd.R_celln 0 HO_11.out ((ji80) : Int) p83 q83
                                                    replace p83 := eq_true p83
                                                    replace q83 := eq_true q83
                                                    have HP85 := Kd.R_putg HO_11.out ((ji80) : Int) (rd t283 x111_4)
                                                    go_wp2_with (first | ((with_reducible refine gate_store (t := 5) (p := 126) rfl ?_); refine store_event (t := 5) (p := 126) (v := ?vo_w86) (w1 := (wr.setCell ⟨go83, ((ji80) : Int).toNat, none⟩ (.int .u8 (rd t283 x111_4)))) ?hg ?ho ?hn ?hr ?_; (case ho => rfl); (case hg => rfl); (case hn => rfl); (case hr => first | (go_simp; done) | (go_simp; rfl)); intro w86 hw; have hg : wr.grownBy w86 (some go83) := (by rw [hw]; exact HP85.2); have hp_ : Kd.R (Kd.int .u8) 5 w86 w.heap.size (fun k_ => some k_ ≠ (.slice (some ad287) t283.length co84 : Value).ownBlock) (.slice (some ⟨go83, 0, none⟩) x11_4.length co83) y288 := (by rw [hw, Ny288.out]; exact HP85.1); clear HP85; have n0_ := Aside0.mk (Kd.R_over' (v := (.slice (some ⟨go83, 0, none⟩) x11_4.length co83)) (by (with_reducible repeat (first | apply Kd.R_alloc | apply Kd.R_drewN | apply Kd.R_drew)); exact HO_6.out) (Kd.R_typed HO_11.out) (by decide) hg); have n1_ := Aside0.mk (hp_); have n2_ := Aside0.mk (Kd.R_after (v := (.slice (some ⟨go83, 0, none⟩) x11_4.length co83)) (v1 := (.slice (some ⟨go83, 0, none⟩) x11_4.length co83)) (ok := (fun _ => True)) (by (with_reducible repeat (first | apply Kd.R_alloc | apply Kd.R_drewN | apply Kd.R_drew)); exact Kd.R_mono HO_16.out (fun _ hk => ⟨trivial, hk⟩)) hg (.inl rfl)); have n3_ := Aside0.mk ((by rw [hw]; exact below_set (HB.out) GB83.out : Below w.heap.size w w86)); clear HO_6; clear HO_11; clear HO_16; clear HB; have HO_6 := n0_; have HO_11 := n1_; have HO_16 := n2_; have HB := n3_; clear n0_ n1_ n2_ n3_; clear hg hw hp_))
                                                    go_roundg k4
                                                    case measure => have := HK1.out; have := HK2.out; have := HK3.out; have := HK4.out; omega
                                                    case rel => exact ⟨(y288), (wrap64 (x111_4 + 1)), (by first | rfl | (simp; done) | (simp [*]; done)), H', ⟨by have := HK1.out; have := HK2.out; have := HK3.out; have := HK4.out; omega⟩, ⟨by (with_reducible repeat (first | apply Kd.R_alloc | apply Kd.R_drewN | apply Kd.R_drew)); exact HO_6.out⟩, ⟨by (with_reducible repeat (first | apply Kd.R_alloc | apply Kd.R_drewN | apply Kd.R_drew)); exact HO_11.out⟩, ⟨by (with_reducible repeat (first | apply Kd.R_alloc | apply Kd.R_drewN | apply Kd.R_drew)); exact Kd.R_mono HO_16.out (fun _ hk => hk.2)⟩, ⟨by repeat (first | (with_reducible first | exact HB.out | apply below_alloc | apply pw_below_drewN | apply below_drew1) | exact HB.out)⟩⟩
                                                  · rw [if_neg c82] at H
                                                    exact absurd H (by simp)
                                                · rw [if_neg c81] at H
                                                  exact absurd H (by simp)
                                              · rw [if_neg c79] at H
                                                exact absurd H (by simp)
                                            · rw [if_neg c78] at H
                                              exact absurd H (by simp)
                                          · rw [if_neg c77] at H
                                            have c77b0 : decide (0 < t268) = false := decide_eq_false c77
                                            clear c77
                                            have H' := Aside0.mk H
                                            clear H
                                            go_wp2
                                            go_roundg k4
                                            case measure => have := HK1.out; have := HK2.out; have := HK3.out; have := HK4.out; omega
                                            case rel => exact ⟨(x11_4), (wrap64 (x111_4 + 1)), (by first | rfl | (simp; done) | (simp [*]; done)), H', ⟨by have := HK1.out; have := HK2.out; have := HK3.out; have := HK4.out; omega⟩, ⟨by (with_reducible repeat (first | apply Kd.R_alloc | apply Kd.R_drewN | apply Kd.R_drew)); exact HO_6.out⟩, ⟨by (with_reducible repeat (first | apply Kd.R_alloc | apply Kd.R_drewN | apply Kd.R_drew)); exact HO_11.out⟩, ⟨by (with_reducible repeat (first | apply Kd.R_alloc | apply Kd.R_drewN | apply Kd.R_drew)); exact HO_16.out⟩, ⟨by repeat (first | (with_reducible first | exact HB.out | apply below_alloc | apply pw_below_drewN | apply below_drew1) | exact HB.out)⟩⟩
                                        · rw [if_neg c76] at H
                                          have c76b0 : decide (x111_4 < a1) = false := decide_eq_false c76
                                          clear c76
                                          have H' := Aside0.mk H
                                          clear H
                                          go_wp2
                                          go_roundg k4
                                          case measure => have := HK1.out; have := HK2.out; have := HK3.out; have := HK4.out; omega
                                          case rel => exact ⟨(x11_4), (wrap64 (x69_2 + 1)), (by first | rfl | (simp; done) | (simp [*]; done)), H', ⟨by have := HK1.out; have := HK2.out; have := HK3.out; have := HK4.out; omega⟩, ⟨by (with_reducible repeat (first | apply Kd.R_alloc | apply Kd.R_drewN | apply Kd.R_drew)); exact HO_6.out⟩, ⟨by (with_reducible repeat (first | apply Kd.R_alloc | apply Kd.R_drewN | apply Kd.R_drew)); exact Kd.R_mono HO_11.out (fun _ hk => trivial)⟩, ⟨by repeat (first | (with_reducible first | exact HB.out | apply below_alloc | apply pw_below_drewN | apply below_drew1) | exact HB.out)⟩⟩
                                  · rw [if_neg c73] at H
                                    have c73b0 : (t284 == 0) = false := beq_eq_false_iff_ne.mpr c73
                                    have c73b1 : (t284 != 0) = true := bne_iff_ne.mpr c73
                                    simp only [Option.some.injEq, Prod.mk.injEq] at H
                                    obtain ⟨rfl, rfl⟩ := H
                                    obtain ⟨Ao87, co87, eo87⟩ := Kd.R_slice HO_13.out
                                    subst eo87
                                    go_wp2_with (first | ((with_reducible refine gate_callee (f := 44) rfl ?_); refine goesL_ (some 104) rfl rfl Try.func44 (by kernel_rfl) rfl #[.slice Ao87 x13_3.length co87, .int .i64 a1] rfl (by (try simp only [List.map_toArray, List.map_cons, List.map_nil]); first | done | rfl | (simp only [List.length_drop, List.length_take]; rfl)) ?_; (with_reducible refine (reed_Mend.calls k3 _ _ x13_3 a1 t283 t284 _ ?side1 ?side2 A72.out).mono ?_); (case side1 => repeat (first | exact (Kd.R_reads' HO_13.out).2.2 | (with_reducible refine Kd.C_alloc ?_ _) | (with_reducible refine Kd.C_drewN ?_ _) | (with_reducible refine Kd.C_drew ?_))); (case side2 => exact (Kd.R_reads' HO_13.out).2.1); rintro e w88 ⟨v285, rfl, ho0, hb⟩; refine ⟨_, rfl, ?_⟩; have n0_ := Aside0.mk (Kd.R_below (by (with_reducible repeat (first | apply Kd.R_alloc | apply Kd.R_drewN | apply Kd.R_drew)); exact HO_6.out) hb); have n1_ := Aside0.mk (Kd.R_elder' (by (with_reducible repeat (first | apply Kd.R_alloc | apply Kd.R_drewN | apply Kd.R_drew)); exact HO_11.out) (Kd.R_base ho0) hb); have n2_ := Aside0.mk (Kd.R_below (by (with_reducible repeat (first | apply Kd.R_alloc | apply Kd.R_drewN | apply Kd.R_drew)); exact HO_13.out) hb); have n3_ := Aside0.mk (Kd.R_lower (Kd.R_new' ho0 (Kd.R_lt (by (with_reducible repeat (first | apply Kd.R_alloc | apply Kd.R_drewN | apply Kd.R_drew)); exact HO_11.out))) (below_size (by repeat (first | (with_reducible first | exact HB.out | apply below_alloc | apply pw_below_drewN | apply below_drew1) | exact HB.out)))); have n4_ := Aside0.mk (below_step (by repeat (first | (with_reducible first | exact HB.out | apply below_alloc | apply pw_below_drewN | apply below_drew1) | exact HB.out)) hb); clear HO_6; clear HO_11; clear HO_13; clear HB; have HO_6 := n0_; have HO_11 := n1_; have HO_13 := n2_; have HO286 := n3_; have HB := n4_; clear n0_ n1_ n2_ n3_ n4_; (try clear hb); (try clear hb2); (try clear hk); (try clear hi); (try clear ho0)))
                                    go_ret2
                                    exact ⟨by first | rfl | (simp [errW_none, errW_some] <;> rfl) | (simp only [← hji36, ← hji38, ← hji41]; first | rfl | (simp [errW_none, errW_some] <;> rfl)) | (simp [*, errW_none, errW_some] <;> rfl), by repeat (first | (with_reducible first | exact HB.out | apply below_alloc | apply pw_below_drewN | apply below_drew1) | exact HB.out)⟩
                          · rw [if_neg c46] at H
                            exact absurd H (by simp)
                        · rw [if_neg c45] at H
                          exact absurd H (by simp)
                      · rw [if_neg c44] at H
                        have c44b0 : decide (x69_2 < ji41) = false := decide_eq_false c44
                        clear c44
                        obtain ⟨ji89, hji89⟩ : ∃ j_ : Int, (mx x7_1 0) = j_ := ⟨_, rfl⟩
                        replace H : (if 0 ≤ (ji89) then (if (ji89) ≤ (x11_2.length : Int) then (some (strOfNums (x11_2.take ((ji89) : Int).toNat), 0)) else (none)) else (none)) = some (r1, r2) := by first | (rw [hji89] at H; exact H) | (simp only [hji89] at H ⊢; exact H)
                        have hji89_ : (if x7_1 < 0 then 0 else x7_1) = ji89 := hji89
                        by_cases c90 : 0 ≤ (ji89)
                        · rw [if_pos c90] at H
                          have c90b0 := eq_true c90
                          have c90b1 : decide (0 ≤ (ji89)) = true := decide_eq_true c90
                          clear c90
                          by_cases c91 : (ji89) ≤ (x11_2.length : Int)
                          · rw [if_pos c91] at H
                            have c91b0 := eq_true c91
                            have c91b1 : decide ((ji89) ≤ (x11_2.length : Int)) = true := decide_eq_true c91
                            clear c91
                            obtain ⟨y272, hy272⟩ : ∃ y_ : List Int, y_ = (x11_2.take ((ji89) : Int).toNat) := ⟨_, rfl⟩
                            replace H : (some (strOfNums y272, 0)) = some (r1, r2) := by first | (rw [hy272]; with_reducible exact H) | (have H2_ := (Option.bind_some _ _).symm.trans H; rw [hy272]; with_reducible exact H2_) | (have H2_ := (Option.bind_some _ _).symm.trans H; with_reducible exact H2_) | with_reducible exact H | (rw [hy272]; exact H) | exact H
                            have Ny272 := Aside0.mk hy272
                            clear hy272
                            simp only [Option.some.injEq, Prod.mk.injEq] at H
                            obtain ⟨rfl, rfl⟩ := H
                            obtain ⟨Ao93, co93, eo93⟩ := Kd.R_slice HO_11.out
                            subst eo93
                            have q92 : ((ji89) : Int) ≤ ((x11_2.length : Int) : Int) := of_decide_eq_true (by first | (with_reducible assumption) | assumption)
                            obtain ⟨i092, hi092, _, hsz92, _⟩ := info_parts info5
                            have hroom92 : x11_2.length ≤ co93 := (Kd.R_reads' HO_11.out).2.1
                            have hC92 : Kd.C (Kd.int .u8) _ Ao93 x11_2.length x11_2 := (Kd.R_reads' HO_11.out).2.2
                            have hcut92 := cut_to (P := Try.prog) 37 5 .i64 Try.underlying37 hi092 Ao93 x11_2.length co93 (ji89) (of_decide_eq_true (by first | (with_reducible assumption) | assumption)) q92 hroom92
                            have hr92 := Kd.C_take (m := ((ji89) : Int).toNat) hC92 (by omega)
                            have hy92 : y272.length = ((ji89) : Int).toNat := (by rw [Ny272.out, List.length_take]; omega)
                            rw [← Ny272.out] at hr92
                            rw [← hy92] at hcut92
                            have HR275 := Aside0.mk hr92
                            have HC275 := Aside0.mk (show y272.length ≤ co93 from by omega)
                            clear hr92 hC92 hroom92 hi092 hsz92
                            have KY92 := Aside0.mk hy92
                            clear hy92
                            have KL92 := Aside0.mk (show ((ji89) : Int).toNat ≤ x11_2.length from by omega)
                            replace q92 := eq_true q92
                            have hcv94 := Kd.C_string (P := Try.prog) (A := Ao93) (c := co93) Try.underlying37 Try.underlying5 Try.underlying9 (by repeat (first | (with_reducible exact HR275.out) | (with_reducible refine Kd.C_alloc ?_ _) | (with_reducible refine Kd.C_drewN ?_ _) | (with_reducible refine Kd.C_drew ?_) | exact HR275.out))
                            obtain rfl : ji36 = ji89 := hji36.symm.trans hji89
                            go_wp2
                            go_ret2
                            exact ⟨by first | rfl | (simp [errW_none, errW_some] <;> rfl) | (simp only [← hji36, ← hji38, ← hji41, ← hji89]; first | rfl | (simp [errW_none, errW_some] <;> rfl)) | (simp [*, errW_none, errW_some] <;> rfl), by repeat (first | (with_reducible first | exact HB.out | apply below_alloc | apply pw_below_drewN | apply below_drew1) | exact HB.out)⟩
                          · rw [if_neg c91] at H
                            exact absurd H (by simp)
                        · rw [if_neg c90] at H
                          exact absurd H (by simp)
                · rw [if_neg c40] at H
                  exact absurd H (by simp)
              · rw [if_neg c39] at H
                exact absurd H (by simp)
      · rw [if_neg c6] at H
        exact absurd H (by simp)
    · rw [if_neg c5] at H
      exact absurd H (by simp)
  · replace c4 := Bool.eq_false_iff.mpr c4
    subst c4
    have H1 : (some ((⟨#[]⟩ : ByteArray), 1)) = some (r1, r2) := by rw [if_neg (show ¬ (false = true) by decide)] at H; exact H
    clear H
    have H := H1
    clear H1
    simp only [Option.some.injEq, Prod.mk.injEq] at H
    obtain ⟨rfl, rfl⟩ := H
    go_enter Try.func14, Try.ntmps14
    go_wp2_with (first | ((with_reducible refine gate_callee (f := 33) rfl ?_); refine goesL_ (some 22) rfl rfl Try.func33 (by kernel_rfl) rfl #[.int .i64 a1, .int .i64 (l0.length : Int)] rfl (by (try simp only [List.map_toArray, List.map_cons, List.map_nil]); first | done | rfl | (simp only [List.length_drop, List.length_take]; rfl)) ?_; (with_reducible refine (piece_right.calls a1 (l0.length : Int) false _ A3.out).mono ?_); rintro e w' ⟨rfl, ⟨nd, rfl⟩⟩; refine ⟨_, rfl, ?_⟩))
    go_ret2
    exact ⟨by first | rfl | (simp [errW_none, errW_some] <;> rfl) | (simp [*, errW_none, errW_some] <;> rfl), by repeat (first | (with_reducible first | exact HB.out | apply below_alloc | apply pw_below_drewN | apply below_drew1) | exact HB.out)⟩

end Go.Proofs.Ytjbiiciippclcaa.PTopPieces
