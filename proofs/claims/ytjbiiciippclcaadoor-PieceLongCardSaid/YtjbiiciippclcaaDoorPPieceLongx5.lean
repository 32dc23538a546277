/- What is proved here: Go functions of the program come to what the Lean functions beside them tell. Conditions: those that each theorem names. (Written by wip/printx.py of this session, after the guide print.sh.) -/
import Derived.Test.YtjbiiciippclcaaDoorPPieceLongx0
import Derived.Test.YtjbiiciippclcaaDoorPPieceLongx3
import Derived.Test.YtjbiiciippclcaaDoorPPieceLongx4
namespace Go.Proofs.YtjbiiciippclcaaDoor.PPieceLong
open Go.RowKit Go.Proofs.YtjbiiciippclcaaDoorW.PrintWords Go.Proofs.YtjbiiciippclcaaDoorW.PrintLast Go.Proofs.YtjbiiciippclcaaDoorW.PrintMore
attribute [local go_sem] max2_int min2_int max_two min_two max_three min_three max_four min_four   -- for this text's walks alone
set_option linter.unusedVariables false
set_option linter.unusedSimpArgs false

/-! ### wholekeep_PieceLong: function 3 -/
mutual
def wholekeep_PieceLong.j0 : Nat → ByteArray → Int → Int → List ByteArray → Int → Bool → Option (Bool)
  | 0, _, _, _, _, _, _ => none
  | k + 1, x0, x1, x2, x7, x8, x27 => if x27 = true then (if x8 = 0 then (some false) else (some ((x7.length : Int) == 0))) else (if x1 = 0 then (none) else (wholekeep_PieceLong.l0 k x0 x1 x2 x7 (wrap64 (Int.tdiv (wrap64 ((wrap64 ((x0.size : Int) + x1)) - 1)) x1)) (⟨#[]⟩ : ByteArray) x7 (x7.length : Int) 0))
def wholekeep_PieceLong.l0 : Nat → ByteArray → Int → Int → List ByteArray → Int → ByteArray → List ByteArray → Int → Int → Option (Bool)
  | 0, _, _, _, _, _, _, _, _, _ => none
  | k + 1, x0, x1, x2, x7, x9, x10, x42, x43, x44 => if x44 < x43 then (if 0 ≤ x44 then (if x44 < (x42.length : Int) then (if ((rdOf ByteArray.empty x42 x44).size : Int) = (wrap64 (x9 + 5)) then (if 0 < ((rdOf ByteArray.empty x42 x44).size : Int) then (wholekeep_PieceLong.j2 k x0 x1 x2 x7 x9 x10 x44 (rdOf ByteArray.empty x42 x44) x42 x43 x44 ((wrap64 (bt (rdOf ByteArray.empty x42 x44) 0)) != (x0.size : Int))) else (none)) else (wholekeep_PieceLong.j2 k x0 x1 x2 x7 x9 x10 x44 (rdOf ByteArray.empty x42 x44) x42 x43 x44 true)) else (none)) else (none)) else (if (x7.length : Int) = x2 then ((strings_HasPrefix.f x10 x0).bind fun t177 => (if t177 = true then (if 0 ≤ (x0.size : Int) then (if (x0.size : Int) ≤ (x10.size : Int) then ((strings_Trim.f k (x10.extract ((x0.size : Int) : Int).toNat x10.size) (⟨#[0]⟩ : ByteArray)).bind fun t178 => (some (t178.toList == ([] : List UInt8)))) else (none)) else (none)) else (some false))) else (some false))
def wholekeep_PieceLong.j2 : Nat → ByteArray → Int → Int → List ByteArray → Int → ByteArray → Int → ByteArray → List ByteArray → Int → Int → Bool → Option (Bool)
  | 0, _, _, _, _, _, _, _, _, _, _, _, _ => none
  | k + 1, x0, x1, x2, x7, x9, x10, x11, x12, x42, x43, x44, x61 => if x61 = true then (some false) else (if x11 < x1 then (if 1 ≤ (wrap64 (1 + x9)) then (if (wrap64 (1 + x9)) ≤ (x12.size : Int) then (if x10.size + (x12.extract 1 ((wrap64 (1 + x9)) : Int).toNat).size ≤ 9223372036854775807 then (wholekeep_PieceLong.l0 k x0 x1 x2 x7 x9 (x10 ++ (x12.extract 1 ((wrap64 (1 + x9)) : Int).toNat)) x42 x43 (wrap64 (x44 + 1))) else (none)) else (none)) else (none)) else (wholekeep_PieceLong.l0 k x0 x1 x2 x7 x9 x10 x42 x43 (wrap64 (x44 + 1))))
end
def wholekeep_PieceLong.f (k : Nat) (a0 : ByteArray) (a1 : Int) (a2 : Int) : Option (Bool) := (wholekeep_pieces.f k).bind fun t172 => (if t172 = true then ((piece_Split.f k a0 a1 a2).bind fun bt173 => (if bt173.2 = 0 then (wholekeep_PieceLong.j0 k a0 a1 a2 bt173.1 bt173.2 (decide (a1 < 1))) else (wholekeep_PieceLong.j0 k a0 a1 a2 bt173.1 bt173.2 true))) else (some false))
theorem wholekeep_PieceLong.mono_l : ∀ k, (∀ y0 y1 y2 y3 y4 y5, LeO (wholekeep_PieceLong.j0 k y0 y1 y2 y3 y4 y5) (wholekeep_PieceLong.j0 (k + 1) y0 y1 y2 y3 y4 y5)) ∧ (∀ y0 y1 y2 y3 y4 y5 y6 y7 y8, LeO (wholekeep_PieceLong.l0 k y0 y1 y2 y3 y4 y5 y6 y7 y8) (wholekeep_PieceLong.l0 (k + 1) y0 y1 y2 y3 y4 y5 y6 y7 y8)) ∧ (∀ y0 y1 y2 y3 y4 y5 y6 y7 y8 y9 y10 y11, LeO (wholekeep_PieceLong.j2 k y0 y1 y2 y3 y4 y5 y6 y7 y8 y9 y10 y11) (wholekeep_PieceLong.j2 (k + 1) y0 y1 y2 y3 y4 y5 y6 y7 y8 y9 y10 y11))
  | 0 => ⟨fun _ _ _ _ _ _ r h => by simp [wholekeep_PieceLong.j0] at h, fun _ _ _ _ _ _ _ _ _ r h => by simp [wholekeep_PieceLong.l0] at h, fun _ _ _ _ _ _ _ _ _ _ _ _ r h => by simp [wholekeep_PieceLong.j2] at h⟩
  | k + 1 => by
    obtain ⟨ih0, ih1, ih2⟩ := wholekeep_PieceLong.mono_l k
    refine ⟨?_, ?_, ?_⟩
    · intro y0 y1 y2 y3 y4 y5
      unfold wholekeep_PieceLong.j0
      repeat' first
      | (with_reducible exact ih0 _ _ _ _ _ _)
      | (with_reducible exact ih1 _ _ _ _ _ _ _ _ _)
      | (with_reducible exact ih2 _ _ _ _ _ _ _ _ _ _ _ _)
      | (with_reducible exact piece_Split.mono _ _ _ _)
      | (with_reducible exact strings_Trim.mono _ _ _)
      | (with_reducible exact wholekeep_pieces.mono _)
      | (with_reducible exact LeO.refl _)
      | (with_reducible exact LeO.none _)
      | (with_reducible refine LeO.ite ?_ ?_)
      | (with_reducible refine LeO.bind ?_ (fun _ => ?_))
      | exact ih0 _ _ _ _ _ _
      | exact ih1 _ _ _ _ _ _ _ _ _
      | exact ih2 _ _ _ _ _ _ _ _ _ _ _ _
      | exact piece_Split.mono _ _ _ _
      | exact strings_Trim.mono _ _ _
      | exact wholekeep_pieces.mono _
      | exact LeO.none _
      | refine LeO.ite ?_ ?_
      | refine LeO.bind ?_ (fun _ => ?_)
    · intro y0 y1 y2 y3 y4 y5 y6 y7 y8
      unfold wholekeep_PieceLong.l0
      repeat' first
      | (with_reducible exact ih0 _ _ _ _ _ _)
      | (with_reducible exact ih1 _ _ _ _ _ _ _ _ _)
      | (with_reducible exact ih2 _ _ _ _ _ _ _ _ _ _ _ _)
      | (with_reducible exact piece_Split.mono _ _ _ _)
      | (with_reducible exact strings_Trim.mono _ _ _)
      | (with_reducible exact wholekeep_pieces.mono _)
      | (with_reducible exact LeO.refl _)
      | (with_reducible exact LeO.none _)
      | (with_reducible refine LeO.ite ?_ ?_)
      | (with_reducible refine LeO.bind ?_ (fun _ => ?_))
      | exact ih0 _ _ _ _ _ _
      | exact ih1 _ _ _ _ _ _ _ _ _
      | exact ih2 _ _ _ _ _ _ _ _ _ _ _ _
      | exact piece_Split.mono _ _ _ _
      | exact strings_Trim.mono _ _ _
      | exact wholekeep_pieces.mono _
      | exact LeO.none _
      | refine LeO.ite ?_ ?_
      | refine LeO.bind ?_ (fun _ => ?_)
    · intro y0 y1 y2 y3 y4 y5 y6 y7 y8 y9 y10 y11
      unfold wholekeep_PieceLong.j2
      repeat' first
      | (with_reducible exact ih0 _ _ _ _ _ _)
      | (with_reducible exact ih1 _ _ _ _ _ _ _ _ _)
      | (with_reducible exact ih2 _ _ _ _ _ _ _ _ _ _ _ _)
      | (with_reducible exact piece_Split.mono _ _ _ _)
      | (with_reducible exact strings_Trim.mono _ _ _)
      | (with_reducible exact wholekeep_pieces.mono _)
      | (with_reducible exact LeO.refl _)
      | (with_reducible exact LeO.none _)
      | (with_reducible refine LeO.ite ?_ ?_)
      | (with_reducible refine LeO.bind ?_ (fun _ => ?_))
      | exact ih0 _ _ _ _ _ _
      | exact ih1 _ _ _ _ _ _ _ _ _
      | exact ih2 _ _ _ _ _ _ _ _ _ _ _ _
      | exact piece_Split.mono _ _ _ _
      | exact strings_Trim.mono _ _ _
      | exact wholekeep_pieces.mono _
      | exact LeO.none _
      | refine LeO.ite ?_ ?_
      | refine LeO.bind ?_ (fun _ => ?_)
theorem wholekeep_PieceLong.mono : ∀ a0 a1 a2 k, LeO (wholekeep_PieceLong.f k a0 a1 a2) (wholekeep_PieceLong.f (k + 1) a0 a1 a2) := by
  intro a0 a1 a2 k
  obtain ⟨ih0, ih1, ih2⟩ := wholekeep_PieceLong.mono_l k
  unfold wholekeep_PieceLong.f
  repeat' first
      | (with_reducible exact ih0 _ _ _ _ _ _)
      | (with_reducible exact ih1 _ _ _ _ _ _ _ _ _)
      | (with_reducible exact ih2 _ _ _ _ _ _ _ _ _ _ _ _)
      | (with_reducible exact piece_Split.mono _ _ _ _)
      | (with_reducible exact strings_Trim.mono _ _ _)
      | (with_reducible exact wholekeep_pieces.mono _)
      | (with_reducible exact LeO.refl _)
      | (with_reducible exact LeO.none _)
      | (with_reducible refine LeO.ite ?_ ?_)
      | (with_reducible refine LeO.bind ?_ (fun _ => ?_))
      | exact ih0 _ _ _ _ _ _
      | exact ih1 _ _ _ _ _ _ _ _ _
      | exact ih2 _ _ _ _ _ _ _ _ _ _ _ _
      | exact piece_Split.mono _ _ _ _
      | exact strings_Trim.mono _ _ _
      | exact wholekeep_pieces.mono _
      | exact LeO.none _
      | refine LeO.ite ?_ ?_
      | refine LeO.bind ?_ (fun _ => ?_)
set_option maxHeartbeats 8000000 in
set_option maxRecDepth 100000 in
theorem wholekeep_PieceLong.calls (k : Nat) (a0 : ByteArray) (a1 : Int) (a2 : Int) (r : Bool) (w : World) (h : wholekeep_PieceLong.f k a0 a1 a2 = some r) :
    Calls Tryd.prog 3 #[.string a0, .int .i64 a1, .int .i64 a2] w fun e w' => e = .returned (.bool r) ∧ Below w.heap.size w w' := by
  have HB := Aside0.mk (Below.refl w.heap.size w)
  have H : ((wholekeep_pieces.f k).bind fun t172 => (if t172 = true then ((piece_Split.f k a0 a1 a2).bind fun bt173 => (if bt173.2 = 0 then (wholekeep_PieceLong.j0 k a0 a1 a2 bt173.1 bt173.2 (decide (a1 < 1))) else (wholekeep_PieceLong.j0 k a0 a1 a2 bt173.1 bt173.2 true))) else (some false))) = some r := h
  clear h
  replace H := Option.bind_eq_some_iff.mp H
  obtain ⟨t172, A40, H⟩ := H
  (try simp only [Int.toNat_natCast] at A40)
  replace H : (if t172 = true then ((piece_Split.f k a0 a1 a2).bind fun bt173 => (if bt173.2 = 0 then (wholekeep_PieceLong.j0 k a0 a1 a2 bt173.1 bt173.2 (decide (a1 < 1))) else (wholekeep_PieceLong.j0 k a0 a1 a2 bt173.1 bt173.2 true))) else (some false)) = some r := H
  have A4 := Aside0.mk A40
  clear A40
  by_cases c5 : t172 = true
  · subst c5
    have H1 : ((piece_Split.f k a0 a1 a2).bind fun bt173 => (if bt173.2 = 0 then (wholekeep_PieceLong.j0 k a0 a1 a2 bt173.1 bt173.2 (decide (a1 < 1))) else (wholekeep_PieceLong.j0 k a0 a1 a2 bt173.1 bt173.2 true))) = some r := by rw [if_pos rfl] at H; exact H
    clear H
    have H := H1
    clear H1
    replace H := Option.bind_eq_some_iff.mp H
    obtain ⟨⟨t173, t174⟩, A60, H⟩ := H
    replace H : (if t174 = 0 then (wholekeep_PieceLong.j0 k a0 a1 a2 t173 t174 (decide (a1 < 1))) else (wholekeep_PieceLong.j0 k a0 a1 a2 t173 t174 true)) = some r := H
    have A6 := Aside0.mk A60
    clear A60
    have HC7 := Aside0.mk H
    clear H
    go_enter Tryd.func3, Tryd.ntmps3
    go_upto_region 4 with (first | ((with_reducible refine gate_callee (f := 4) rfl ?_); refine goesL_ (some 13) rfl rfl Tryd.func4 (by kernel_rfl) rfl #[] rfl (by (try simp only [List.map_toArray, List.map_cons, List.map_nil]); first | done | rfl | (simp only [List.length_drop, List.length_take]; rfl)) ?_; (with_reducible refine (wholekeep_pieces.calls k  true _ A4.out).mono ?_); rintro e w8 ⟨rfl, hb⟩; refine ⟨_, rfl, ?_⟩; have n0_ := Aside0.mk (below_step (by repeat (first | (with_reducible first | exact HB.out | apply below_alloc | apply pw_below_drewN | apply below_drew1) | exact HB.out)) hb); clear HB; have HB := n0_; clear n0_; (try clear hb); (try clear hb2); (try clear hk); (try clear hi)) | ((with_reducible refine gate_callee (f := 5) rfl ?_); refine goesL_ (some 19) rfl rfl Tryd.func5 (by kernel_rfl) rfl #[.string a0, .int .i64 a1, .int .i64 a2] rfl (by (try simp only [List.map_toArray, List.map_cons, List.map_nil]); first | done | rfl | (simp only [List.length_drop, List.length_take]; rfl)) ?_; (with_reducible refine (piece_Split.calls k a0 a1 a2 t173 t174 _ A6.out).mono ?_); rintro e w9 ⟨v175, rfl, ho0, hb⟩; refine ⟨_, rfl, ?_⟩; have n0_ := Aside0.mk (Kd.R_lower ho0 (below_size (by repeat (first | (with_reducible first | exact HB.out | apply below_alloc | apply pw_below_drewN | apply below_drew1) | exact HB.out)))); have n1_ := Aside0.mk (below_step (by repeat (first | (with_reducible first | exact HB.out | apply below_alloc | apply pw_below_drewN | apply below_drew1) | exact HB.out)) hb); clear HB; have HO176 := n0_; have HB := n1_; clear n0_ n1_; (try clear hb); (try clear hb2); (try clear hk); (try clear hi); (try clear ho0)))
    (try simp only [Act.put, List.setIfInBounds_toArray, List.set_cons_zero, List.set_cons_succ])
    go_cut [27] (fun v27 wc => ∃ (kq : Nat) (x27_6 : Bool), v27 = .bool x27_6 ∧ Aside0 (wholekeep_PieceLong.j0 kq a0 a1 a2 t173 t174 x27_6 = some r) ∧ Aside0 (kq ≤ k) ∧ Aside0 (Kd.R Kd.string 9 wc w.heap.size (fun _ => True) v175 t173) ∧ Aside0 (Below w.heap.size w wc))
    case first =>
      have H := HC7.out
      clear HC7
      by_cases c10 : t174 = 0
      · rw [if_pos c10] at H
        have c10b0 : (t174 == 0) = true := beq_iff_eq.mpr c10
        have c10b1 : (t174 != 0) = false := bne_eq_false_iff_eq.mpr c10
        clear c10
        (first | rw [c10b0] | (simp only [i64_w, i32_w]; rw [c10b0]) | skip)
        have H' := Aside0.mk H
        clear H
        go_wp2
        go_meet
        case rel => exact ⟨_, (decide (a1 < 1)), (by first | rfl | (simp; done) | (simp [*]; done)), H', ⟨by first | omega | exact Nat.le_refl _⟩, ⟨by (with_reducible repeat (first | apply Kd.R_alloc | apply Kd.R_drewN | apply Kd.R_drew)); exact HO176.out⟩, ⟨by repeat (first | (with_reducible first | exact HB.out | apply below_alloc | apply pw_below_drewN | apply below_drew1) | exact HB.out)⟩⟩
      · rw [if_neg c10] at H
        have c10b0 : (t174 == 0) = false := beq_eq_false_iff_ne.mpr c10
        have c10b1 : (t174 != 0) = true := bne_iff_ne.mpr c10
        (first | rw [c10b0] | (simp only [i64_w, i32_w]; rw [c10b0]) | skip)
        have H' := Aside0.mk H
        clear H
        go_wp2
        go_meet
        case rel => exact ⟨_, (true), (by first | rfl | (simp; done) | (simp [*]; done)), H', ⟨by first | omega | exact Nat.le_refl _⟩, ⟨by (with_reducible repeat (first | apply Kd.R_alloc | apply Kd.R_drewN | apply Kd.R_drew)); exact HO176.out⟩, ⟨by repeat (first | (with_reducible first | exact HB.out | apply below_alloc | apply pw_below_drewN | apply below_drew1) | exact HB.out)⟩⟩
    case rest =>
      clear HC7
      try clear c1
      try clear p2
      try clear c3
      try clear c4
      try clear c5
      try clear c10
      try clear c10b0
      try clear c10b1
      obtain ⟨kq, x27_6, rfl, HA, HJ6, HO_7, HB⟩ := hcut
      cases kq with
      | zero => exact absurd HA.out (by simp [wholekeep_PieceLong.j0])
      | succ kj6 =>
        have H := HA.out
        clear HA
        simp only [wholekeep_PieceLong.j0] at H
        by_cases c11 : x27_6 = true
        · subst c11
          have H1 : (if t174 = 0 then (some false) else (some ((t173.length : Int) == 0))) = some r := by rw [if_pos rfl] at H; exact H
          clear H
          have H := H1
          clear H1
          by_cases c12 : t174 = 0
          · rw [if_pos c12] at H
            have c12b0 : (t174 == 0) = true := beq_iff_eq.mpr c12
            have c12b1 : (t174 != 0) = false := bne_eq_false_iff_eq.mpr c12
            clear c12
            obtain rfl := Option.some.inj H
            go_wp2
            go_ret
            exact ⟨by first | rfl | (simp [errW_none, errW_some] <;> rfl) | (simp [*, errW_none, errW_some] <;> rfl), by repeat (first | (with_reducible first | exact HB.out | apply below_alloc | apply pw_below_drewN | apply below_drew1) | exact HB.out)⟩
          · rw [if_neg c12] at H
            have c12b0 : (t174 == 0) = false := beq_eq_false_iff_ne.mpr c12
            have c12b1 : (t174 != 0) = true := bne_iff_ne.mpr c12
            obtain rfl := Option.some.inj H
            obtain ⟨Ao13, co13, eo13⟩ := Kd.R_slice HO_7.out
            subst eo13
            go_wp2
            go_ret
            exact ⟨by first | rfl | (simp [errW_none, errW_some] <;> rfl) | (simp [*, errW_none, errW_some] <;> rfl), by repeat (first | (with_reducible first | exact HB.out | apply below_alloc | apply pw_below_drewN | apply below_drew1) | exact HB.out)⟩
        · replace c11 := Bool.eq_false_iff.mpr c11
          subst c11
          have H1 : (if a1 = 0 then (none) else (wholekeep_PieceLong.l0 kj6 a0 a1 a2 t173 (wrap64 (Int.tdiv (wrap64 ((wrap64 ((a0.size : Int) + a1)) - 1)) a1)) (⟨#[]⟩ : ByteArray) t173 (t173.length : Int) 0)) = some r := by rw [if_neg (show ¬ (false = true) by decide)] at H; exact H
          clear H
          have H := H1
          clear H1
          by_cases c14 : a1 = 0
          · rw [if_pos c14] at H
            exact absurd H (by simp)
          · rw [if_neg c14] at H
            have c14b0 : (a1 == 0) = false := beq_eq_false_iff_ne.mpr c14
            have c14b1 : (a1 != 0) = true := bne_iff_ne.mpr c14
            have H' := Aside0.mk H
            clear H
            obtain ⟨Ao15, co15, eo15⟩ := Kd.R_slice HO_7.out
            subst eo15
            go_wp2
            go_loopg [10, 44] kj6 (fun kq v10 v44 w' => ∃ (x10_2 : ByteArray) (x44_2 : Int), v10 = .string x10_2 ∧ v44 = .int .i64 x44_2 ∧ Aside0 (wholekeep_PieceLong.l0 kq a0 a1 a2 t173 (wrap64 (Int.tdiv (wrap64 ((wrap64 ((a0.size : Int) + a1)) - 1)) a1)) x10_2 t173 (t173.length : Int) x44_2 = some r) ∧ Aside0 (kq ≤ kj6) ∧ Aside0 (Kd.R Kd.string 9 w' w.heap.size (fun _ => True) (.slice Ao15 t173.length co15) t173) ∧ Aside0 (Kd.R Kd.string 9 w' w.heap.size (fun _ => True) (.slice Ao15 t173.length co15) t173) ∧ Aside0 (Below w.heap.size w w'))
            case atStart => exact ⟨((⟨#[]⟩ : ByteArray)), (0), (by first | rfl | (simp; done) | (simp [*]; done)), (by first | rfl | (simp; done) | (simp [*]; done)), H', ⟨Nat.le_refl _⟩, ⟨by (with_reducible repeat (first | apply Kd.R_alloc | apply Kd.R_drewN | apply Kd.R_drew)); exact HO_7.out⟩, ⟨by (with_reducible repeat (first | apply Kd.R_alloc | apply Kd.R_drewN | apply Kd.R_drew)); exact HO_7.out⟩, ⟨by repeat (first | (with_reducible first | exact HB.out | apply below_alloc | apply pw_below_drewN | apply below_drew1) | exact HB.out)⟩⟩
            case round =>
              clear H'
              try clear c1
              try clear p2
              try clear c3
              try clear c4
              try clear c5
              try clear p6
              try clear c10
              try clear c10b0
              try clear c10b1
              try clear c11
              try clear c12
              try clear c12b0
              try clear c12b1
              try clear c14
              try clear c14b0
              try clear c14b1
              try clear p2
              obtain ⟨x10_2, x44_2, rfl, rfl, HA, HK2, HO_7, HO_42, HB⟩ := hrel
              cases gk with
              | zero => exact absurd HA.out (by simp [wholekeep_PieceLong.l0])
              | succ k2 =>
                have H := HA.out
                clear HA
                simp only [wholekeep_PieceLong.l0] at H
                by_cases c16 : x44_2 < (t173.length : Int)
                · rw [if_pos c16] at H
                  have c16b0 : decide (x44_2 < (t173.length : Int)) = true := decide_eq_true c16
                  clear c16
                  by_cases c17 : 0 ≤ x44_2
                  · rw [if_pos c17] at H
                    have c17b0 : decide (0 ≤ x44_2) = true := decide_eq_true c17
                    clear c17
                    by_cases c18 : x44_2 < (t173.length : Int)
                    · rw [if_pos c18] at H
                      have c18b0 : decide (x44_2 < (t173.length : Int)) = true := decide_eq_true c18
                      clear c18
                      have HC19 := Aside0.mk H
                      clear H
                      have p179 : 0 ≤ (x44_2 : Int) := of_decide_eq_true (by first | (with_reducible assumption) | assumption)
                      have q179 : x44_2 < (t173.length : Int) := of_decide_eq_true (by first | (with_reducible assumption) | assumption)
                      obtain ⟨ad179, e179, hx179_0⟩ := Kd.at_string (Kd.R_reads' HO_42.out).2.2 x44_2 p179 q179
                      cases e179
                      replace p179 := eq_true p179
                      replace q179 := eq_true q179
                      go_upto_region 11 with (fail)
                      go_cut [61] (fun v61 wc => ∃ (kq : Nat) (x61_18 : Bool), v61 = .bool x61_18 ∧ Aside0 (wholekeep_PieceLong.j2 kq a0 a1 a2 t173 (wrap64 (Int.tdiv (wrap64 ((wrap64 ((a0.size : Int) + a1)) - 1)) a1)) x10_2 x44_2 (rdOf ByteArray.empty t173 x44_2) t173 (t173.length : Int) x44_2 x61_18 = some r) ∧ Aside0 (kq ≤ k2) ∧ Aside0 (Kd.R Kd.string 9 wc w.heap.size (fun _ => True) (.slice (some ad179) t173.length co15) t173) ∧ Aside0 (Kd.R Kd.string 9 wc w.heap.size (fun _ => True) (.slice (some ad179) t173.length co15) t173) ∧ Aside0 (Below w.heap.size w wc))
                      case first =>
                        have H := HC19.out
                        clear HC19
                        by_cases c20 : ((rdOf ByteArray.empty t173 x44_2).size : Int) = (wrap64 ((wrap64 (Int.tdiv (wrap64 ((wrap64 ((a0.size : Int) + a1)) - 1)) a1)) + 5))
                        · rw [if_pos c20] at H
                          have c20b0 : (((rdOf ByteArray.empty t173 x44_2).size : Int) == (wrap64 ((wrap64 (Int.tdiv (wrap64 ((wrap64 ((a0.size : Int) + a1)) - 1)) a1)) + 5))) = true := beq_iff_eq.mpr c20
                          have c20b1 : (((rdOf ByteArray.empty t173 x44_2).size : Int) != (wrap64 ((wrap64 (Int.tdiv (wrap64 ((wrap64 ((a0.size : Int) + a1)) - 1)) a1)) + 5))) = false := bne_eq_false_iff_eq.mpr c20
                          clear c20
                          (first | rw [c20b0] | (simp only [i64_w, i32_w]; rw [c20b0]) | skip)
                          by_cases c21 : 0 < ((rdOf ByteArray.empty t173 x44_2).size : Int)
                          · rw [if_pos c21] at H
                            have c21b0 : decide (0 < ((rdOf ByteArray.empty t173 x44_2).size : Int)) = true := decide_eq_true c21
                            have c21b1 : decide (0 < (rdOf ByteArray.empty t173 x44_2).size) = true := decide_eq_true (by omega)
                            clear c21
                            have H' := Aside0.mk H
                            clear H
                            have p22 : 0 ≤ (0 : Int) := (by omega)
                            have q22 : 0 < (rdOf ByteArray.empty t173 x44_2).size := (by have : (0 : Int) < ((rdOf ByteArray.empty t173 x44_2).size : Int) := of_decide_eq_true (by first | (with_reducible assumption) | assumption); omega)
                            have hx22 : ∀ h : 0 < (rdOf ByteArray.empty t173 x44_2).size, (((rdOf ByteArray.empty t173 x44_2)[0]'h).toNat : Int) = bt (rdOf ByteArray.empty t173 x44_2) 0 := bt_at (rdOf ByteArray.empty t173 x44_2) 0
                            clear p22
                            have qi22 : (0 < ((rdOf ByteArray.empty t173 x44_2).size : Int)) = True := eq_true (of_decide_eq_true (by first | (with_reducible assumption) | assumption))
                            replace q22 := eq_true q22
                            go_wp2
                            go_meet
                            case rel => exact ⟨_, (((wrap64 (bt (rdOf ByteArray.empty t173 x44_2) 0)) != (a0.size : Int))), (by first | rfl | (simp; done) | (simp [*]; done)), H', ⟨by have := HJ6.out; have := HK2.out; first | omega | exact Nat.le_refl _⟩, ⟨by (with_reducible repeat (first | apply Kd.R_alloc | apply Kd.R_drewN | apply Kd.R_drew)); exact HO_7.out⟩, ⟨by (with_reducible repeat (first | apply Kd.R_alloc | apply Kd.R_drewN | apply Kd.R_drew)); exact HO_42.out⟩, ⟨by repeat (first | (with_reducible first | exact HB.out | apply below_alloc | apply pw_below_drewN | apply below_drew1) | exact HB.out)⟩⟩
                          · rw [if_neg c21] at H
                            exact absurd H (by simp)
                        · rw [if_neg c20] at H
                          have c20b0 : (((rdOf ByteArray.empty t173 x44_2).size : Int) == (wrap64 ((wrap64 (Int.tdiv (wrap64 ((wrap64 ((a0.size : Int) + a1)) - 1)) a1)) + 5))) = false := beq_eq_false_iff_ne.mpr c20
                          have c20b1 : (((rdOf ByteArray.empty t173 x44_2).size : Int) != (wrap64 ((wrap64 (Int.tdiv (wrap64 ((wrap64 ((a0.size : Int) + a1)) - 1)) a1)) + 5))) = true := bne_iff_ne.mpr c20
                          (first | rw [c20b0] | (simp only [i64_w, i32_w]; rw [c20b0]) | skip)
                          have H' := Aside0.mk H
                          clear H
                          go_wp2
                          go_meet
                          case rel => exact ⟨_, (true), (by first | rfl | (simp; done) | (simp [*]; done)), H', ⟨by have := HJ6.out; have := HK2.out; first | omega | exact Nat.le_refl _⟩, ⟨by (with_reducible repeat (first | apply Kd.R_alloc | apply Kd.R_drewN | apply Kd.R_drew)); exact HO_7.out⟩, ⟨by (with_reducible repeat (first | apply Kd.R_alloc | apply Kd.R_drewN | apply Kd.R_drew)); exact HO_42.out⟩, ⟨by repeat (first | (with_reducible first | exact HB.out | apply below_alloc | apply pw_below_drewN | apply below_drew1) | exact HB.out)⟩⟩
                      case rest =>
                        clear HC19
                        try clear c1
                        try clear p1
                        try clear q1
                        try clear hx1
                        try clear c2
                        try clear p2
                        try clear q2
                        try clear hx2
                        try clear qi2
                        try clear c3
                        try clear c4
                        try clear c5
                        try clear p6
                        try clear c10
                        try clear c10b0
                        try clear c10b1
                        try clear c11
                        try clear c12
                        try clear c12b0
                        try clear c12b1
                        try clear c14
                        try clear c14b0
                        try clear c14b1
                        try clear c16
                        try clear c16b0
                        try clear c17
                        try clear c17b0
                        try clear p17
                        try clear q17
                        try clear hx17
                        try clear c18
                        try clear c18b0
                        try clear c20
                        try clear c20b0
                        try clear c20b1
                        try clear c21
                        try clear c21b0
                        try clear c21b1
                        try clear p22
                        try clear q22
                        try clear hx22
                        try clear qi22
                        try clear hx179_0
                        try clear p179
                        try clear p2
                        try clear p22
                        try clear p6
                        try clear q179
                        try clear q22
                        obtain ⟨kq, x61_18, rfl, HA, HJ18, HO_7, HO_42, HB⟩ := hcut
                        cases kq with
                        | zero => exact absurd HA.out (by simp [wholekeep_PieceLong.j2])
                        | succ kj18 =>
                          have H := HA.out
                          clear HA
                          simp only [wholekeep_PieceLong.j2] at H
                          by_cases c23 : x61_18 = true
                          · subst c23
                            have H1 : (some false) = some r := by rw [if_pos rfl] at H; exact H
                            clear H
                            have H := H1
                            clear H1
                            obtain rfl := Option.some.inj H
                            go_wp2
                            go_ret
                            exact ⟨by first | rfl | (simp [errW_none, errW_some] <;> rfl) | (simp [*, errW_none, errW_some] <;> rfl), by repeat (first | (with_reducible first | exact HB.out | apply below_alloc | apply pw_below_drewN | apply below_drew1) | exact HB.out)⟩
                          · replace c23 := Bool.eq_false_iff.mpr c23
                            subst c23
                            have H1 : (if x44_2 < a1 then (if 1 ≤ (wrap64 (1 + (wrap64 (Int.tdiv (wrap64 ((wrap64 ((a0.size : Int) + a1)) - 1)) a1)))) then (if (wrap64 (1 + (wrap64 (Int.tdiv (wrap64 ((wrap64 ((a0.size : Int) + a1)) - 1)) a1)))) ≤ ((rdOf ByteArray.empty t173 x44_2).size : Int) then (if x10_2.size + ((rdOf ByteArray.empty t173 x44_2).extract 1 ((wrap64 (1 + (wrap64 (Int.tdiv (wrap64 ((wrap64 ((a0.size : Int) + a1)) - 1)) a1)))) : Int).toNat).size ≤ 9223372036854775807 then (wholekeep_PieceLong.l0 kj18 a0 a1 a2 t173 (wrap64 (Int.tdiv (wrap64 ((wrap64 ((a0.size : Int) + a1)) - 1)) a1)) (x10_2 ++ ((rdOf ByteArray.empty t173 x44_2).extract 1 ((wrap64 (1 + (wrap64 (Int.tdiv (wrap64 ((wrap64 ((a0.size : Int) + a1)) - 1)) a1)))) : Int).toNat)) t173 (t173.length : Int) (wrap64 (x44_2 + 1))) else (none)) else (none)) else (none)) else (wholekeep_PieceLong.l0 kj18 a0 a1 a2 t173 (wrap64 (Int.tdiv (wrap64 ((wrap64 ((a0.size : Int) + a1)) - 1)) a1)) x10_2 t173 (t173.length : Int) (wrap64 (x44_2 + 1)))) = some r := by rw [if_neg (show ¬ (false = true) by decide)] at H; exact H
                            clear H
                            have H := H1
                            clear H1
                            by_cases c24 : x44_2 < a1
                            · rw [if_pos c24] at H
                              have c24b0 : decide (x44_2 < a1) = true := decide_eq_true c24
                              clear c24
                              by_cases c25 : 1 ≤ (wrap64 (1 + (wrap64 (Int.tdiv (wrap64 ((wrap64 ((a0.size : Int) + a1)) - 1)) a1))))
                              · rw [if_pos c25] at H
                                have c25b0 := eq_true c25
                                have c25b1 : decide (1 ≤ (wrap64 (1 + (wrap64 (Int.tdiv (wrap64 ((wrap64 ((a0.size : Int) + a1)) - 1)) a1))))) = true := decide_eq_true c25
                                by_cases c26 : (wrap64 (1 + (wrap64 (Int.tdiv (wrap64 ((wrap64 ((a0.size : Int) + a1)) - 1)) a1)))) ≤ ((rdOf ByteArray.empty t173 x44_2).size : Int)
                                · rw [if_pos c26] at H
                                  have c26b0 := eq_true c26
                                  have c26b1 : decide ((wrap64 (1 + (wrap64 (Int.tdiv (wrap64 ((wrap64 ((a0.size : Int) + a1)) - 1)) a1)))) ≤ ((rdOf ByteArray.empty t173 x44_2).size : Int)) = true := decide_eq_true c26
                                  by_cases c27 : x10_2.size + ((rdOf ByteArray.empty t173 x44_2).extract 1 ((wrap64 (1 + (wrap64 (Int.tdiv (wrap64 ((wrap64 ((a0.size : Int) + a1)) - 1)) a1)))) : Int).toNat).size ≤ 9223372036854775807
                                  · rw [if_pos c27] at H
                                    have c27b0 := eq_true c27
                                    have c27b1 : decide (x10_2.size + ((rdOf ByteArray.empty t173 x44_2).extract 1 ((wrap64 (1 + (wrap64 (Int.tdiv (wrap64 ((wrap64 ((a0.size : Int) + a1)) - 1)) a1)))) : Int).toNat).size ≤ 9223372036854775807) = true := decide_eq_true c27
                                    try have c27b2 : (9223372036854775807 < x10_2.size + ((rdOf ByteArray.empty t173 x44_2).extract 1 ((wrap64 (1 + (wrap64 (Int.tdiv (wrap64 ((wrap64 ((a0.size : Int) + a1)) - 1)) a1)))) : Int).toNat).size) = False := eq_false (Nat.not_lt.2 c27)
                                    have H' := Aside0.mk H
                                    clear H
                                    go_wp2
                                    go_roundg kj18
                                    case measure => have := HJ6.out; have := HK2.out; have := HJ18.out; omega
                                    case rel => exact ⟨(x10_2 ++ ((rdOf ByteArray.empty t173 x44_2).extract 1 ((wrap64 (1 + (wrap64 (Int.tdiv (wrap64 ((wrap64 ((a0.size : Int) + a1)) - 1)) a1)))) : Int).toNat)), (wrap64 (x44_2 + 1)), (by first | rfl | (simp; done) | (simp [*]; done)), (by first | rfl | (simp; done) | (simp [*]; done)), H', ⟨by have := HJ6.out; have := HK2.out; have := HJ18.out; omega⟩, ⟨by (with_reducible repeat (first | apply Kd.R_alloc | apply Kd.R_drewN | apply Kd.R_drew)); exact HO_7.out⟩, ⟨by (with_reducible repeat (first | apply Kd.R_alloc | apply Kd.R_drewN | apply Kd.R_drew)); exact HO_42.out⟩, ⟨by repeat (first | (with_reducible first | exact HB.out | apply below_alloc | apply pw_below_drewN | apply below_drew1) | exact HB.out)⟩⟩
                                  · rw [if_neg c27] at H
                                    exact absurd H (by simp)
                                · rw [if_neg c26] at H
                                  exact absurd H (by simp)
                              · rw [if_neg c25] at H
                                exact absurd H (by simp)
                            · rw [if_neg c24] at H
                              have c24b0 : decide (x44_2 < a1) = false := decide_eq_false c24
                              clear c24
                              have H' := Aside0.mk H
                              clear H
                              go_wp2
                              go_roundg kj18
                              case measure => have := HJ6.out; have := HK2.out; have := HJ18.out; omega
                              case rel => exact ⟨(x10_2), (wrap64 (x44_2 + 1)), (by first | rfl | (simp; done) | (simp [*]; done)), (by first | rfl | (simp; done) | (simp [*]; done)), H', ⟨by have := HJ6.out; have := HK2.out; have := HJ18.out; omega⟩, ⟨by (with_reducible repeat (first | apply Kd.R_alloc | apply Kd.R_drewN | apply Kd.R_drew)); exact HO_7.out⟩, ⟨by (with_reducible repeat (first | apply Kd.R_alloc | apply Kd.R_drewN | apply Kd.R_drew)); exact HO_42.out⟩, ⟨by repeat (first | (with_reducible first | exact HB.out | apply below_alloc | apply pw_below_drewN | apply below_drew1) | exact HB.out)⟩⟩
                    · rw [if_neg c18] at H
                      exact absurd H (by simp)
                  · rw [if_neg c17] at H
                    exact absurd H (by simp)
                · rw [if_neg c16] at H
                  have c16b0 : decide (x44_2 < (t173.length : Int)) = false := decide_eq_false c16
                  clear c16
                  by_cases c28 : (t173.length : Int) = a2
                  · rw [if_pos c28] at H
                    have c28b0 : ((t173.length : Int) == a2) = true := beq_iff_eq.mpr c28
                    have c28b1 : ((t173.length : Int) != a2) = false := bne_eq_false_iff_eq.mpr c28
                    clear c28
                    replace H := Option.bind_eq_some_iff.mp H
                    obtain ⟨t177, A290, H⟩ := H
                    (try simp only [Int.toNat_natCast] at A290)
                    replace H : (if t177 = true then (if 0 ≤ (a0.size : Int) then (if (a0.size : Int) ≤ (x10_2.size : Int) then ((strings_Trim.f k2 (x10_2.extract ((a0.size : Int) : Int).toNat x10_2.size) (⟨#[0]⟩ : ByteArray)).bind fun t178 => (some (t178.toList == ([] : List UInt8)))) else (none)) else (none)) else (some false)) = some r := H
                    have A29 := Aside0.mk A290
                    clear A290
                    by_cases c30 : t177 = true
                    · subst c30
                      have H1 : (if 0 ≤ (a0.size : Int) then (if (a0.size : Int) ≤ (x10_2.size : Int) then ((strings_Trim.f k2 (x10_2.extract ((a0.size : Int) : Int).toNat x10_2.size) (⟨#[0]⟩ : ByteArray)).bind fun t178 => (some (t178.toList == ([] : List UInt8)))) else (none)) else (none)) = some r := by rw [if_pos rfl] at H; exact H
                      clear H
                      have H := H1
                      clear H1
                      by_cases c31 : 0 ≤ (a0.size : Int)
                      · rw [if_pos c31] at H
                        have c31b0 := eq_true c31
                        have c31b1 : decide (0 ≤ (a0.size : Int)) = true := decide_eq_true c31
                        clear c31
                        by_cases c32 : (a0.size : Int) ≤ (x10_2.size : Int)
                        · rw [if_pos c32] at H
                          have c32b0 := eq_true c32
                          have c32b1 : decide ((a0.size : Int) ≤ (x10_2.size : Int)) = true := decide_eq_true c32
                          clear c32
                          replace H := Option.bind_eq_some_iff.mp H
                          obtain ⟨t178, A330, H⟩ := H
                          (try simp only [Int.toNat_natCast] at A330)
                          replace H : (some (t178.toList == ([] : List UInt8))) = some r := H
                          have A33 := Aside0.mk A330
                          clear A330
                          obtain rfl := Option.some.inj H
                          go_wp2_with (first | (go_at_call 6; (with_reducible refine (strings_HasPrefix.calls x10_2 a0 true _ A29.out).mono ?_); rintro e w' ⟨rfl, ⟨nd, rfl⟩⟩) | (go_at_call 7; (with_reducible refine (strings_Trim.calls k2 (x10_2.extract a0.size x10_2.size) (⟨#[0]⟩ : ByteArray) t178 _ A33.out).mono ?_); rintro e w34 ⟨rfl, hb⟩; have n0_ := Aside0.mk (Kd.R_below (by (with_reducible repeat (first | apply Kd.R_alloc | apply Kd.R_drewN | apply Kd.R_drew)); exact HO_7.out) hb); have n1_ := Aside0.mk (Kd.R_below (by (with_reducible repeat (first | apply Kd.R_alloc | apply Kd.R_drewN | apply Kd.R_drew)); exact HO_42.out) hb); have n2_ := Aside0.mk (below_step (by repeat (first | (with_reducible first | exact HB.out | apply below_alloc | apply pw_below_drewN | apply below_drew1) | exact HB.out)) hb); clear HO_7; clear HO_42; clear HB; have HO_7 := n0_; have HO_42 := n1_; have HB := n2_; clear n0_ n1_ n2_; (try clear hb); (try clear hb2); (try clear hk); (try clear hi)))
                          go_ret
                          exact ⟨by first | rfl | (simp [errW_none, errW_some] <;> rfl) | (simp [*, errW_none, errW_some] <;> rfl), by repeat (first | (with_reducible first | exact HB.out | apply below_alloc | apply pw_below_drewN | apply below_drew1) | exact HB.out)⟩
                        · rw [if_neg c32] at H
                          exact absurd H (by simp)
                      · rw [if_neg c31] at H
                        exact absurd H (by simp)
                    · replace c30 := Bool.eq_false_iff.mpr c30
                      subst c30
                      have H1 : (some false) = some r := by rw [if_neg (show ¬ (false = true) by decide)] at H; exact H
                      clear H
                      have H := H1
                      clear H1
                      obtain rfl := Option.some.inj H
                      go_wp2_with (first | (go_at_call 6; (with_reducible refine (strings_HasPrefix.calls x10_2 a0 false _ A29.out).mono ?_); rintro e w' ⟨rfl, ⟨nd, rfl⟩⟩))
                      go_ret
                      exact ⟨by first | rfl | (simp [errW_none, errW_some] <;> rfl) | (simp [*, errW_none, errW_some] <;> rfl), by repeat (first | (with_reducible first | exact HB.out | apply below_alloc | apply pw_below_drewN | apply below_drew1) | exact HB.out)⟩
                  · rw [if_neg c28] at H
                    have c28b0 : ((t173.length : Int) == a2) = false := beq_eq_false_iff_ne.mpr c28
                    have c28b1 : ((t173.length : Int) != a2) = true := bne_iff_ne.mpr c28
                    obtain rfl := Option.some.inj H
                    go_wp2
                    go_ret
                    exact ⟨by first | rfl | (simp [errW_none, errW_some] <;> rfl) | (simp [*, errW_none, errW_some] <;> rfl), by repeat (first | (with_reducible first | exact HB.out | apply below_alloc | apply pw_below_drewN | apply below_drew1) | exact HB.out)⟩
  · replace c5 := Bool.eq_false_iff.mpr c5
    subst c5
    have H1 : (some false) = some r := by rw [if_neg (show ¬ (false = true) by decide)] at H; exact H
    clear H
    have H := H1
    clear H1
    obtain rfl := Option.some.inj H
    go_enter Tryd.func3, Tryd.ntmps3
    go_wp2_with (first | ((with_reducible refine gate_callee (f := 4) rfl ?_); refine goesL_ (some 13) rfl rfl Tryd.func4 (by kernel_rfl) rfl #[] rfl (by (try simp only [List.map_toArray, List.map_cons, List.map_nil]); first | done | rfl | (simp only [List.length_drop, List.length_take]; rfl)) ?_; (with_reducible refine (wholekeep_pieces.calls k  false _ A4.out).mono ?_); rintro e w35 ⟨rfl, hb⟩; refine ⟨_, rfl, ?_⟩; have n0_ := Aside0.mk (below_step (by repeat (first | (with_reducible first | exact HB.out | apply below_alloc | apply pw_below_drewN | apply below_drew1) | exact HB.out)) hb); clear HB; have HB := n0_; clear n0_; (try clear hb); (try clear hb2); (try clear hk); (try clear hi)))
    go_ret
    exact ⟨by first | rfl | (simp [errW_none, errW_some] <;> rfl) | (simp [*, errW_none, errW_some] <;> rfl), by repeat (first | (with_reducible first | exact HB.out | apply below_alloc | apply pw_below_drewN | apply below_drew1) | exact HB.out)⟩

/-- THE ONE PURE STATEMENT of wholekeep_PieceLong: yours. -/
def wholekeep_PieceLong.Pure : Prop := ∀ (a0 : ByteArray) (a1 : Int) (a2 : Int), a0.size ≤ 140737488351232 → (Lit.int .i64 a1).wf = true → (Lit.int .i64 a2).wf = true → ∃ k, wholekeep_PieceLong.f k a0 a1 a2 = some true
theorem wholekeep_PieceLong.walk (P : wholekeep_PieceLong.Pure) (a0 : ByteArray) (a1 : Int) (a2 : Int) (w : World) (w0 : a0.size ≤ 140737488351232) (w1 : (Lit.int .i64 a1).wf = true) (w2 : (Lit.int .i64 a2).wf = true) :
    Calls Tryd.prog 3 #[.string a0, .int .i64 a1, .int .i64 a2] w fun e w' => e = .returned (.bool true) ∧ Below w.heap.size w w' := by
  obtain ⟨k, h⟩ := P a0 a1 a2 w0 w1 w2
  refine (wholekeep_PieceLong.calls k a0 a1 a2 true w h).mono ?_
  rintro e w' ⟨rfl, hd⟩
  exact ⟨rfl, hd⟩

end Go.Proofs.YtjbiiciippclcaaDoor.PPieceLong
