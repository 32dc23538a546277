/- What is proved here: Go functions of the program come to what the Lean functions beside them tell. Conditions: those that each theorem names. (Written by wip/printx.py of this session, after the guide print.sh.) -/
import Derived.Test.YtonacfjhfkdgbaaPIrredManyx0
import Derived.Test.YtonacfjhfkdgbaaPIrredManyx2
import Derived.Test.YtonacfjhfkdgbaaPIrredManyx3
import Derived.Test.YtonacfjhfkdgbaaPIrredManyx6
namespace Go.Proofs.Ytonacfjhfkdgbaa.PIrredMany
open Go.RowKit Go.Proofs.YtonacfjhfkdgbaaW.PrintWords Go.Proofs.YtonacfjhfkdgbaaW.PrintLast Go.Proofs.YtonacfjhfkdgbaaW.PrintMore
attribute [local go_sem] max2_int min2_int max_two min_two max_three min_three max_four min_four   -- for this text's walks alone
set_option linter.unusedVariables false
set_option linter.unusedSimpArgs false

/-! ### wholekeep_IrredMany: function 5 -/
mutual
def wholekeep_IrredMany.j0 : Nat → Int → Int → Bool → Option (Bool)
  | 0, _, _, _ => none
  | k + 1, x0, x1, x28 => if x28 = true then (some false) else ((wholekeep_fieldOf.f k x0).bind fun t215 => ((wholekeep_Within.f x1 6).bind fun t216 => ((irred_Count.f k t215 (wrap64 (1 + t216))).bind fun bt217 => (if bt217.2 = 0 then (wholekeep_IrredMany.l0 k (wrap64 (1 + t216)) t215 0 1 1) else (some (bt217.2 == 2))))))
def wholekeep_IrredMany.l0 : Nat → Int → Int → Int → Int → Int → Option (Bool)
  | 0, _, _, _, _, _ => none
  | k + 1, x1, x7, x10, x11, x12 => if x12 ≤ x1 then (if x12 = 0 then (none) else (if (Int.tmod x1 x12) = 0 then ((irred_Count.f k x7 x12).bind fun bt219 => (if bt219.2 = 0 then (if bt219.1 < 1 then (some false) else (wholekeep_IrredMany.l0 k x1 x7 (wrap64 (x10 + (wrap64 (x12 * bt219.1)))) (wrap64 (x11 * x7)) (wrap64 (x12 + 1)))) else (some false))) else (wholekeep_IrredMany.l0 k x1 x7 x10 (wrap64 (x11 * x7)) (wrap64 (x12 + 1))))) else (some (x10 == x11))
end
def wholekeep_IrredMany.f (k : Nat) (a0 : Int) (a1 : Int) : Option (Bool) := (irred_Count.f k 2 3).bind fun bt212 => (if bt212.2 = 0 then (if bt212.1 = 2 then ((wholekeep_polys.f k).bind fun t214 => (wholekeep_IrredMany.j0 k a0 a1 (!t214))) else (wholekeep_IrredMany.j0 k a0 a1 true)) else (wholekeep_IrredMany.j0 k a0 a1 true))
theorem wholekeep_IrredMany.mono_l : ∀ k, (∀ y0 y1 y2, LeO (wholekeep_IrredMany.j0 k y0 y1 y2) (wholekeep_IrredMany.j0 (k + 1) y0 y1 y2)) ∧ (∀ y0 y1 y2 y3 y4, LeO (wholekeep_IrredMany.l0 k y0 y1 y2 y3 y4) (wholekeep_IrredMany.l0 (k + 1) y0 y1 y2 y3 y4))
  | 0 => ⟨fun _ _ _ r h => by simp [wholekeep_IrredMany.j0] at h, fun _ _ _ _ _ r h => by simp [wholekeep_IrredMany.l0] at h⟩
  | k + 1 => by
    obtain ⟨ih0, ih1⟩ := wholekeep_IrredMany.mono_l k
    refine ⟨?_, ?_⟩
    · intro y0 y1 y2
      unfold wholekeep_IrredMany.j0
      repeat' first
      | (with_reducible exact ih0 _ _ _)
      | (with_reducible exact ih1 _ _ _ _ _)
      | (with_reducible exact irred_Count.mono _ _ _)
      | (with_reducible exact wholekeep_fieldOf.mono _ _)
      | (with_reducible exact wholekeep_polys.mono _)
      | (with_reducible exact LeO.refl _)
      | (with_reducible exact LeO.none _)
      | (with_reducible refine LeO.ite ?_ ?_)
      | (with_reducible refine LeO.bind ?_ (fun _ => ?_))
      | exact ih0 _ _ _
      | exact ih1 _ _ _ _ _
      | exact irred_Count.mono _ _ _
      | exact wholekeep_fieldOf.mono _ _
      | exact wholekeep_polys.mono _
      | exact LeO.none _
      | refine LeO.ite ?_ ?_
      | refine LeO.bind ?_ (fun _ => ?_)
    · intro y0 y1 y2 y3 y4
      unfold wholekeep_IrredMany.l0
      repeat' first
      | (with_reducible exact ih0 _ _ _)
      | (with_reducible exact ih1 _ _ _ _ _)
      | (with_reducible exact irred_Count.mono _ _ _)
      | (with_reducible exact wholekeep_fieldOf.mono _ _)
      | (with_reducible exact wholekeep_polys.mono _)
      | (with_reducible exact LeO.refl _)
      | (with_reducible exact LeO.none _)
      | (with_reducible refine LeO.ite ?_ ?_)
      | (with_reducible refine LeO.bind ?_ (fun _ => ?_))
      | exact ih0 _ _ _
      | exact ih1 _ _ _ _ _
      | exact irred_Count.mono _ _ _
      | exact wholekeep_fieldOf.mono _ _
      | exact wholekeep_polys.mono _
      | exact LeO.none _
      | refine LeO.ite ?_ ?_
      | refine LeO.bind ?_ (fun _ => ?_)
theorem wholekeep_IrredMany.mono : ∀ a0 a1 k, LeO (wholekeep_IrredMany.f k a0 a1) (wholekeep_IrredMany.f (k + 1) a0 a1) := by
  intro a0 a1 k
  obtain ⟨ih0, ih1⟩ := wholekeep_IrredMany.mono_l k
  unfold wholekeep_IrredMany.f
  repeat' first
      | (with_reducible exact ih0 _ _ _)
      | (with_reducible exact ih1 _ _ _ _ _)
      | (with_reducible exact irred_Count.mono _ _ _)
      | (with_reducible exact wholekeep_fieldOf.mono _ _)
      | (with_reducible exact wholekeep_polys.mono _)
      | (with_reducible exact LeO.refl _)
      | (with_reducible exact LeO.none _)
      | (with_reducible refine LeO.ite ?_ ?_)
      | (with_reducible refine LeO.bind ?_ (fun _ => ?_))
      | exact ih0 _ _ _
      | exact ih1 _ _ _ _ _
      | exact irred_Count.mono _ _ _
      | exact wholekeep_fieldOf.mono _ _
      | exact wholekeep_polys.mono _
      | exact LeO.none _
      | refine LeO.ite ?_ ?_
      | refine LeO.bind ?_ (fun _ => ?_)
set_option maxHeartbeats 8000000 in
set_option maxRecDepth 100000 in
theorem wholekeep_IrredMany.calls (k : Nat) (a0 : Int) (a1 : Int) (r : Bool) (w : World) (h : wholekeep_IrredMany.f k a0 a1 = some r) :
    Calls Try.prog 5 #[.int .i64 a0, .int .i64 a1] w fun e w' => e = .returned (.bool r) ∧ Below w.heap.size w w' := by
  have HB := Aside0.mk (Below.refl w.heap.size w)
  have H : ((irred_Count.f k 2 3).bind fun bt212 => (if bt212.2 = 0 then (if bt212.1 = 2 then ((wholekeep_polys.f k).bind fun t214 => (wholekeep_IrredMany.j0 k a0 a1 (!t214))) else (wholekeep_IrredMany.j0 k a0 a1 true)) else (wholekeep_IrredMany.j0 k a0 a1 true))) = some r := h
  clear h
  replace H := Option.bind_eq_some_iff.mp H
  obtain ⟨⟨t212, t213⟩, A30, H⟩ := H
  replace H : (if t213 = 0 then (if t212 = 2 then ((wholekeep_polys.f k).bind fun t214 => (wholekeep_IrredMany.j0 k a0 a1 (!t214))) else (wholekeep_IrredMany.j0 k a0 a1 true)) else (wholekeep_IrredMany.j0 k a0 a1 true)) = some r := H
  have A3 := Aside0.mk A30
  clear A30
  have HC4 := Aside0.mk H
  clear H
  go_enter Try.func5, Try.ntmps5
  go_upto_region 2 with (first | ((with_reducible refine gate_callee (f := 19) rfl ?_); refine goesL_ (some 16) rfl rfl Try.func19 (by kernel_rfl) rfl #[.int .i64 2, .int .i64 3] rfl (by (try simp only [List.map_toArray, List.map_cons, List.map_nil]); first | done | rfl | (simp only [List.length_drop, List.length_take]; rfl)) ?_; (with_reducible refine (irred_Count.calls k 2 3 t212 t213 _ A3.out).mono ?_); rintro e w5 ⟨rfl, hb⟩; refine ⟨_, rfl, ?_⟩; have n0_ := Aside0.mk (below_step (by repeat (first | (with_reducible first | exact HB.out | apply below_alloc | apply pw_below_drewN | apply below_drew1) | exact HB.out)) hb); clear HB; have HB := n0_; clear n0_; (try clear hb); (try clear hb2); (try clear hk); (try clear hi)))
  (try simp only [Act.put, List.setIfInBounds_toArray, List.set_cons_zero, List.set_cons_succ])
  go_cut [28] (fun v28 wc => ∃ (kq : Nat) (x28_3 : Bool), v28 = .bool x28_3 ∧ Aside0 (wholekeep_IrredMany.j0 kq a0 a1 x28_3 = some r) ∧ Aside0 (kq ≤ k) ∧ Aside0 (Below w.heap.size w wc))
  case first =>
    have H := HC4.out
    clear HC4
    by_cases c6 : t213 = 0
    · rw [if_pos c6] at H
      have c6b0 : (t213 == 0) = true := beq_iff_eq.mpr c6
      have c6b1 : (t213 != 0) = false := bne_eq_false_iff_eq.mpr c6
      clear c6
      (first | rw [c6b0] | (simp only [i64_w, i32_w]; rw [c6b0]) | skip)
      by_cases c7 : t212 = 2
      · rw [if_pos c7] at H
        have c7b0 : (t212 == 2) = true := beq_iff_eq.mpr c7
        have c7b1 : (t212 != 2) = false := bne_eq_false_iff_eq.mpr c7
        clear c7
        replace H := Option.bind_eq_some_iff.mp H
        obtain ⟨t214, A80, H⟩ := H
        replace H : (wholekeep_IrredMany.j0 k a0 a1 (!t214)) = some r := H
        have A8 := Aside0.mk A80
        clear A80
        have H' := Aside0.mk H
        clear H
        go_wp2_with (first | (go_at_call 8; (with_reducible refine (wholekeep_polys.calls k  t214 _ A8.out).mono ?_); rintro e w9 ⟨rfl, hb⟩; have n0_ := Aside0.mk (below_step (by repeat (first | (with_reducible first | exact HB.out | apply below_alloc | apply pw_below_drewN | apply below_drew1) | exact HB.out)) hb); clear HB; have HB := n0_; clear n0_; (try clear hb); (try clear hb2); (try clear hk); (try clear hi)))
        go_meet
        case rel => exact ⟨_, (!t214), (by first | rfl | (simp; done) | (simp [*]; done)), H', ⟨by first | omega | exact Nat.le_refl _⟩, ⟨by repeat (first | (with_reducible first | exact HB.out | apply below_alloc | apply pw_below_drewN | apply below_drew1) | exact HB.out)⟩⟩
      · rw [if_neg c7] at H
        have c7b0 : (t212 == 2) = false := beq_eq_false_iff_ne.mpr c7
        have c7b1 : (t212 != 2) = true := bne_iff_ne.mpr c7
        have H' := Aside0.mk H
        clear H
        go_wp2
        go_meet
        case rel => exact ⟨_, (true), (by first | rfl | (simp; done) | (simp [*]; done)), H', ⟨by first | omega | exact Nat.le_refl _⟩, ⟨by repeat (first | (with_reducible first | exact HB.out | apply below_alloc | apply pw_below_drewN | apply below_drew1) | exact HB.out)⟩⟩
    · rw [if_neg c6] at H
      have c6b0 : (t213 == 0) = false := beq_eq_false_iff_ne.mpr c6
      have c6b1 : (t213 != 0) = true := bne_iff_ne.mpr c6
      (first | rw [c6b0] | (simp only [i64_w, i32_w]; rw [c6b0]) | skip)
      have H' := Aside0.mk H
      clear H
      go_wp2
      go_meet
      case rel => exact ⟨_, (true), (by first | rfl | (simp; done) | (simp [*]; done)), H', ⟨by first | omega | exact Nat.le_refl _⟩, ⟨by repeat (first | (with_reducible first | exact HB.out | apply below_alloc | apply pw_below_drewN | apply below_drew1) | exact HB.out)⟩⟩
  case rest =>
    clear HC4
    try clear c1
    try clear p2
    try clear c5
    try clear c6
    try clear c6b0
    try clear c6b1
    try clear c7
    try clear c7b0
    try clear c7b1
    obtain ⟨kq, x28_3, rfl, HA, HJ3, HB⟩ := hcut
    cases kq with
    | zero => exact absurd HA.out (by simp [wholekeep_IrredMany.j0])
    | succ kj3 =>
      have H := HA.out
      clear HA
      simp only [wholekeep_IrredMany.j0] at H
      by_cases c10 : x28_3 = true
      · subst c10
        have H1 : (some false) = some r := by rw [if_pos rfl] at H; exact H
        clear H
        have H := H1
        clear H1
        obtain rfl := Option.some.inj H
        go_wp2
        go_ret
        exact ⟨by first | rfl | (simp [errW_none, errW_some] <;> rfl) | (simp [*, errW_none, errW_some] <;> rfl), by repeat (first | (with_reducible first | exact HB.out | apply below_alloc | apply pw_below_drewN | apply below_drew1) | exact HB.out)⟩
      · replace c10 := Bool.eq_false_iff.mpr c10
        subst c10
        have H1 : ((wholekeep_fieldOf.f kj3 a0).bind fun t215 => ((wholekeep_Within.f a1 6).bind fun t216 => ((irred_Count.f kj3 t215 (wrap64 (1 + t216))).bind fun bt217 => (if bt217.2 = 0 then (wholekeep_IrredMany.l0 kj3 (wrap64 (1 + t216)) t215 0 1 1) else (some (bt217.2 == 2)))))) = some r := by rw [if_neg (show ¬ (false = true) by decide)] at H; exact H
        clear H
        have H := H1
        clear H1
        replace H := Option.bind_eq_some_iff.mp H
        obtain ⟨t215, A110, H⟩ := H
        replace H : ((wholekeep_Within.f a1 6).bind fun t216 => ((irred_Count.f kj3 t215 (wrap64 (1 + t216))).bind fun bt217 => (if bt217.2 = 0 then (wholekeep_IrredMany.l0 kj3 (wrap64 (1 + t216)) t215 0 1 1) else (some (bt217.2 == 2))))) = some r := H
        have A11 := Aside0.mk A110
        clear A110
        replace H := Option.bind_eq_some_iff.mp H
        obtain ⟨t216, A120, H⟩ := H
        replace H : ((irred_Count.f kj3 t215 (wrap64 (1 + t216))).bind fun bt217 => (if bt217.2 = 0 then (wholekeep_IrredMany.l0 kj3 (wrap64 (1 + t216)) t215 0 1 1) else (some (bt217.2 == 2)))) = some r := H
        have A12 := Aside0.mk A120
        clear A120
        replace H := Option.bind_eq_some_iff.mp H
        obtain ⟨⟨t217, t218⟩, A130, H⟩ := H
        replace H : (if t218 = 0 then (wholekeep_IrredMany.l0 kj3 (wrap64 (1 + t216)) t215 0 1 1) else (some (t218 == 2))) = some r := H
        have A13 := Aside0.mk A130
        clear A130
        by_cases c14 : t218 = 0
        · rw [if_pos c14] at H
          have c14b0 : (t218 == 0) = true := beq_iff_eq.mpr c14
          have c14b1 : (t218 != 0) = false := bne_eq_false_iff_eq.mpr c14
          clear c14
          have H' := Aside0.mk H
          clear H
          go_wp2_with (first | ((with_reducible refine gate_callee (f := 9) rfl ?_); refine goesL_ (some 30) rfl rfl Try.func9 (by kernel_rfl) rfl #[.int .i64 a0] rfl (by (try simp only [List.map_toArray, List.map_cons, List.map_nil]); first | done | rfl | (simp only [List.length_drop, List.length_take]; rfl)) ?_; (with_reducible refine (wholekeep_fieldOf.calls kj3 a0 t215 _ A11.out).mono ?_); rintro e w' ⟨rfl, ⟨nd, rfl⟩⟩; refine ⟨_, rfl, ?_⟩) | ((with_reducible refine gate_callee (f := 10) rfl ?_); refine goesL_ (some 32) rfl rfl Try.func10 (by kernel_rfl) rfl #[.int .i64 a1, .int .i64 6] rfl (by (try simp only [List.map_toArray, List.map_cons, List.map_nil]); first | done | rfl | (simp only [List.length_drop, List.length_take]; rfl)) ?_; (with_reducible refine (wholekeep_Within.calls a1 6 t216 _ A12.out).mono ?_); rintro e w' ⟨rfl, ⟨nd, rfl⟩⟩; refine ⟨_, rfl, ?_⟩) | ((with_reducible refine gate_callee (f := 19) rfl ?_); refine goesL_ (some 37) rfl rfl Try.func19 (by kernel_rfl) rfl #[.int .i64 t215, .int .i64 (wrap64 (1 + t216))] rfl (by (try simp only [List.map_toArray, List.map_cons, List.map_nil]); first | done | rfl | (simp only [List.length_drop, List.length_take]; rfl)) ?_; (with_reducible refine (irred_Count.calls kj3 t215 (wrap64 (1 + t216)) t217 t218 _ A13.out).mono ?_); rintro e w15 ⟨rfl, hb⟩; refine ⟨_, rfl, ?_⟩; have n0_ := Aside0.mk (below_step (by repeat (first | (with_reducible first | exact HB.out | apply below_alloc | apply pw_below_drewN | apply below_drew1) | exact HB.out)) hb); clear HB; have HB := n0_; clear n0_; (try clear hb); (try clear hb2); (try clear hk); (try clear hi)))
          go_loopg [10, 11, 12] kj3 (fun kq v10 v11 v12 w' => ∃ (x10_2 : Int) (x11_2 : Int) (x12_2 : Int), v10 = .int .i64 x10_2 ∧ v11 = .int .i64 x11_2 ∧ v12 = .int .i64 x12_2 ∧ Aside0 (wholekeep_IrredMany.l0 kq (wrap64 (1 + t216)) t215 x10_2 x11_2 x12_2 = some r) ∧ Aside0 (kq ≤ kj3) ∧ Aside0 (Below w.heap.size w w'))
          case atStart => exact ⟨(0), (1), (1), (by first | rfl | (simp; done) | (simp [*]; done)), (by first | rfl | (simp; done) | (simp [*]; done)), (by first | rfl | (simp; done) | (simp [*]; done)), H', ⟨Nat.le_refl _⟩, ⟨by repeat (first | (with_reducible first | exact HB.out | apply below_alloc | apply pw_below_drewN | apply below_drew1) | exact HB.out)⟩⟩
          case round =>
            clear H'
            try clear c1
            try clear p2
            try clear c5
            try clear c6
            try clear c6b0
            try clear c6b1
            try clear p6
            try clear c7
            try clear c7b0
            try clear c7b1
            try clear c9
            try clear c10
            try clear c14
            try clear c14b0
            try clear c14b1
            try clear p2
            obtain ⟨x10_2, x11_2, x12_2, rfl, rfl, rfl, HA, HK2, HB⟩ := hrel
            cases gk with
            | zero => exact absurd HA.out (by simp [wholekeep_IrredMany.l0])
            | succ k2 =>
              have H := HA.out
              clear HA
              simp only [wholekeep_IrredMany.l0] at H
              by_cases c16 : x12_2 ≤ (wrap64 (1 + t216))
              · rw [if_pos c16] at H
                have c16b0 : decide (x12_2 ≤ (wrap64 (1 + t216))) = true := decide_eq_true c16
                clear c16
                by_cases c17 : x12_2 = 0
                · rw [if_pos c17] at H
                  exact absurd H (by simp)
                · rw [if_neg c17] at H
                  have c17b0 : (x12_2 == 0) = false := beq_eq_false_iff_ne.mpr c17
                  have c17b1 : (x12_2 != 0) = true := bne_iff_ne.mpr c17
                  by_cases c18 : (Int.tmod (wrap64 (1 + t216)) x12_2) = 0
                  · rw [if_pos c18] at H
                    have c18b0 : ((Int.tmod (wrap64 (1 + t216)) x12_2) == 0) = true := beq_iff_eq.mpr c18
                    have c18b1 : ((Int.tmod (wrap64 (1 + t216)) x12_2) != 0) = false := bne_eq_false_iff_eq.mpr c18
                    clear c18
                    replace H := Option.bind_eq_some_iff.mp H
                    obtain ⟨⟨t219, t220⟩, A190, H⟩ := H
                    replace H : (if t220 = 0 then (if t219 < 1 then (some false) else (wholekeep_IrredMany.l0 k2 (wrap64 (1 + t216)) t215 (wrap64 (x10_2 + (wrap64 (x12_2 * t219)))) (wrap64 (x11_2 * t215)) (wrap64 (x12_2 + 1)))) else (some false)) = some r := H
                    have A19 := Aside0.mk A190
                    clear A190
                    by_cases c20 : t220 = 0
                    · rw [if_pos c20] at H
                      have c20b0 : (t220 == 0) = true := beq_iff_eq.mpr c20
                      have c20b1 : (t220 != 0) = false := bne_eq_false_iff_eq.mpr c20
                      clear c20
                      by_cases c21 : t219 < 1
                      · rw [if_pos c21] at H
                        have c21b0 : decide (t219 < 1) = true := decide_eq_true c21
                        clear c21
                        obtain rfl := Option.some.inj H
                        go_wp2_with (first | ((with_reducible refine gate_callee (f := 19) rfl ?_); refine goesL_ (some 59) rfl rfl Try.func19 (by kernel_rfl) rfl #[.int .i64 t215, .int .i64 x12_2] rfl (by (try simp only [List.map_toArray, List.map_cons, List.map_nil]); first | done | rfl | (simp only [List.length_drop, List.length_take]; rfl)) ?_; (with_reducible refine (irred_Count.calls k2 t215 x12_2 t219 t220 _ A19.out).mono ?_); rintro e w22 ⟨rfl, hb⟩; refine ⟨_, rfl, ?_⟩; have n0_ := Aside0.mk (below_step (by repeat (first | (with_reducible first | exact HB.out | apply below_alloc | apply pw_below_drewN | apply below_drew1) | exact HB.out)) hb); clear HB; have HB := n0_; clear n0_; (try clear hb); (try clear hb2); (try clear hk); (try clear hi)))
                        go_ret
                        exact ⟨by first | rfl | (simp [errW_none, errW_some] <;> rfl) | (simp [*, errW_none, errW_some] <;> rfl), by repeat (first | (with_reducible first | exact HB.out | apply below_alloc | apply pw_below_drewN | apply below_drew1) | exact HB.out)⟩
                      · rw [if_neg c21] at H
                        have c21b0 : decide (t219 < 1) = false := decide_eq_false c21
                        clear c21
                        have H' := Aside0.mk H
                        clear H
                        go_wp2_with (first | ((with_reducible refine gate_callee (f := 19) rfl ?_); refine goesL_ (some 59) rfl rfl Try.func19 (by kernel_rfl) rfl #[.int .i64 t215, .int .i64 x12_2] rfl (by (try simp only [List.map_toArray, List.map_cons, List.map_nil]); first | done | rfl | (simp only [List.length_drop, List.length_take]; rfl)) ?_; (with_reducible refine (irred_Count.calls k2 t215 x12_2 t219 t220 _ A19.out).mono ?_); rintro e w23 ⟨rfl, hb⟩; refine ⟨_, rfl, ?_⟩; have n0_ := Aside0.mk (below_step (by repeat (first | (with_reducible first | exact HB.out | apply below_alloc | apply pw_below_drewN | apply below_drew1) | exact HB.out)) hb); clear HB; have HB := n0_; clear n0_; (try clear hb); (try clear hb2); (try clear hk); (try clear hi)))
                        go_roundg k2
                        case measure => have := HJ3.out; have := HK2.out; omega
                        case rel => exact ⟨(wrap64 (x10_2 + (wrap64 (x12_2 * t219)))), (wrap64 (x11_2 * t215)), (wrap64 (x12_2 + 1)), (by first | rfl | (simp; done) | (simp [*]; done)), (by first | rfl | (simp; done) | (simp [*]; done)), (by first | rfl | (simp; done) | (simp [*]; done)), H', ⟨by have := HJ3.out; have := HK2.out; omega⟩, ⟨by repeat (first | (with_reducible first | exact HB.out | apply below_alloc | apply pw_below_drewN | apply below_drew1) | exact HB.out)⟩⟩
                    · rw [if_neg c20] at H
                      have c20b0 : (t220 == 0) = false := beq_eq_false_iff_ne.mpr c20
                      have c20b1 : (t220 != 0) = true := bne_iff_ne.mpr c20
                      obtain rfl := Option.some.inj H
                      go_wp2_with (first | ((with_reducible refine gate_callee (f := 19) rfl ?_); refine goesL_ (some 59) rfl rfl Try.func19 (by kernel_rfl) rfl #[.int .i64 t215, .int .i64 x12_2] rfl (by (try simp only [List.map_toArray, List.map_cons, List.map_nil]); first | done | rfl | (simp only [List.length_drop, List.length_take]; rfl)) ?_; (with_reducible refine (irred_Count.calls k2 t215 x12_2 t219 t220 _ A19.out).mono ?_); rintro e w24 ⟨rfl, hb⟩; refine ⟨_, rfl, ?_⟩; have n0_ := Aside0.mk (below_step (by repeat (first | (with_reducible first | exact HB.out | apply below_alloc | apply pw_below_drewN | apply below_drew1) | exact HB.out)) hb); clear HB; have HB := n0_; clear n0_; (try clear hb); (try clear hb2); (try clear hk); (try clear hi)))
                      go_ret
                      exact ⟨by first | rfl | (simp [errW_none, errW_some] <;> rfl) | (simp [*, errW_none, errW_some] <;> rfl), by repeat (first | (with_reducible first | exact HB.out | apply below_alloc | apply pw_below_drewN | apply below_drew1) | exact HB.out)⟩
                  · rw [if_neg c18] at H
                    have c18b0 : ((Int.tmod (wrap64 (1 + t216)) x12_2) == 0) = false := beq_eq_false_iff_ne.mpr c18
                    have c18b1 : ((Int.tmod (wrap64 (1 + t216)) x12_2) != 0) = true := bne_iff_ne.mpr c18
                    have H' := Aside0.mk H
                    clear H
                    go_wp2
                    go_roundg k2
                    case measure => have := HJ3.out; have := HK2.out; omega
                    case rel => exact ⟨(x10_2), (wrap64 (x11_2 * t215)), (wrap64 (x12_2 + 1)), (by first | rfl | (simp; done) | (simp [*]; done)), (by first | rfl | (simp; done) | (simp [*]; done)), (by first | rfl | (simp; done) | (simp [*]; done)), H', ⟨by have := HJ3.out; have := HK2.out; omega⟩, ⟨by repeat (first | (with_reducible first | exact HB.out | apply below_alloc | apply pw_below_drewN | apply below_drew1) | exact HB.out)⟩⟩
              · rw [if_neg c16] at H
                have c16b0 : decide (x12_2 ≤ (wrap64 (1 + t216))) = false := decide_eq_false c16
                clear c16
                obtain rfl := Option.some.inj H
                go_wp2
                go_ret
                exact ⟨by first | rfl | (simp [errW_none, errW_some] <;> rfl) | (simp [*, errW_none, errW_some] <;> rfl), by repeat (first | (with_reducible first | exact HB.out | apply below_alloc | apply pw_below_drewN | apply below_drew1) | exact HB.out)⟩
        · rw [if_neg c14] at H
          have c14b0 : (t218 == 0) = false := beq_eq_false_iff_ne.mpr c14
          have c14b1 : (t218 != 0) = true := bne_iff_ne.mpr c14
          obtain rfl := Option.some.inj H
          go_wp2_with (first | ((with_reducible refine gate_callee (f := 9) rfl ?_); refine goesL_ (some 30) rfl rfl Try.func9 (by kernel_rfl) rfl #[.int .i64 a0] rfl (by (try simp only [List.map_toArray, List.map_cons, List.map_nil]); first | done | rfl | (simp only [List.length_drop, List.length_take]; rfl)) ?_; (with_reducible refine (wholekeep_fieldOf.calls kj3 a0 t215 _ A11.out).mono ?_); rintro e w' ⟨rfl, ⟨nd, rfl⟩⟩; refine ⟨_, rfl, ?_⟩) | ((with_reducible refine gate_callee (f := 10) rfl ?_); refine goesL_ (some 32) rfl rfl Try.func10 (by kernel_rfl) rfl #[.int .i64 a1, .int .i64 6] rfl (by (try simp only [List.map_toArray, List.map_cons, List.map_nil]); first | done | rfl | (simp only [List.length_drop, List.length_take]; rfl)) ?_; (with_reducible refine (wholekeep_Within.calls a1 6 t216 _ A12.out).mono ?_); rintro e w' ⟨rfl, ⟨nd, rfl⟩⟩; refine ⟨_, rfl, ?_⟩) | ((with_reducible refine gate_callee (f := 19) rfl ?_); refine goesL_ (some 37) rfl rfl Try.func19 (by kernel_rfl) rfl #[.int .i64 t215, .int .i64 (wrap64 (1 + t216))] rfl (by (try simp only [List.map_toArray, List.map_cons, List.map_nil]); first | done | rfl | (simp only [List.length_drop, List.length_take]; rfl)) ?_; (with_reducible refine (irred_Count.calls kj3 t215 (wrap64 (1 + t216)) t217 t218 _ A13.out).mono ?_); rintro e w25 ⟨rfl, hb⟩; refine ⟨_, rfl, ?_⟩; have n0_ := Aside0.mk (below_step (by repeat (first | (with_reducible first | exact HB.out | apply below_alloc | apply pw_below_drewN | apply below_drew1) | exact HB.out)) hb); clear HB; have HB := n0_; clear n0_; (try clear hb); (try clear hb2); (try clear hk); (try clear hi)))
          go_ret
          exact ⟨by first | rfl | (simp [errW_none, errW_some] <;> rfl) | (simp [*, errW_none, errW_some] <;> rfl), by repeat (first | (with_reducible first | exact HB.out | apply below_alloc | apply pw_below_drewN | apply below_drew1) | exact HB.out)⟩

/-- THE ONE PURE STATEMENT of wholekeep_IrredMany: yours. -/
def wholekeep_IrredMany.Pure : Prop := ∀ (a0 : Int) (a1 : Int), (Lit.int .i64 a0).wf = true → (Lit.int .i64 a1).wf = true → ∃ k, wholekeep_IrredMany.f k a0 a1 = some true
theorem wholekeep_IrredMany.walk (P : wholekeep_IrredMany.Pure) (a0 : Int) (a1 : Int) (w : World) (w0 : (Lit.int .i64 a0).wf = true) (w1 : (Lit.int .i64 a1).wf = true) :
    Calls Try.prog 5 #[.int .i64 a0, .int .i64 a1] w fun e w' => e = .returned (.bool true) ∧ Below w.heap.size w w' := by
  obtain ⟨k, h⟩ := P a0 a1 w0 w1
  refine (wholekeep_IrredMany.calls k a0 a1 true w h).mono ?_
  rintro e w' ⟨rfl, hd⟩
  exact ⟨rfl, hd⟩

end Go.Proofs.Ytonacfjhfkdgbaa.PIrredMany
