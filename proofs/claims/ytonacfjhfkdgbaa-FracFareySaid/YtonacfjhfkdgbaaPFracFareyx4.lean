/- What is proved here: Go functions of the program come to what the Lean functions beside them tell. Conditions: those that each theorem names. (Written by wip/printx.py of this session, after the guide print.sh.) -/
import Derived.Test.YtonacfjhfkdgbaaPFracFareyx0
import Derived.Test.YtonacfjhfkdgbaaPFracFareyx2
import Derived.Test.YtonacfjhfkdgbaaPFracFareyx3
namespace Go.Proofs.Ytonacfjhfkdgbaa.PFracFarey
open Go.RowKit Go.Proofs.YtonacfjhfkdgbaaW.PrintWords Go.Proofs.YtonacfjhfkdgbaaW.PrintLast Go.Proofs.YtonacfjhfkdgbaaW.PrintMore
attribute [local go_sem] max2_int min2_int max_two min_two max_three min_three max_four min_four   -- for this text's walks alone
set_option linter.unusedVariables false
set_option linter.unusedSimpArgs false

/-! ### wholekeep_FracFarey: function 4 -/
mutual
def wholekeep_FracFarey.j0 : Nat → Int → Bool → Option (Bool)
  | 0, _, _ => none
  | k + 1, x0, x28 => if x28 = true then (some false) else ((wholekeep_Within.f x0 30).bind fun t139 => ((frac_Farey.f k (wrap64 (1 + t139))).bind fun bt140 => (if bt140.2 = 0 then (wholekeep_FracFarey.j1 k (wrap64 (1 + t139)) bt140.1 (decide ((bt140.1.length : Int) < 2))) else (wholekeep_FracFarey.j1 k (wrap64 (1 + t139)) bt140.1 true))))
def wholekeep_FracFarey.j1 : Nat → Int → List (S41) → Bool → Option (Bool)
  | 0, _, _, _ => none
  | k + 1, x0, x5, x43 => if x43 = true then (some false) else (wholekeep_FracFarey.l0 k x0 x5 1)
def wholekeep_FracFarey.l0 : Nat → Int → List (S41) → Int → Option (Bool)
  | 0, _, _, _ => none
  | k + 1, x0, x5, x7 => if x7 < (x5.length : Int) then (if 0 ≤ x7 then (if 0 ≤ (wrap64 (x7 - 1)) then (if (wrap64 (x7 - 1)) < (x5.length : Int) then (if (wrap64 ((wrap64 (((rd_T41 x5 x7).f0) * ((rd_T41 x5 (wrap64 (x7 - 1))).f1))) - (wrap64 (((rd_T41 x5 (wrap64 (x7 - 1))).f0) * ((rd_T41 x5 x7).f1))))) = 1 then (if x7 > 1 then (if 0 ≤ (wrap64 (x7 - 2)) then (if (wrap64 (x7 - 2)) < (x5.length : Int) then (if (wrap64 ((wrap64 (((rd_T41 x5 (wrap64 (x7 - 2))).f0) + ((rd_T41 x5 x7).f0))) * ((rd_T41 x5 (wrap64 (x7 - 1))).f1))) = (wrap64 ((wrap64 (((rd_T41 x5 (wrap64 (x7 - 2))).f1) + ((rd_T41 x5 x7).f1))) * ((rd_T41 x5 (wrap64 (x7 - 1))).f0))) then (wholekeep_FracFarey.l0 k x0 x5 (wrap64 (x7 + 1))) else (some false)) else (none)) else (none)) else (wholekeep_FracFarey.l0 k x0 x5 (wrap64 (x7 + 1)))) else (some false)) else (none)) else (none)) else (none)) else (wholekeep_FracFarey.l1 k x0 x5 1 1)
def wholekeep_FracFarey.l1 : Nat → Int → List (S41) → Int → Int → Option (Bool)
  | 0, _, _, _, _ => none
  | k + 1, x0, x5, x8, x9 => if x9 ≤ x0 then ((divide_Phi.f k x9).bind fun bt154 => (if bt154.2 = 0 then (wholekeep_FracFarey.l1 k x0 x5 (wrap64 (x8 + bt154.1)) (wrap64 (x9 + 1))) else (some false))) else (some ((x5.length : Int) == x8))
end
def wholekeep_FracFarey.f (k : Nat) (a0 : Int) : Option (Bool) := (frac_Farey.f k 3).bind fun bt131 => (if bt131.2 = 0 then ((api_Fraction_17.f k bt131.1 (([(⟨0, 1⟩ : S41), (⟨1, 3⟩ : S41), (⟨1, 2⟩ : S41), (⟨2, 3⟩ : S41), (⟨1, 1⟩ : S41)] : List (S41)))).bind fun t138 => (wholekeep_FracFarey.j0 k a0 (!t138))) else (wholekeep_FracFarey.j0 k a0 true))
theorem wholekeep_FracFarey.mono_l : ∀ k, (∀ y0 y1, LeO (wholekeep_FracFarey.j0 k y0 y1) (wholekeep_FracFarey.j0 (k + 1) y0 y1)) ∧ (∀ y0 y1 y2, LeO (wholekeep_FracFarey.j1 k y0 y1 y2) (wholekeep_FracFarey.j1 (k + 1) y0 y1 y2)) ∧ (∀ y0 y1 y2, LeO (wholekeep_FracFarey.l0 k y0 y1 y2) (wholekeep_FracFarey.l0 (k + 1) y0 y1 y2)) ∧ (∀ y0 y1 y2 y3, LeO (wholekeep_FracFarey.l1 k y0 y1 y2 y3) (wholekeep_FracFarey.l1 (k + 1) y0 y1 y2 y3))
  | 0 => ⟨fun _ _ r h => by simp [wholekeep_FracFarey.j0] at h, fun _ _ _ r h => by simp [wholekeep_FracFarey.j1] at h, fun _ _ _ r h => by simp [wholekeep_FracFarey.l0] at h, fun _ _ _ _ r h => by simp [wholekeep_FracFarey.l1] at h⟩
  | k + 1 => by
    obtain ⟨ih0, ih1, ih2, ih3⟩ := wholekeep_FracFarey.mono_l k
    refine ⟨?_, ?_, ?_, ?_⟩
    · intro y0 y1
      unfold wholekeep_FracFarey.j0
      repeat' first
      | (with_reducible exact ih0 _ _)
      | (with_reducible exact ih1 _ _ _)
      | (with_reducible exact ih2 _ _ _)
      | (with_reducible exact ih3 _ _ _ _)
      | (with_reducible exact api_Fraction_17.mono _ _ _)
      | (with_reducible exact divide_Phi.mono _ _)
      | (with_reducible exact frac_Farey.mono _ _)
      | (with_reducible exact LeO.refl _)
      | (with_reducible exact LeO.none _)
      | (with_reducible refine LeO.ite ?_ ?_)
      | (with_reducible refine LeO.bind ?_ (fun _ => ?_))
      | exact ih0 _ _
      | exact ih1 _ _ _
      | exact ih2 _ _ _
      | exact ih3 _ _ _ _
      | exact api_Fraction_17.mono _ _ _
      | exact divide_Phi.mono _ _
      | exact frac_Farey.mono _ _
      | exact LeO.none _
      | refine LeO.ite ?_ ?_
      | refine LeO.bind ?_ (fun _ => ?_)
    · intro y0 y1 y2
      unfold wholekeep_FracFarey.j1
      repeat' first
      | (with_reducible exact ih0 _ _)
      | (with_reducible exact ih1 _ _ _)
      | (with_reducible exact ih2 _ _ _)
      | (with_reducible exact ih3 _ _ _ _)
      | (with_reducible exact api_Fraction_17.mono _ _ _)
      | (with_reducible exact divide_Phi.mono _ _)
      | (with_reducible exact frac_Farey.mono _ _)
      | (with_reducible exact LeO.refl _)
      | (with_reducible exact LeO.none _)
      | (with_reducible refine LeO.ite ?_ ?_)
      | (with_reducible refine LeO.bind ?_ (fun _ => ?_))
      | exact ih0 _ _
      | exact ih1 _ _ _
      | exact ih2 _ _ _
      | exact ih3 _ _ _ _
      | exact api_Fraction_17.mono _ _ _
      | exact divide_Phi.mono _ _
      | exact frac_Farey.mono _ _
      | exact LeO.none _
      | refine LeO.ite ?_ ?_
      | refine LeO.bind ?_ (fun _ => ?_)
    · intro y0 y1 y2
      unfold wholekeep_FracFarey.l0
      repeat' first
      | (with_reducible exact ih0 _ _)
      | (with_reducible exact ih1 _ _ _)
      | (with_reducible exact ih2 _ _ _)
      | (with_reducible exact ih3 _ _ _ _)
      | (with_reducible exact api_Fraction_17.mono _ _ _)
      | (with_reducible exact divide_Phi.mono _ _)
      | (with_reducible exact frac_Farey.mono _ _)
      | (with_reducible exact LeO.refl _)
      | (with_reducible exact LeO.none _)
      | (with_reducible refine LeO.ite ?_ ?_)
      | (with_reducible refine LeO.bind ?_ (fun _ => ?_))
      | exact ih0 _ _
      | exact ih1 _ _ _
      | exact ih2 _ _ _
      | exact ih3 _ _ _ _
      | exact api_Fraction_17.mono _ _ _
      | exact divide_Phi.mono _ _
      | exact frac_Farey.mono _ _
      | exact LeO.none _
      | refine LeO.ite ?_ ?_
      | refine LeO.bind ?_ (fun _ => ?_)
    · intro y0 y1 y2 y3
      unfold wholekeep_FracFarey.l1
      repeat' first
      | (with_reducible exact ih0 _ _)
      | (with_reducible exact ih1 _ _ _)
      | (with_reducible exact ih2 _ _ _)
      | (with_reducible exact ih3 _ _ _ _)
      | (with_reducible exact api_Fraction_17.mono _ _ _)
      | (with_reducible exact divide_Phi.mono _ _)
      | (with_reducible exact frac_Farey.mono _ _)
      | (with_reducible exact LeO.refl _)
      | (with_reducible exact LeO.none _)
      | (with_reducible refine LeO.ite ?_ ?_)
      | (with_reducible refine LeO.bind ?_ (fun _ => ?_))
      | exact ih0 _ _
      | exact ih1 _ _ _
      | exact ih2 _ _ _
      | exact ih3 _ _ _ _
      | exact api_Fraction_17.mono _ _ _
      | exact divide_Phi.mono _ _
      | exact frac_Farey.mono _ _
      | exact LeO.none _
      | refine LeO.ite ?_ ?_
      | refine LeO.bind ?_ (fun _ => ?_)
theorem wholekeep_FracFarey.mono : ∀ a0 k, LeO (wholekeep_FracFarey.f k a0) (wholekeep_FracFarey.f (k + 1) a0) := by
  intro a0 k
  obtain ⟨ih0, ih1, ih2, ih3⟩ := wholekeep_FracFarey.mono_l k
  unfold wholekeep_FracFarey.f
  repeat' first
      | (with_reducible exact ih0 _ _)
      | (with_reducible exact ih1 _ _ _)
      | (with_reducible exact ih2 _ _ _)
      | (with_reducible exact ih3 _ _ _ _)
      | (with_reducible exact api_Fraction_17.mono _ _ _)
      | (with_reducible exact divide_Phi.mono _ _)
      | (with_reducible exact frac_Farey.mono _ _)
      | (with_reducible exact LeO.refl _)
      | (with_reducible exact LeO.none _)
      | (with_reducible refine LeO.ite ?_ ?_)
      | (with_reducible refine LeO.bind ?_ (fun _ => ?_))
      | exact ih0 _ _
      | exact ih1 _ _ _
      | exact ih2 _ _ _
      | exact ih3 _ _ _ _
      | exact api_Fraction_17.mono _ _ _
      | exact divide_Phi.mono _ _
      | exact frac_Farey.mono _ _
      | exact LeO.none _
      | refine LeO.ite ?_ ?_
      | refine LeO.bind ?_ (fun _ => ?_)
set_option maxHeartbeats 8000000 in
set_option maxRecDepth 100000 in
theorem wholekeep_FracFarey.calls (k : Nat) (a0 : Int) (r : Bool) (w : World) (h : wholekeep_FracFarey.f k a0 = some r) :
    Calls Try.prog 4 #[.int .i64 a0] w fun e w' => e = .returned (.bool r) ∧ Below w.heap.size w w' := by
  have hu41 := Try.underlying41
  have HB := Aside0.mk (Below.refl w.heap.size w)
  have H : ((frac_Farey.f k 3).bind fun bt131 => (if bt131.2 = 0 then ((api_Fraction_17.f k bt131.1 (([(⟨0, 1⟩ : S41), (⟨1, 3⟩ : S41), (⟨1, 2⟩ : S41), (⟨2, 3⟩ : S41), (⟨1, 1⟩ : S41)] : List (S41)))).bind fun t138 => (wholekeep_FracFarey.j0 k a0 (!t138))) else (wholekeep_FracFarey.j0 k a0 true))) = some r := h
  clear h
  replace H := Option.bind_eq_some_iff.mp H
  obtain ⟨⟨t131, t134⟩, A20, H⟩ := H
  replace H : (if t134 = 0 then ((api_Fraction_17.f k t131 (([(⟨0, 1⟩ : S41), (⟨1, 3⟩ : S41), (⟨1, 2⟩ : S41), (⟨2, 3⟩ : S41), (⟨1, 1⟩ : S41)] : List (S41)))).bind fun t138 => (wholekeep_FracFarey.j0 k a0 (!t138))) else (wholekeep_FracFarey.j0 k a0 true)) = some r := H
  have A2 := Aside0.mk A20
  clear A20
  have HC3 := Aside0.mk H
  clear H
  go_enter Try.func4, Try.ntmps4
  go_upto_region 2 with (first | (go_at_call 16; (with_reducible refine (frac_Farey.calls k 3 t131 t134 _ A2.out).mono ?_); rintro e w4 ⟨v132, rfl, ho0, hb⟩; have n0_ := Aside0.mk (Kd.V_lower (Kd.V_mono (ok' := fun k_ => True) ho0 (fun k_ hk_ => trivial)) (below_size (by repeat (first | (with_reducible first | exact HB.out | apply below_alloc | apply pw_below_drewN | apply below_drew1) | exact HB.out)))); have n1_ := Aside0.mk (below_step (by repeat (first | (with_reducible first | exact HB.out | apply below_alloc | apply pw_below_drewN | apply below_drew1) | exact HB.out)) hb); clear HB; have HO133 := n0_; have HB := n1_; clear n0_ n1_; (try clear hb); (try clear hb2); (try clear hk); (try clear hi); (try clear ho0)))
  repeat (go_quiet (first | (go_at_call 16; (with_reducible refine (frac_Farey.calls k 3 t131 t134 _ A2.out).mono ?_); rintro e w4 ⟨v132, rfl, ho0, hb⟩; have n0_ := Aside0.mk (Kd.V_lower (Kd.V_mono (ok' := fun k_ => True) ho0 (fun k_ hk_ => trivial)) (below_size (by repeat (first | (with_reducible first | exact HB.out | apply below_alloc | apply pw_below_drewN | apply below_drew1) | exact HB.out)))); have n1_ := Aside0.mk (below_step (by repeat (first | (with_reducible first | exact HB.out | apply below_alloc | apply pw_below_drewN | apply below_drew1) | exact HB.out)) hb); clear HB; have HO133 := n0_; have HB := n1_; clear n0_ n1_; (try clear hb); (try clear hb2); (try clear hk); (try clear hi); (try clear ho0))); go_upto_region 2 with (first | (go_at_call 16; (with_reducible refine (frac_Farey.calls k 3 t131 t134 _ A2.out).mono ?_); rintro e w4 ⟨v132, rfl, ho0, hb⟩; have n0_ := Aside0.mk (Kd.V_lower (Kd.V_mono (ok' := fun k_ => True) ho0 (fun k_ hk_ => trivial)) (below_size (by repeat (first | (with_reducible first | exact HB.out | apply below_alloc | apply pw_below_drewN | apply below_drew1) | exact HB.out)))); have n1_ := Aside0.mk (below_step (by repeat (first | (with_reducible first | exact HB.out | apply below_alloc | apply pw_below_drewN | apply below_drew1) | exact HB.out)) hb); clear HB; have HO133 := n0_; have HB := n1_; clear n0_ n1_; (try clear hb); (try clear hb2); (try clear hk); (try clear hi); (try clear ho0))))
  (try simp only [Act.put, List.setIfInBounds_toArray, List.set_cons_zero, List.set_cons_succ])
  go_cut [28] (fun v28 wc => ∃ (kq : Nat) (x28_2 : Bool), v28 = .bool x28_2 ∧ Aside0 (wholekeep_FracFarey.j0 kq a0 x28_2 = some r) ∧ Aside0 (kq ≤ k) ∧ Aside0 (Below w.heap.size w wc))
  case first =>
    have H := HC3.out
    clear HC3
    by_cases c5 : t134 = 0
    · rw [if_pos c5] at H
      have c5b0 : (t134 == 0) = true := beq_iff_eq.mpr c5
      have c5b1 : (t134 != 0) = false := bne_eq_false_iff_eq.mpr c5
      clear c5
      (first | rw [c5b0] | (simp only [i64_w, i32_w]; rw [c5b0]) | skip)
      obtain ⟨y135, hy135⟩ : ∃ y_ : List (S41), y_ = (([(⟨0, 1⟩ : S41), (⟨1, 3⟩ : S41), (⟨1, 2⟩ : S41), (⟨2, 3⟩ : S41), (⟨1, 1⟩ : S41)] : List (S41))) := ⟨_, rfl⟩
      replace H : ((api_Fraction_17.f k t131 y135).bind fun t138 => (wholekeep_FracFarey.j0 k a0 (!t138))) = some r := by first | (rw [hy135]; with_reducible exact H) | (have H2_ := (Option.bind_some _ _).symm.trans H; rw [hy135]; with_reducible exact H2_) | (have H2_ := (Option.bind_some _ _).symm.trans H; with_reducible exact H2_) | with_reducible exact H | (rw [hy135]; exact H) | exact H
      have Ny135 := Aside0.mk hy135
      clear hy135
      replace H := Option.bind_eq_some_iff.mp H
      obtain ⟨t138, A60, H⟩ := H
      replace H : (wholekeep_FracFarey.j0 k a0 (!t138)) = some r := H
      have A6 := Aside0.mk A60
      clear A60
      have H' := Aside0.mk H
      clear H
      go_wp2_with (first | ((with_reducible refine gate_dst (N := 25) rfl ?_); (try (refine gate_guard (by rfl) ?_; dsimp only)); refine Kd.R_lit k41 _ 41 ?hg (N := 25) ?hd (xs := ([(⟨0, 1⟩ : S41), (⟨1, 3⟩ : S41), (⟨1, 2⟩ : S41), (⟨2, 3⟩ : S41), (⟨1, 1⟩ : S41)] : List (S41))) (inner := [.int .i64 0, .int .i64 1, .int .i64 1, .int .i64 3, .int .i64 1, .int .i64 2, .int .i64 2, .int .i64 3, .int .i64 1, .int .i64 1]) (ok := fun _ => True) (okp := fun _ => True) ?hr ?hp (fun _ hk => hk) trivial (Below.refl _ _) (Nat.le_refl _) (by simp) ?_; (case hd => rfl); (case hg => rfl); (case hr => first | (go_simp; done) | (go_simp; rfl)); (case hp => exact (Reps.c2 (show Kd.M k41 _ _ _ (⟨0, 1⟩ : S41) [.int .i64 0, .int .i64 1] from (k41_mkM _ _ _ (⟨0, 1⟩ : S41) )) (Reps.c2 (show Kd.M k41 _ _ _ (⟨1, 3⟩ : S41) [.int .i64 1, .int .i64 3] from (k41_mkM _ _ _ (⟨1, 3⟩ : S41) )) (Reps.c2 (show Kd.M k41 _ _ _ (⟨1, 2⟩ : S41) [.int .i64 1, .int .i64 2] from (k41_mkM _ _ _ (⟨1, 2⟩ : S41) )) (Reps.c2 (show Kd.M k41 _ _ _ (⟨2, 3⟩ : S41) [.int .i64 2, .int .i64 3] from (k41_mkM _ _ _ (⟨2, 3⟩ : S41) )) (Reps.c2 (show Kd.M k41 _ _ _ (⟨1, 1⟩ : S41) [.int .i64 1, .int .i64 1] from (k41_mkM _ _ _ (⟨1, 1⟩ : S41) )) (Reps.none _ _))))))); intro v136 w7 ho8 hb hg_ hnew_; clear hg_ hnew_; (first | rw [← Ny135.out] at ho8 | (simp only [Int.reduceToNat] at ho8; rw [← Ny135.out] at ho8)); have n0_ := Aside0.mk (Kd.V_elder' (by (with_reducible repeat (first | apply Kd.V_alloc | apply Kd.V_drewN | apply Kd.V_drew)); exact HO133.out) (Kd.R_base ho8) hb); have n1_ := Aside0.mk (Kd.R_lower ho8 (below_size (by repeat (first | (with_reducible first | exact HB.out | apply below_alloc | apply pw_below_drewN | apply below_drew1) | exact HB.out)))); have n2_ := Aside0.mk (below_step (by repeat (first | (with_reducible first | exact HB.out | apply below_alloc | apply pw_below_drewN | apply below_drew1) | exact HB.out)) hb); clear HO133; clear HB; have HO133 := n0_; have HO137 := n1_; have HB := n2_; clear n0_ n1_ n2_; clear hb ho8; obtain ⟨Ao9, co9, eo9⟩ := Kd.V_slice HO133.out; subst eo9; obtain ⟨Ao10, co10, eo10⟩ := Kd.R_slice HO137.out; subst eo10) | (go_at_call 17; (with_reducible refine (api_Fraction_17.calls k _ _ t131 _ _ y135 t138 _ ?side1 ?side2 ?side3 ?side4 A6.out).mono ?_); (case side1 => repeat (first | exact (Kd.V_reads' HO133.out).2.2 | (with_reducible refine Kd.C_alloc ?_ _) | (with_reducible refine Kd.C_drewN ?_ _) | (with_reducible refine Kd.C_drew ?_))); (case side2 => exact (Kd.V_reads' HO133.out).2.1); (case side3 => repeat (first | exact (Kd.R_reads' HO137.out).2.2 | (with_reducible refine Kd.C_alloc ?_ _) | (with_reducible refine Kd.C_drewN ?_ _) | (with_reducible refine Kd.C_drew ?_))); (case side4 => exact (Kd.R_reads' HO137.out).2.1); rintro e w' ⟨rfl, ⟨nd, rfl⟩⟩; (try first | exact ⟨rfl, _, World.drewN_drewN _ _ _⟩ | exact ⟨rfl, _, Eq.trans (World.drewN_drewN _ _ _) (congrArg (World.drewN _) (Nat.add_assoc _ _ _))⟩)))
      repeat (go_quiet (first | ((with_reducible refine gate_dst (N := 25) rfl ?_); (try (refine gate_guard (by rfl) ?_; dsimp only)); refine Kd.R_lit k41 _ 41 ?hg (N := 25) ?hd (xs := ([(⟨0, 1⟩ : S41), (⟨1, 3⟩ : S41), (⟨1, 2⟩ : S41), (⟨2, 3⟩ : S41), (⟨1, 1⟩ : S41)] : List (S41))) (inner := [.int .i64 0, .int .i64 1, .int .i64 1, .int .i64 3, .int .i64 1, .int .i64 2, .int .i64 2, .int .i64 3, .int .i64 1, .int .i64 1]) (ok := fun _ => True) (okp := fun _ => True) ?hr ?hp (fun _ hk => hk) trivial (Below.refl _ _) (Nat.le_refl _) (by simp) ?_; (case hd => rfl); (case hg => rfl); (case hr => first | (go_simp; done) | (go_simp; rfl)); (case hp => exact (Reps.c2 (show Kd.M k41 _ _ _ (⟨0, 1⟩ : S41) [.int .i64 0, .int .i64 1] from (k41_mkM _ _ _ (⟨0, 1⟩ : S41) )) (Reps.c2 (show Kd.M k41 _ _ _ (⟨1, 3⟩ : S41) [.int .i64 1, .int .i64 3] from (k41_mkM _ _ _ (⟨1, 3⟩ : S41) )) (Reps.c2 (show Kd.M k41 _ _ _ (⟨1, 2⟩ : S41) [.int .i64 1, .int .i64 2] from (k41_mkM _ _ _ (⟨1, 2⟩ : S41) )) (Reps.c2 (show Kd.M k41 _ _ _ (⟨2, 3⟩ : S41) [.int .i64 2, .int .i64 3] from (k41_mkM _ _ _ (⟨2, 3⟩ : S41) )) (Reps.c2 (show Kd.M k41 _ _ _ (⟨1, 1⟩ : S41) [.int .i64 1, .int .i64 1] from (k41_mkM _ _ _ (⟨1, 1⟩ : S41) )) (Reps.none _ _))))))); intro v136 w7 ho8 hb hg_ hnew_; clear hg_ hnew_; (first | rw [← Ny135.out] at ho8 | (simp only [Int.reduceToNat] at ho8; rw [← Ny135.out] at ho8)); have n0_ := Aside0.mk (Kd.V_elder' (by (with_reducible repeat (first | apply Kd.V_alloc | apply Kd.V_drewN | apply Kd.V_drew)); exact HO133.out) (Kd.R_base ho8) hb); have n1_ := Aside0.mk (Kd.R_lower ho8 (below_size (by repeat (first | (with_reducible first | exact HB.out | apply below_alloc | apply pw_below_drewN | apply below_drew1) | exact HB.out)))); have n2_ := Aside0.mk (below_step (by repeat (first | (with_reducible first | exact HB.out | apply below_alloc | apply pw_below_drewN | apply below_drew1) | exact HB.out)) hb); clear HO133; clear HB; have HO133 := n0_; have HO137 := n1_; have HB := n2_; clear n0_ n1_ n2_; clear hb ho8; obtain ⟨Ao9, co9, eo9⟩ := Kd.V_slice HO133.out; subst eo9; obtain ⟨Ao10, co10, eo10⟩ := Kd.R_slice HO137.out; subst eo10) | (go_at_call 17; (with_reducible refine (api_Fraction_17.calls k _ _ t131 _ _ y135 t138 _ ?side1 ?side2 ?side3 ?side4 A6.out).mono ?_); (case side1 => repeat (first | exact (Kd.V_reads' HO133.out).2.2 | (with_reducible refine Kd.C_alloc ?_ _) | (with_reducible refine Kd.C_drewN ?_ _) | (with_reducible refine Kd.C_drew ?_))); (case side2 => exact (Kd.V_reads' HO133.out).2.1); (case side3 => repeat (first | exact (Kd.R_reads' HO137.out).2.2 | (with_reducible refine Kd.C_alloc ?_ _) | (with_reducible refine Kd.C_drewN ?_ _) | (with_reducible refine Kd.C_drew ?_))); (case side4 => exact (Kd.R_reads' HO137.out).2.1); rintro e w' ⟨rfl, ⟨nd, rfl⟩⟩; (try first | exact ⟨rfl, _, World.drewN_drewN _ _ _⟩ | exact ⟨rfl, _, Eq.trans (World.drewN_drewN _ _ _) (congrArg (World.drewN _) (Nat.add_assoc _ _ _))⟩))); try go_wp2_with (first | ((with_reducible refine gate_dst (N := 25) rfl ?_); (try (refine gate_guard (by rfl) ?_; dsimp only)); refine Kd.R_lit k41 _ 41 ?hg (N := 25) ?hd (xs := ([(⟨0, 1⟩ : S41), (⟨1, 3⟩ : S41), (⟨1, 2⟩ : S41), (⟨2, 3⟩ : S41), (⟨1, 1⟩ : S41)] : List (S41))) (inner := [.int .i64 0, .int .i64 1, .int .i64 1, .int .i64 3, .int .i64 1, .int .i64 2, .int .i64 2, .int .i64 3, .int .i64 1, .int .i64 1]) (ok := fun _ => True) (okp := fun _ => True) ?hr ?hp (fun _ hk => hk) trivial (Below.refl _ _) (Nat.le_refl _) (by simp) ?_; (case hd => rfl); (case hg => rfl); (case hr => first | (go_simp; done) | (go_simp; rfl)); (case hp => exact (Reps.c2 (show Kd.M k41 _ _ _ (⟨0, 1⟩ : S41) [.int .i64 0, .int .i64 1] from (k41_mkM _ _ _ (⟨0, 1⟩ : S41) )) (Reps.c2 (show Kd.M k41 _ _ _ (⟨1, 3⟩ : S41) [.int .i64 1, .int .i64 3] from (k41_mkM _ _ _ (⟨1, 3⟩ : S41) )) (Reps.c2 (show Kd.M k41 _ _ _ (⟨1, 2⟩ : S41) [.int .i64 1, .int .i64 2] from (k41_mkM _ _ _ (⟨1, 2⟩ : S41) )) (Reps.c2 (show Kd.M k41 _ _ _ (⟨2, 3⟩ : S41) [.int .i64 2, .int .i64 3] from (k41_mkM _ _ _ (⟨2, 3⟩ : S41) )) (Reps.c2 (show Kd.M k41 _ _ _ (⟨1, 1⟩ : S41) [.int .i64 1, .int .i64 1] from (k41_mkM _ _ _ (⟨1, 1⟩ : S41) )) (Reps.none _ _))))))); intro v136 w7 ho8 hb hg_ hnew_; clear hg_ hnew_; (first | rw [← Ny135.out] at ho8 | (simp only [Int.reduceToNat] at ho8; rw [← Ny135.out] at ho8)); have n0_ := Aside0.mk (Kd.V_elder' (by (with_reducible repeat (first | apply Kd.V_alloc | apply Kd.V_drewN | apply Kd.V_drew)); exact HO133.out) (Kd.R_base ho8) hb); have n1_ := Aside0.mk (Kd.R_lower ho8 (below_size (by repeat (first | (with_reducible first | exact HB.out | apply below_alloc | apply pw_below_drewN | apply below_drew1) | exact HB.out)))); have n2_ := Aside0.mk (below_step (by repeat (first | (with_reducible first | exact HB.out | apply below_alloc | apply pw_below_drewN | apply below_drew1) | exact HB.out)) hb); clear HO133; clear HB; have HO133 := n0_; have HO137 := n1_; have HB := n2_; clear n0_ n1_ n2_; clear hb ho8; obtain ⟨Ao9, co9, eo9⟩ := Kd.V_slice HO133.out; subst eo9; obtain ⟨Ao10, co10, eo10⟩ := Kd.R_slice HO137.out; subst eo10) | (go_at_call 17; (with_reducible refine (api_Fraction_17.calls k _ _ t131 _ _ y135 t138 _ ?side1 ?side2 ?side3 ?side4 A6.out).mono ?_); (case side1 => repeat (first | exact (Kd.V_reads' HO133.out).2.2 | (with_reducible refine Kd.C_alloc ?_ _) | (with_reducible refine Kd.C_drewN ?_ _) | (with_reducible refine Kd.C_drew ?_))); (case side2 => exact (Kd.V_reads' HO133.out).2.1); (case side3 => repeat (first | exact (Kd.R_reads' HO137.out).2.2 | (with_reducible refine Kd.C_alloc ?_ _) | (with_reducible refine Kd.C_drewN ?_ _) | (with_reducible refine Kd.C_drew ?_))); (case side4 => exact (Kd.R_reads' HO137.out).2.1); rintro e w' ⟨rfl, ⟨nd, rfl⟩⟩; (try first | exact ⟨rfl, _, World.drewN_drewN _ _ _⟩ | exact ⟨rfl, _, Eq.trans (World.drewN_drewN _ _ _) (congrArg (World.drewN _) (Nat.add_assoc _ _ _))⟩))))
      go_meet
      case rel => exact ⟨_, (!t138), (by first | rfl | (simp; done) | (simp [*]; done)), H', ⟨by first | omega | exact Nat.le_refl _⟩, ⟨by repeat (first | (with_reducible first | exact HB.out | apply below_alloc | apply pw_below_drewN | apply below_drew1) | exact HB.out)⟩⟩
    · rw [if_neg c5] at H
      have c5b0 : (t134 == 0) = false := beq_eq_false_iff_ne.mpr c5
      have c5b1 : (t134 != 0) = true := bne_iff_ne.mpr c5
      (first | rw [c5b0] | (simp only [i64_w, i32_w]; rw [c5b0]) | skip)
      have H' := Aside0.mk H
      clear H
      go_wp2
      repeat (go_quiet (fail); try go_wp2)
      go_meet
      case rel => exact ⟨_, (true), (by first | rfl | (simp; done) | (simp [*]; done)), H', ⟨by first | omega | exact Nat.le_refl _⟩, ⟨by repeat (first | (with_reducible first | exact HB.out | apply below_alloc | apply pw_below_drewN | apply below_drew1) | exact HB.out)⟩⟩
  case rest =>
    clear HC3
    try clear c2
    try clear p2
    try clear c4
    try clear c5
    try clear c5b0
    try clear c5b1
    obtain ⟨kq, x28_2, rfl, HA, HJ2, HB⟩ := hcut
    cases kq with
    | zero => exact absurd HA.out (by simp [wholekeep_FracFarey.j0])
    | succ kj2 =>
      have H := HA.out
      clear HA
      simp only [wholekeep_FracFarey.j0] at H
      by_cases c11 : x28_2 = true
      · subst c11
        have H1 : (some false) = some r := by rw [if_pos rfl] at H; exact H
        clear H
        have H := H1
        clear H1
        obtain rfl := Option.some.inj H
        go_wp2
        repeat (go_quiet (fail); try go_wp2)
        go_ret
        exact ⟨by first | rfl | (simp [errW_none, errW_some] <;> rfl) | (simp [*, errW_none, errW_some] <;> rfl), by repeat (first | (with_reducible first | exact HB.out | apply below_alloc | apply pw_below_drewN | apply below_drew1) | exact HB.out)⟩
      · replace c11 := Bool.eq_false_iff.mpr c11
        subst c11
        have H1 : ((wholekeep_Within.f a0 30).bind fun t139 => ((frac_Farey.f kj2 (wrap64 (1 + t139))).bind fun bt140 => (if bt140.2 = 0 then (wholekeep_FracFarey.j1 kj2 (wrap64 (1 + t139)) bt140.1 (decide ((bt140.1.length : Int) < 2))) else (wholekeep_FracFarey.j1 kj2 (wrap64 (1 + t139)) bt140.1 true)))) = some r := by rw [if_neg (show ¬ (false = true) by decide)] at H; exact H
        clear H
        have H := H1
        clear H1
        replace H := Option.bind_eq_some_iff.mp H
        obtain ⟨t139, A120, H⟩ := H
        replace H : ((frac_Farey.f kj2 (wrap64 (1 + t139))).bind fun bt140 => (if bt140.2 = 0 then (wholekeep_FracFarey.j1 kj2 (wrap64 (1 + t139)) bt140.1 (decide ((bt140.1.length : Int) < 2))) else (wholekeep_FracFarey.j1 kj2 (wrap64 (1 + t139)) bt140.1 true))) = some r := H
        have A12 := Aside0.mk A120
        clear A120
        replace H := Option.bind_eq_some_iff.mp H
        obtain ⟨⟨t140, t143⟩, A130, H⟩ := H
        replace H : (if t143 = 0 then (wholekeep_FracFarey.j1 kj2 (wrap64 (1 + t139)) t140 (decide ((t140.length : Int) < 2))) else (wholekeep_FracFarey.j1 kj2 (wrap64 (1 + t139)) t140 true)) = some r := H
        have A13 := Aside0.mk A130
        clear A130
        have HC14 := Aside0.mk H
        clear H
        go_upto_region 6 with (first | (go_at_call 10; (with_reducible refine (wholekeep_Within.calls a0 30 t139 _ A12.out).mono ?_); rintro e w' ⟨rfl, ⟨nd, rfl⟩⟩; (try first | exact ⟨rfl, _, World.drewN_drewN _ _ _⟩ | exact ⟨rfl, _, Eq.trans (World.drewN_drewN _ _ _) (congrArg (World.drewN _) (Nat.add_assoc _ _ _))⟩)) | (go_at_call 16; (with_reducible refine (frac_Farey.calls kj2 (wrap64 (1 + t139)) t140 t143 _ A13.out).mono ?_); rintro e w15 ⟨v141, rfl, ho0, hb⟩; have n0_ := Aside0.mk (Kd.V_lower (Kd.V_mono (ok' := fun k_ => True) ho0 (fun k_ hk_ => trivial)) (below_size (by repeat (first | (with_reducible first | exact HB.out | apply below_alloc | apply pw_below_drewN | apply below_drew1) | exact HB.out)))); have n1_ := Aside0.mk (below_step (by repeat (first | (with_reducible first | exact HB.out | apply below_alloc | apply pw_below_drewN | apply below_drew1) | exact HB.out)) hb); clear HB; have HO142 := n0_; have HB := n1_; clear n0_ n1_; (try clear hb); (try clear hb2); (try clear hk); (try clear hi); (try clear ho0)))
        repeat (go_quiet (first | (go_at_call 10; (with_reducible refine (wholekeep_Within.calls a0 30 t139 _ A12.out).mono ?_); rintro e w' ⟨rfl, ⟨nd, rfl⟩⟩; (try first | exact ⟨rfl, _, World.drewN_drewN _ _ _⟩ | exact ⟨rfl, _, Eq.trans (World.drewN_drewN _ _ _) (congrArg (World.drewN _) (Nat.add_assoc _ _ _))⟩)) | (go_at_call 16; (with_reducible refine (frac_Farey.calls kj2 (wrap64 (1 + t139)) t140 t143 _ A13.out).mono ?_); rintro e w15 ⟨v141, rfl, ho0, hb⟩; have n0_ := Aside0.mk (Kd.V_lower (Kd.V_mono (ok' := fun k_ => True) ho0 (fun k_ hk_ => trivial)) (below_size (by repeat (first | (with_reducible first | exact HB.out | apply below_alloc | apply pw_below_drewN | apply below_drew1) | exact HB.out)))); have n1_ := Aside0.mk (below_step (by repeat (first | (with_reducible first | exact HB.out | apply below_alloc | apply pw_below_drewN | apply below_drew1) | exact HB.out)) hb); clear HB; have HO142 := n0_; have HB := n1_; clear n0_ n1_; (try clear hb); (try clear hb2); (try clear hk); (try clear hi); (try clear ho0))); go_upto_region 6 with (first | (go_at_call 10; (with_reducible refine (wholekeep_Within.calls a0 30 t139 _ A12.out).mono ?_); rintro e w' ⟨rfl, ⟨nd, rfl⟩⟩; (try first | exact ⟨rfl, _, World.drewN_drewN _ _ _⟩ | exact ⟨rfl, _, Eq.trans (World.drewN_drewN _ _ _) (congrArg (World.drewN _) (Nat.add_assoc _ _ _))⟩)) | (go_at_call 16; (with_reducible refine (frac_Farey.calls kj2 (wrap64 (1 + t139)) t140 t143 _ A13.out).mono ?_); rintro e w15 ⟨v141, rfl, ho0, hb⟩; have n0_ := Aside0.mk (Kd.V_lower (Kd.V_mono (ok' := fun k_ => True) ho0 (fun k_ hk_ => trivial)) (below_size (by repeat (first | (with_reducible first | exact HB.out | apply below_alloc | apply pw_below_drewN | apply below_drew1) | exact HB.out)))); have n1_ := Aside0.mk (below_step (by repeat (first | (with_reducible first | exact HB.out | apply below_alloc | apply pw_below_drewN | apply below_drew1) | exact HB.out)) hb); clear HB; have HO142 := n0_; have HB := n1_; clear n0_ n1_; (try clear hb); (try clear hb2); (try clear hk); (try clear hi); (try clear ho0))))
        (try simp only [Act.put, List.setIfInBounds_toArray, List.set_cons_zero, List.set_cons_succ])
        go_cut [43] (fun v43 wc => ∃ (kq : Nat) (x43_13 : Bool), v43 = .bool x43_13 ∧ Aside0 (wholekeep_FracFarey.j1 kq (wrap64 (1 + t139)) t140 x43_13 = some r) ∧ Aside0 (kq ≤ kj2) ∧ Aside0 (Kd.V k41 41 wc w.heap.size (fun _ => True) v141 t140) ∧ Aside0 (Below w.heap.size w wc))
        case first =>
          have H := HC14.out
          clear HC14
          by_cases c16 : t143 = 0
          · rw [if_pos c16] at H
            have c16b0 : (t143 == 0) = true := beq_iff_eq.mpr c16
            have c16b1 : (t143 != 0) = false := bne_eq_false_iff_eq.mpr c16
            clear c16
            (first | rw [c16b0] | (simp only [i64_w, i32_w]; rw [c16b0]) | skip)
            have H' := Aside0.mk H
            clear H
            obtain ⟨Ao17, co17, eo17⟩ := Kd.V_slice HO142.out
            subst eo17
            go_wp2
            repeat (go_quiet (fail); try go_wp2)
            go_meet
            case rel => exact ⟨_, (decide ((t140.length : Int) < 2)), (by first | rfl | (simp; done) | (simp [*]; done)), H', ⟨by have := HJ2.out; first | omega | exact Nat.le_refl _⟩, ⟨by (with_reducible repeat (first | apply Kd.V_alloc | apply Kd.V_drewN | apply Kd.V_drew)); exact HO142.out⟩, ⟨by repeat (first | (with_reducible first | exact HB.out | apply below_alloc | apply pw_below_drewN | apply below_drew1) | exact HB.out)⟩⟩
          · rw [if_neg c16] at H
            have c16b0 : (t143 == 0) = false := beq_eq_false_iff_ne.mpr c16
            have c16b1 : (t143 != 0) = true := bne_iff_ne.mpr c16
            (first | rw [c16b0] | (simp only [i64_w, i32_w]; rw [c16b0]) | skip)
            have H' := Aside0.mk H
            clear H
            go_wp2
            repeat (go_quiet (fail); try go_wp2)
            go_meet
            case rel => exact ⟨_, (true), (by first | rfl | (simp; done) | (simp [*]; done)), H', ⟨by have := HJ2.out; first | omega | exact Nat.le_refl _⟩, ⟨by (with_reducible repeat (first | apply Kd.V_alloc | apply Kd.V_drewN | apply Kd.V_drew)); exact HO142.out⟩, ⟨by repeat (first | (with_reducible first | exact HB.out | apply below_alloc | apply pw_below_drewN | apply below_drew1) | exact HB.out)⟩⟩
        case rest =>
          clear HC14
          try clear c1
          try clear c2
          try clear p2
          try clear c4
          try clear c5
          try clear c5b0
          try clear c5b1
          try clear p6
          try clear c11
          try clear c16
          try clear c16b0
          try clear c16b1
          try clear p2
          obtain ⟨kq, x43_13, rfl, HA, HJ13, HO_5, HB⟩ := hcut
          cases kq with
          | zero => exact absurd HA.out (by simp [wholekeep_FracFarey.j1])
          | succ kj13 =>
            have H := HA.out
            clear HA
            simp only [wholekeep_FracFarey.j1] at H
            by_cases c18 : x43_13 = true
            · subst c18
              have H1 : (some false) = some r := by rw [if_pos rfl] at H; exact H
              clear H
              have H := H1
              clear H1
              obtain rfl := Option.some.inj H
              go_wp2
              repeat (go_quiet (fail); try go_wp2)
              go_ret
              exact ⟨by first | rfl | (simp [errW_none, errW_some] <;> rfl) | (simp [*, errW_none, errW_some] <;> rfl), by repeat (first | (with_reducible first | exact HB.out | apply below_alloc | apply pw_below_drewN | apply below_drew1) | exact HB.out)⟩
            · replace c18 := Bool.eq_false_iff.mpr c18
              subst c18
              have H1 : (wholekeep_FracFarey.l0 kj13 (wrap64 (1 + t139)) t140 1) = some r := by rw [if_neg (show ¬ (false = true) by decide)] at H; exact H
              clear H
              have H := H1
              clear H1
              have H' := Aside0.mk H
              clear H
              go_wp2
              repeat (go_quiet (fail); try go_wp2)
              go_loopg [7] kj13 (fun kq v7 w' => ∃ (x7_3 : Int), v7 = .int .i64 x7_3 ∧ Aside0 (wholekeep_FracFarey.l0 kq (wrap64 (1 + t139)) t140 x7_3 = some r) ∧ Aside0 (kq ≤ kj13) ∧ Aside0 (Kd.V k41 41 w' w.heap.size (fun _ => True) v141 t140) ∧ Aside0 (Below w.heap.size w w'))
              case atStart => exact ⟨(1), (by first | rfl | (simp; done) | (simp [*]; done)), H', ⟨Nat.le_refl _⟩, ⟨by (with_reducible repeat (first | apply Kd.V_alloc | apply Kd.V_drewN | apply Kd.V_drew)); exact HO_5.out⟩, ⟨by repeat (first | (with_reducible first | exact HB.out | apply below_alloc | apply pw_below_drewN | apply below_drew1) | exact HB.out)⟩⟩
              case round =>
                clear H'
                try clear c1
                try clear c2
                try clear p2
                try clear c4
                try clear c5
                try clear c5b0
                try clear c5b1
                try clear p6
                try clear c11
                try clear c16
                try clear c16b0
                try clear c16b1
                try clear c18
                try clear p2
                try clear p6
                obtain ⟨x7_3, rfl, HA, HK3, HO_5, HB⟩ := hrel
                cases gk with
                | zero => exact absurd HA.out (by simp [wholekeep_FracFarey.l0])
                | succ k3 =>
                  have H := HA.out
                  clear HA
                  simp only [wholekeep_FracFarey.l0] at H
                  by_cases c19 : x7_3 < (t140.length : Int)
                  · rw [if_pos c19] at H
                    have c19b0 : decide (x7_3 < (t140.length : Int)) = true := decide_eq_true c19
                    clear c19
                    by_cases c20 : 0 ≤ x7_3
                    · rw [if_pos c20] at H
                      have c20b0 : decide (0 ≤ x7_3) = true := decide_eq_true c20
                      clear c20
                      obtain ⟨ji21, hji21⟩ : ∃ j_ : Int, (wrap64 (x7_3 - 1)) = j_ := ⟨_, rfl⟩
                      replace H : (if 0 ≤ (ji21) then (if (ji21) < (t140.length : Int) then (if (wrap64 ((wrap64 (((rd_T41 t140 x7_3).f0) * ((rd_T41 t140 (ji21)).f1))) - (wrap64 (((rd_T41 t140 (ji21)).f0) * ((rd_T41 t140 x7_3).f1))))) = 1 then (if x7_3 > 1 then (if 0 ≤ (wrap64 (x7_3 - 2)) then (if (wrap64 (x7_3 - 2)) < (t140.length : Int) then (if (wrap64 ((wrap64 (((rd_T41 t140 (wrap64 (x7_3 - 2))).f0) + ((rd_T41 t140 x7_3).f0))) * ((rd_T41 t140 (ji21)).f1))) = (wrap64 ((wrap64 (((rd_T41 t140 (wrap64 (x7_3 - 2))).f1) + ((rd_T41 t140 x7_3).f1))) * ((rd_T41 t140 (ji21)).f0))) then (wholekeep_FracFarey.l0 k3 (wrap64 (1 + t139)) t140 (wrap64 (x7_3 + 1))) else (some false)) else (none)) else (none)) else (wholekeep_FracFarey.l0 k3 (wrap64 (1 + t139)) t140 (wrap64 (x7_3 + 1)))) else (some false)) else (none)) else (none)) = some r := by first | (rw [hji21] at H; exact H) | (simp only [hji21] at H ⊢; exact H)
                      have hji21w : (IntKind.i64.wrap (x7_3 - 1)) = ji21 := (i64_w _).trans hji21
                      by_cases c22 : 0 ≤ (ji21)
                      · rw [if_pos c22] at H
                        have c22b0 : decide (0 ≤ (ji21)) = true := decide_eq_true c22
                        clear c22
                        by_cases c23 : (ji21) < (t140.length : Int)
                        · rw [if_pos c23] at H
                          have c23b0 : decide ((ji21) < (t140.length : Int)) = true := decide_eq_true c23
                          clear c23
                          by_cases c24 : (wrap64 ((wrap64 (((rd_T41 t140 x7_3).f0) * ((rd_T41 t140 (ji21)).f1))) - (wrap64 (((rd_T41 t140 (ji21)).f0) * ((rd_T41 t140 x7_3).f1))))) = 1
                          · rw [if_pos c24] at H
                            have c24b0 : ((wrap64 ((wrap64 (((rd_T41 t140 x7_3).f0) * ((rd_T41 t140 (ji21)).f1))) - (wrap64 (((rd_T41 t140 (ji21)).f0) * ((rd_T41 t140 x7_3).f1))))) == 1) = true := beq_iff_eq.mpr c24
                            have c24b1 : ((wrap64 ((wrap64 (((rd_T41 t140 x7_3).f0) * ((rd_T41 t140 (ji21)).f1))) - (wrap64 (((rd_T41 t140 (ji21)).f0) * ((rd_T41 t140 x7_3).f1))))) != 1) = false := bne_eq_false_iff_eq.mpr c24
                            clear c24
                            by_cases c25 : x7_3 > 1
                            · rw [if_pos c25] at H
                              have c25b0 : decide (1 < x7_3) = true := decide_eq_true c25
                              clear c25
                              obtain ⟨ji26, hji26⟩ : ∃ j_ : Int, (wrap64 (x7_3 - 2)) = j_ := ⟨_, rfl⟩
                              replace H : (if 0 ≤ (ji26) then (if (ji26) < (t140.length : Int) then (if (wrap64 ((wrap64 (((rd_T41 t140 (ji26)).f0) + ((rd_T41 t140 x7_3).f0))) * ((rd_T41 t140 (ji21)).f1))) = (wrap64 ((wrap64 (((rd_T41 t140 (ji26)).f1) + ((rd_T41 t140 x7_3).f1))) * ((rd_T41 t140 (ji21)).f0))) then (wholekeep_FracFarey.l0 k3 (wrap64 (1 + t139)) t140 (wrap64 (x7_3 + 1))) else (some false)) else (none)) else (none)) = some r := by first | (rw [hji26] at H; exact H) | (simp only [hji26] at H ⊢; exact H)
                              have hji26w : (IntKind.i64.wrap (x7_3 - 2)) = ji26 := (i64_w _).trans hji26
                              by_cases c27 : 0 ≤ (ji26)
                              · rw [if_pos c27] at H
                                have c27b0 : decide (0 ≤ (ji26)) = true := decide_eq_true c27
                                clear c27
                                by_cases c28 : (ji26) < (t140.length : Int)
                                · rw [if_pos c28] at H
                                  have c28b0 : decide ((ji26) < (t140.length : Int)) = true := decide_eq_true c28
                                  clear c28
                                  by_cases c29 : (wrap64 ((wrap64 (((rd_T41 t140 (ji26)).f0) + ((rd_T41 t140 x7_3).f0))) * ((rd_T41 t140 (ji21)).f1))) = (wrap64 ((wrap64 (((rd_T41 t140 (ji26)).f1) + ((rd_T41 t140 x7_3).f1))) * ((rd_T41 t140 (ji21)).f0)))
                                  · rw [if_pos c29] at H
                                    have c29b0 : ((wrap64 ((wrap64 (((rd_T41 t140 (ji26)).f0) + ((rd_T41 t140 x7_3).f0))) * ((rd_T41 t140 (ji21)).f1))) == (wrap64 ((wrap64 (((rd_T41 t140 (ji26)).f1) + ((rd_T41 t140 x7_3).f1))) * ((rd_T41 t140 (ji21)).f0)))) = true := beq_iff_eq.mpr c29
                                    have c29b1 : ((wrap64 ((wrap64 (((rd_T41 t140 (ji26)).f0) + ((rd_T41 t140 x7_3).f0))) * ((rd_T41 t140 (ji21)).f1))) != (wrap64 ((wrap64 (((rd_T41 t140 (ji26)).f1) + ((rd_T41 t140 x7_3).f1))) * ((rd_T41 t140 (ji21)).f0)))) = false := bne_eq_false_iff_eq.mpr c29
                                    clear c29
                                    have H' := Aside0.mk H
                                    clear H
                                    obtain ⟨Ao30, co30, eo30⟩ := Kd.V_slice HO_5.out
                                    subst eo30
                                    have p144 : 0 ≤ (x7_3 : Int) := of_decide_eq_true (by first | (with_reducible assumption) | assumption)
                                    have q144 : x7_3 < (t140.length : Int) := of_decide_eq_true (by first | (with_reducible assumption) | assumption)
                                    obtain ⟨ad144, e144, hx144_0, hx144_1⟩ := at_T41 (Kd.V_reads' HO_5.out).2.2 x7_3 p144 q144
                                    cases e144
                                    replace p144 := eq_true p144
                                    replace q144 := eq_true q144
                                    have p145 : 0 ≤ ((ji21) : Int) := of_decide_eq_true (by first | (with_reducible assumption) | assumption)
                                    have q145 : (ji21) < (t140.length : Int) := of_decide_eq_true (by first | (with_reducible assumption) | assumption)
                                    obtain ⟨ad145, e145, hx145_0, hx145_1⟩ := at_T41 (Kd.V_reads' HO_5.out).2.2 (ji21) p145 q145
                                    obtain rfl : ad144 = ad145 := (by injection e145)
                                    replace p145 := eq_true p145
                                    replace q145 := eq_true q145
                                    have p146 : 0 ≤ ((ji21) : Int) := of_decide_eq_true (by first | (with_reducible assumption) | assumption)
                                    have q146 : (ji21) < (t140.length : Int) := of_decide_eq_true (by first | (with_reducible assumption) | assumption)
                                    obtain ⟨ad146, e146, hx146_0, hx146_1⟩ := at_T41 (Kd.V_reads' HO_5.out).2.2 (ji21) p146 q146
                                    obtain rfl : ad144 = ad146 := (by injection e146)
                                    replace p146 := eq_true p146
                                    replace q146 := eq_true q146
                                    have p147 : 0 ≤ (x7_3 : Int) := of_decide_eq_true (by first | (with_reducible assumption) | assumption)
                                    have q147 : x7_3 < (t140.length : Int) := of_decide_eq_true (by first | (with_reducible assumption) | assumption)
                                    obtain ⟨ad147, e147, hx147_0, hx147_1⟩ := at_T41 (Kd.V_reads' HO_5.out).2.2 x7_3 p147 q147
                                    obtain rfl : ad144 = ad147 := (by injection e147)
                                    replace p147 := eq_true p147
                                    replace q147 := eq_true q147
                                    have p148 : 0 ≤ ((ji26) : Int) := of_decide_eq_true (by first | (with_reducible assumption) | assumption)
                                    have q148 : (ji26) < (t140.length : Int) := of_decide_eq_true (by first | (with_reducible assumption) | assumption)
                                    obtain ⟨ad148, e148, hx148_0, hx148_1⟩ := at_T41 (Kd.V_reads' HO_5.out).2.2 (ji26) p148 q148
                                    obtain rfl : ad144 = ad148 := (by injection e148)
                                    replace p148 := eq_true p148
                                    replace q148 := eq_true q148
                                    have p149 : 0 ≤ (x7_3 : Int) := of_decide_eq_true (by first | (with_reducible assumption) | assumption)
                                    have q149 : x7_3 < (t140.length : Int) := of_decide_eq_true (by first | (with_reducible assumption) | assumption)
                                    obtain ⟨ad149, e149, hx149_0, hx149_1⟩ := at_T41 (Kd.V_reads' HO_5.out).2.2 x7_3 p149 q149
                                    obtain rfl : ad144 = ad149 := (by injection e149)
                                    replace p149 := eq_true p149
                                    replace q149 := eq_true q149
                                    have p150 : 0 ≤ ((ji21) : Int) := of_decide_eq_true (by first | (with_reducible assumption) | assumption)
                                    have q150 : (ji21) < (t140.length : Int) := of_decide_eq_true (by first | (with_reducible assumption) | assumption)
                                    obtain ⟨ad150, e150, hx150_0, hx150_1⟩ := at_T41 (Kd.V_reads' HO_5.out).2.2 (ji21) p150 q150
                                    obtain rfl : ad144 = ad150 := (by injection e150)
                                    replace p150 := eq_true p150
                                    replace q150 := eq_true q150
                                    have p151 : 0 ≤ ((ji26) : Int) := of_decide_eq_true (by first | (with_reducible assumption) | assumption)
                                    have q151 : (ji26) < (t140.length : Int) := of_decide_eq_true (by first | (with_reducible assumption) | assumption)
                                    obtain ⟨ad151, e151, hx151_0, hx151_1⟩ := at_T41 (Kd.V_reads' HO_5.out).2.2 (ji26) p151 q151
                                    obtain rfl : ad144 = ad151 := (by injection e151)
                                    replace p151 := eq_true p151
                                    replace q151 := eq_true q151
                                    have p152 : 0 ≤ (x7_3 : Int) := of_decide_eq_true (by first | (with_reducible assumption) | assumption)
                                    have q152 : x7_3 < (t140.length : Int) := of_decide_eq_true (by first | (with_reducible assumption) | assumption)
                                    obtain ⟨ad152, e152, hx152_0, hx152_1⟩ := at_T41 (Kd.V_reads' HO_5.out).2.2 x7_3 p152 q152
                                    obtain rfl : ad144 = ad152 := (by injection e152)
                                    replace p152 := eq_true p152
                                    replace q152 := eq_true q152
                                    have p153 : 0 ≤ ((ji21) : Int) := of_decide_eq_true (by first | (with_reducible assumption) | assumption)
                                    have q153 : (ji21) < (t140.length : Int) := of_decide_eq_true (by first | (with_reducible assumption) | assumption)
                                    obtain ⟨ad153, e153, hx153_0, hx153_1⟩ := at_T41 (Kd.V_reads' HO_5.out).2.2 (ji21) p153 q153
                                    obtain rfl : ad144 = ad153 := (by injection e153)
                                    replace p153 := eq_true p153
                                    replace q153 := eq_true q153
                                    go_wp2
                                    repeat (go_quiet (fail); try go_wp2)
                                    go_roundg k3
                                    case measure => have := HJ2.out; have := HJ13.out; have := HK3.out; omega
                                    case rel => exact ⟨(wrap64 (x7_3 + 1)), (by first | rfl | (simp; done) | (simp [*]; done)), H', ⟨by have := HJ2.out; have := HJ13.out; have := HK3.out; omega⟩, ⟨by (with_reducible repeat (first | apply Kd.V_alloc | apply Kd.V_drewN | apply Kd.V_drew)); exact HO_5.out⟩, ⟨by repeat (first | (with_reducible first | exact HB.out | apply below_alloc | apply pw_below_drewN | apply below_drew1) | exact HB.out)⟩⟩
                                  · rw [if_neg c29] at H
                                    have c29b0 : ((wrap64 ((wrap64 (((rd_T41 t140 (ji26)).f0) + ((rd_T41 t140 x7_3).f0))) * ((rd_T41 t140 (ji21)).f1))) == (wrap64 ((wrap64 (((rd_T41 t140 (ji26)).f1) + ((rd_T41 t140 x7_3).f1))) * ((rd_T41 t140 (ji21)).f0)))) = false := beq_eq_false_iff_ne.mpr c29
                                    have c29b1 : ((wrap64 ((wrap64 (((rd_T41 t140 (ji26)).f0) + ((rd_T41 t140 x7_3).f0))) * ((rd_T41 t140 (ji21)).f1))) != (wrap64 ((wrap64 (((rd_T41 t140 (ji26)).f1) + ((rd_T41 t140 x7_3).f1))) * ((rd_T41 t140 (ji21)).f0)))) = true := bne_iff_ne.mpr c29
                                    obtain rfl := Option.some.inj H
                                    obtain ⟨Ao31, co31, eo31⟩ := Kd.V_slice HO_5.out
                                    subst eo31
                                    have p144 : 0 ≤ (x7_3 : Int) := of_decide_eq_true (by first | (with_reducible assumption) | assumption)
                                    have q144 : x7_3 < (t140.length : Int) := of_decide_eq_true (by first | (with_reducible assumption) | assumption)
                                    obtain ⟨ad144, e144, hx144_0, hx144_1⟩ := at_T41 (Kd.V_reads' HO_5.out).2.2 x7_3 p144 q144
                                    cases e144
                                    replace p144 := eq_true p144
                                    replace q144 := eq_true q144
                                    have p145 : 0 ≤ ((ji21) : Int) := of_decide_eq_true (by first | (with_reducible assumption) | assumption)
                                    have q145 : (ji21) < (t140.length : Int) := of_decide_eq_true (by first | (with_reducible assumption) | assumption)
                                    obtain ⟨ad145, e145, hx145_0, hx145_1⟩ := at_T41 (Kd.V_reads' HO_5.out).2.2 (ji21) p145 q145
                                    obtain rfl : ad144 = ad145 := (by injection e145)
                                    replace p145 := eq_true p145
                                    replace q145 := eq_true q145
                                    have p146 : 0 ≤ ((ji21) : Int) := of_decide_eq_true (by first | (with_reducible assumption) | assumption)
                                    have q146 : (ji21) < (t140.length : Int) := of_decide_eq_true (by first | (with_reducible assumption) | assumption)
                                    obtain ⟨ad146, e146, hx146_0, hx146_1⟩ := at_T41 (Kd.V_reads' HO_5.out).2.2 (ji21) p146 q146
                                    obtain rfl : ad144 = ad146 := (by injection e146)
                                    replace p146 := eq_true p146
                                    replace q146 := eq_true q146
                                    have p147 : 0 ≤ (x7_3 : Int) := of_decide_eq_true (by first | (with_reducible assumption) | assumption)
                                    have q147 : x7_3 < (t140.length : Int) := of_decide_eq_true (by first | (with_reducible assumption) | assumption)
                                    obtain ⟨ad147, e147, hx147_0, hx147_1⟩ := at_T41 (Kd.V_reads' HO_5.out).2.2 x7_3 p147 q147
                                    obtain rfl : ad144 = ad147 := (by injection e147)
                                    replace p147 := eq_true p147
                                    replace q147 := eq_true q147
                                    have p148 : 0 ≤ ((ji26) : Int) := of_decide_eq_true (by first | (with_reducible assumption) | assumption)
                                    have q148 : (ji26) < (t140.length : Int) := of_decide_eq_true (by first | (with_reducible assumption) | assumption)
                                    obtain ⟨ad148, e148, hx148_0, hx148_1⟩ := at_T41 (Kd.V_reads' HO_5.out).2.2 (ji26) p148 q148
                                    obtain rfl : ad144 = ad148 := (by injection e148)
                                    replace p148 := eq_true p148
                                    replace q148 := eq_true q148
                                    have p149 : 0 ≤ (x7_3 : Int) := of_decide_eq_true (by first | (with_reducible assumption) | assumption)
                                    have q149 : x7_3 < (t140.length : Int) := of_decide_eq_true (by first | (with_reducible assumption) | assumption)
                                    obtain ⟨ad149, e149, hx149_0, hx149_1⟩ := at_T41 (Kd.V_reads' HO_5.out).2.2 x7_3 p149 q149
                                    obtain rfl : ad144 = ad149 := (by injection e149)
                                    replace p149 := eq_true p149
                                    replace q149 := eq_true q149
                                    have p150 : 0 ≤ ((ji21) : Int) := of_decide_eq_true (by first | (with_reducible assumption) | assumption)
                                    have q150 : (ji21) < (t140.length : Int) := of_decide_eq_true (by first | (with_reducible assumption) | assumption)
                                    obtain ⟨ad150, e150, hx150_0, hx150_1⟩ := at_T41 (Kd.V_reads' HO_5.out).2.2 (ji21) p150 q150
                                    obtain rfl : ad144 = ad150 := (by injection e150)
                                    replace p150 := eq_true p150
                                    replace q150 := eq_true q150
                                    have p151 : 0 ≤ ((ji26) : Int) := of_decide_eq_true (by first | (with_reducible assumption) | assumption)
                                    have q151 : (ji26) < (t140.length : Int) := of_decide_eq_true (by first | (with_reducible assumption) | assumption)
                                    obtain ⟨ad151, e151, hx151_0, hx151_1⟩ := at_T41 (Kd.V_reads' HO_5.out).2.2 (ji26) p151 q151
                                    obtain rfl : ad144 = ad151 := (by injection e151)
                                    replace p151 := eq_true p151
                                    replace q151 := eq_true q151
                                    have p152 : 0 ≤ (x7_3 : Int) := of_decide_eq_true (by first | (with_reducible assumption) | assumption)
                                    have q152 : x7_3 < (t140.length : Int) := of_decide_eq_true (by first | (with_reducible assumption) | assumption)
                                    obtain ⟨ad152, e152, hx152_0, hx152_1⟩ := at_T41 (Kd.V_reads' HO_5.out).2.2 x7_3 p152 q152
                                    obtain rfl : ad144 = ad152 := (by injection e152)
                                    replace p152 := eq_true p152
                                    replace q152 := eq_true q152
                                    have p153 : 0 ≤ ((ji21) : Int) := of_decide_eq_true (by first | (with_reducible assumption) | assumption)
                                    have q153 : (ji21) < (t140.length : Int) := of_decide_eq_true (by first | (with_reducible assumption) | assumption)
                                    obtain ⟨ad153, e153, hx153_0, hx153_1⟩ := at_T41 (Kd.V_reads' HO_5.out).2.2 (ji21) p153 q153
                                    obtain rfl : ad144 = ad153 := (by injection e153)
                                    replace p153 := eq_true p153
                                    replace q153 := eq_true q153
                                    go_wp2
                                    repeat (go_quiet (fail); try go_wp2)
                                    go_ret
                                    exact ⟨by first | rfl | (simp [errW_none, errW_some] <;> rfl) | (simp only [← hji21, ← hji26]; first | rfl | (simp [errW_none, errW_some] <;> rfl)) | (simp [*, errW_none, errW_some] <;> rfl), by repeat (first | (with_reducible first | exact HB.out | apply below_alloc | apply pw_below_drewN | apply below_drew1) | exact HB.out)⟩
                                · rw [if_neg c28] at H
                                  exact absurd H (by simp)
                              · rw [if_neg c27] at H
                                exact absurd H (by simp)
                            · rw [if_neg c25] at H
                              have c25b0 : decide (1 < x7_3) = false := decide_eq_false c25
                              clear c25
                              have H' := Aside0.mk H
                              clear H
                              obtain ⟨Ao32, co32, eo32⟩ := Kd.V_slice HO_5.out
                              subst eo32
                              have p144 : 0 ≤ (x7_3 : Int) := of_decide_eq_true (by first | (with_reducible assumption) | assumption)
                              have q144 : x7_3 < (t140.length : Int) := of_decide_eq_true (by first | (with_reducible assumption) | assumption)
                              obtain ⟨ad144, e144, hx144_0, hx144_1⟩ := at_T41 (Kd.V_reads' HO_5.out).2.2 x7_3 p144 q144
                              cases e144
                              replace p144 := eq_true p144
                              replace q144 := eq_true q144
                              have p145 : 0 ≤ ((ji21) : Int) := of_decide_eq_true (by first | (with_reducible assumption) | assumption)
                              have q145 : (ji21) < (t140.length : Int) := of_decide_eq_true (by first | (with_reducible assumption) | assumption)
                              obtain ⟨ad145, e145, hx145_0, hx145_1⟩ := at_T41 (Kd.V_reads' HO_5.out).2.2 (ji21) p145 q145
                              obtain rfl : ad144 = ad145 := (by injection e145)
                              replace p145 := eq_true p145
                              replace q145 := eq_true q145
                              have p146 : 0 ≤ ((ji21) : Int) := of_decide_eq_true (by first | (with_reducible assumption) | assumption)
                              have q146 : (ji21) < (t140.length : Int) := of_decide_eq_true (by first | (with_reducible assumption) | assumption)
                              obtain ⟨ad146, e146, hx146_0, hx146_1⟩ := at_T41 (Kd.V_reads' HO_5.out).2.2 (ji21) p146 q146
                              obtain rfl : ad144 = ad146 := (by injection e146)
                              replace p146 := eq_true p146
                              replace q146 := eq_true q146
                              have p147 : 0 ≤ (x7_3 : Int) := of_decide_eq_true (by first | (with_reducible assumption) | assumption)
                              have q147 : x7_3 < (t140.length : Int) := of_decide_eq_true (by first | (with_reducible assumption) | assumption)
                              obtain ⟨ad147, e147, hx147_0, hx147_1⟩ := at_T41 (Kd.V_reads' HO_5.out).2.2 x7_3 p147 q147
                              obtain rfl : ad144 = ad147 := (by injection e147)
                              replace p147 := eq_true p147
                              replace q147 := eq_true q147
                              go_wp2
                              repeat (go_quiet (fail); try go_wp2)
                              go_roundg k3
                              case measure => have := HJ2.out; have := HJ13.out; have := HK3.out; omega
                              case rel => exact ⟨(wrap64 (x7_3 + 1)), (by first | rfl | (simp; done) | (simp [*]; done)), H', ⟨by have := HJ2.out; have := HJ13.out; have := HK3.out; omega⟩, ⟨by (with_reducible repeat (first | apply Kd.V_alloc | apply Kd.V_drewN | apply Kd.V_drew)); exact HO_5.out⟩, ⟨by repeat (first | (with_reducible first | exact HB.out | apply below_alloc | apply pw_below_drewN | apply below_drew1) | exact HB.out)⟩⟩
                          · rw [if_neg c24] at H
                            have c24b0 : ((wrap64 ((wrap64 (((rd_T41 t140 x7_3).f0) * ((rd_T41 t140 (ji21)).f1))) - (wrap64 (((rd_T41 t140 (ji21)).f0) * ((rd_T41 t140 x7_3).f1))))) == 1) = false := beq_eq_false_iff_ne.mpr c24
                            have c24b1 : ((wrap64 ((wrap64 (((rd_T41 t140 x7_3).f0) * ((rd_T41 t140 (ji21)).f1))) - (wrap64 (((rd_T41 t140 (ji21)).f0) * ((rd_T41 t140 x7_3).f1))))) != 1) = true := bne_iff_ne.mpr c24
                            obtain rfl := Option.some.inj H
                            obtain ⟨Ao33, co33, eo33⟩ := Kd.V_slice HO_5.out
                            subst eo33
                            have p144 : 0 ≤ (x7_3 : Int) := of_decide_eq_true (by first | (with_reducible assumption) | assumption)
                            have q144 : x7_3 < (t140.length : Int) := of_decide_eq_true (by first | (with_reducible assumption) | assumption)
                            obtain ⟨ad144, e144, hx144_0, hx144_1⟩ := at_T41 (Kd.V_reads' HO_5.out).2.2 x7_3 p144 q144
                            cases e144
                            replace p144 := eq_true p144
                            replace q144 := eq_true q144
                            have p145 : 0 ≤ ((ji21) : Int) := of_decide_eq_true (by first | (with_reducible assumption) | assumption)
                            have q145 : (ji21) < (t140.length : Int) := of_decide_eq_true (by first | (with_reducible assumption) | assumption)
                            obtain ⟨ad145, e145, hx145_0, hx145_1⟩ := at_T41 (Kd.V_reads' HO_5.out).2.2 (ji21) p145 q145
                            obtain rfl : ad144 = ad145 := (by injection e145)
                            replace p145 := eq_true p145
                            replace q145 := eq_true q145
                            have p146 : 0 ≤ ((ji21) : Int) := of_decide_eq_true (by first | (with_reducible assumption) | assumption)
                            have q146 : (ji21) < (t140.length : Int) := of_decide_eq_true (by first | (with_reducible assumption) | assumption)
                            obtain ⟨ad146, e146, hx146_0, hx146_1⟩ := at_T41 (Kd.V_reads' HO_5.out).2.2 (ji21) p146 q146
                            obtain rfl : ad144 = ad146 := (by injection e146)
                            replace p146 := eq_true p146
                            replace q146 := eq_true q146
                            have p147 : 0 ≤ (x7_3 : Int) := of_decide_eq_true (by first | (with_reducible assumption) | assumption)
                            have q147 : x7_3 < (t140.length : Int) := of_decide_eq_true (by first | (with_reducible assumption) | assumption)
                            obtain ⟨ad147, e147, hx147_0, hx147_1⟩ := at_T41 (Kd.V_reads' HO_5.out).2.2 x7_3 p147 q147
                            obtain rfl : ad144 = ad147 := (by injection e147)
                            replace p147 := eq_true p147
                            replace q147 := eq_true q147
                            go_wp2
                            repeat (go_quiet (fail); try go_wp2)
                            go_ret
                            exact ⟨by first | rfl | (simp [errW_none, errW_some] <;> rfl) | (simp only [← hji21]; first | rfl | (simp [errW_none, errW_some] <;> rfl)) | (simp [*, errW_none, errW_some] <;> rfl), by repeat (first | (with_reducible first | exact HB.out | apply below_alloc | apply pw_below_drewN | apply below_drew1) | exact HB.out)⟩
                        · rw [if_neg c23] at H
                          exact absurd H (by simp)
                      · rw [if_neg c22] at H
                        exact absurd H (by simp)
                    · rw [if_neg c20] at H
                      exact absurd H (by simp)
                  · rw [if_neg c19] at H
                    have c19b0 : decide (x7_3 < (t140.length : Int)) = false := decide_eq_false c19
                    clear c19
                    have H' := Aside0.mk H
                    clear H
                    obtain ⟨Ao34, co34, eo34⟩ := Kd.V_slice HO_5.out
                    subst eo34
                    go_wp2
                    repeat (go_quiet (fail); try go_wp2)
                    go_loopg [8, 9] k3 (fun kq v8 v9 w' => ∃ (x8_4 : Int) (x9_4 : Int), v8 = .int .i64 x8_4 ∧ v9 = .int .i64 x9_4 ∧ Aside0 (wholekeep_FracFarey.l1 kq (wrap64 (1 + t139)) t140 x8_4 x9_4 = some r) ∧ Aside0 (kq ≤ k3) ∧ Aside0 (Kd.V k41 41 w' w.heap.size (fun _ => True) (.slice Ao34 t140.length co34) t140) ∧ Aside0 (Below w.heap.size w w'))
                    case atStart => exact ⟨(1), (1), (by first | rfl | (simp; done) | (simp [*]; done)), (by first | rfl | (simp; done) | (simp [*]; done)), H', ⟨Nat.le_refl _⟩, ⟨by (with_reducible repeat (first | apply Kd.V_alloc | apply Kd.V_drewN | apply Kd.V_drew)); exact HO_5.out⟩, ⟨by repeat (first | (with_reducible first | exact HB.out | apply below_alloc | apply pw_below_drewN | apply below_drew1) | exact HB.out)⟩⟩
                    case round =>
                      clear H'
                      try clear c1
                      try clear p1
                      try clear q1
                      try clear hx1
                      try clear c2
                      try clear p2
                      try clear c4
                      try clear c5
                      try clear c5b0
                      try clear c5b1
                      try clear p6
                      try clear c11
                      try clear p14
                      try clear q14
                      try clear hx14
                      try clear p15
                      try clear q15
                      try clear hx15
                      try clear c16
                      try clear c16b0
                      try clear c16b1
                      try clear c18
                      try clear c19
                      try clear c19b0
                      try clear c20
                      try clear c20b0
                      try clear c22
                      try clear c22b0
                      try clear c23
                      try clear c23b0
                      try clear c24
                      try clear c24b0
                      try clear c24b1
                      try clear c25
                      try clear c25b0
                      try clear c27
                      try clear c27b0
                      try clear c28
                      try clear c28b0
                      try clear c29
                      try clear c29b0
                      try clear c29b1
                      try clear hx144_0
                      try clear hx144_1
                      try clear hx145_0
                      try clear hx145_1
                      try clear hx146_0
                      try clear hx146_1
                      try clear hx147_0
                      try clear hx147_1
                      try clear hx148_0
                      try clear hx148_1
                      try clear hx149_0
                      try clear hx149_1
                      try clear hx150_0
                      try clear hx150_1
                      try clear hx151_0
                      try clear hx151_1
                      try clear hx152_0
                      try clear hx152_1
                      try clear hx153_0
                      try clear hx153_1
                      try clear p144
                      try clear p145
                      try clear p146
                      try clear p147
                      try clear p148
                      try clear p149
                      try clear p150
                      try clear p151
                      try clear p152
                      try clear p153
                      try clear p2
                      try clear p6
                      try clear q144
                      try clear q145
                      try clear q146
                      try clear q147
                      try clear q148
                      try clear q149
                      try clear q150
                      try clear q151
                      try clear q152
                      try clear q153
                      obtain ⟨x8_4, x9_4, rfl, rfl, HA, HK4, HO_5, HB⟩ := hrel
                      cases gk with
                      | zero => exact absurd HA.out (by simp [wholekeep_FracFarey.l1])
                      | succ k4 =>
                        have H := HA.out
                        clear HA
                        simp only [wholekeep_FracFarey.l1] at H
                        by_cases c35 : x9_4 ≤ (wrap64 (1 + t139))
                        · rw [if_pos c35] at H
                          have c35b0 : decide (x9_4 ≤ (wrap64 (1 + t139))) = true := decide_eq_true c35
                          clear c35
                          replace H := Option.bind_eq_some_iff.mp H
                          obtain ⟨⟨t154, t155⟩, A360, H⟩ := H
                          replace H : (if t155 = 0 then (wholekeep_FracFarey.l1 k4 (wrap64 (1 + t139)) t140 (wrap64 (x8_4 + t154)) (wrap64 (x9_4 + 1))) else (some false)) = some r := H
                          have A36 := Aside0.mk A360
                          clear A360
                          by_cases c37 : t155 = 0
                          · rw [if_pos c37] at H
                            have c37b0 : (t155 == 0) = true := beq_iff_eq.mpr c37
                            have c37b1 : (t155 != 0) = false := bne_eq_false_iff_eq.mpr c37
                            clear c37
                            have H' := Aside0.mk H
                            clear H
                            go_wp2_with (first | (go_at_call 18; (with_reducible refine (divide_Phi.calls k4 x9_4 t154 t155 _ A36.out).mono ?_); rintro e w38 ⟨rfl, hb⟩; have n0_ := Aside0.mk (Kd.V_below (by (with_reducible repeat (first | apply Kd.V_alloc | apply Kd.V_drewN | apply Kd.V_drew)); exact HO_5.out) hb); have n1_ := Aside0.mk (below_step (by repeat (first | (with_reducible first | exact HB.out | apply below_alloc | apply pw_below_drewN | apply below_drew1) | exact HB.out)) hb); clear HO_5; clear HB; have HO_5 := n0_; have HB := n1_; clear n0_ n1_; (try clear hb); (try clear hb2); (try clear hk); (try clear hi)))
                            repeat (go_quiet (first | (go_at_call 18; (with_reducible refine (divide_Phi.calls k4 x9_4 t154 t155 _ A36.out).mono ?_); rintro e w38 ⟨rfl, hb⟩; have n0_ := Aside0.mk (Kd.V_below (by (with_reducible repeat (first | apply Kd.V_alloc | apply Kd.V_drewN | apply Kd.V_drew)); exact HO_5.out) hb); have n1_ := Aside0.mk (below_step (by repeat (first | (with_reducible first | exact HB.out | apply below_alloc | apply pw_below_drewN | apply below_drew1) | exact HB.out)) hb); clear HO_5; clear HB; have HO_5 := n0_; have HB := n1_; clear n0_ n1_; (try clear hb); (try clear hb2); (try clear hk); (try clear hi))); try go_wp2_with (first | (go_at_call 18; (with_reducible refine (divide_Phi.calls k4 x9_4 t154 t155 _ A36.out).mono ?_); rintro e w38 ⟨rfl, hb⟩; have n0_ := Aside0.mk (Kd.V_below (by (with_reducible repeat (first | apply Kd.V_alloc | apply Kd.V_drewN | apply Kd.V_drew)); exact HO_5.out) hb); have n1_ := Aside0.mk (below_step (by repeat (first | (with_reducible first | exact HB.out | apply below_alloc | apply pw_below_drewN | apply below_drew1) | exact HB.out)) hb); clear HO_5; clear HB; have HO_5 := n0_; have HB := n1_; clear n0_ n1_; (try clear hb); (try clear hb2); (try clear hk); (try clear hi))))
                            go_roundg k4
                            case measure => have := HJ2.out; have := HJ13.out; have := HK3.out; have := HK4.out; omega
                            case rel => exact ⟨(wrap64 (x8_4 + t154)), (wrap64 (x9_4 + 1)), (by first | rfl | (simp; done) | (simp [*]; done)), (by first | rfl | (simp; done) | (simp [*]; done)), H', ⟨by have := HJ2.out; have := HJ13.out; have := HK3.out; have := HK4.out; omega⟩, ⟨by (with_reducible repeat (first | apply Kd.V_alloc | apply Kd.V_drewN | apply Kd.V_drew)); exact HO_5.out⟩, ⟨by repeat (first | (with_reducible first | exact HB.out | apply below_alloc | apply pw_below_drewN | apply below_drew1) | exact HB.out)⟩⟩
                          · rw [if_neg c37] at H
                            have c37b0 : (t155 == 0) = false := beq_eq_false_iff_ne.mpr c37
                            have c37b1 : (t155 != 0) = true := bne_iff_ne.mpr c37
                            obtain rfl := Option.some.inj H
                            go_wp2_with (first | (go_at_call 18; (with_reducible refine (divide_Phi.calls k4 x9_4 t154 t155 _ A36.out).mono ?_); rintro e w39 ⟨rfl, hb⟩; have n0_ := Aside0.mk (Kd.V_below (by (with_reducible repeat (first | apply Kd.V_alloc | apply Kd.V_drewN | apply Kd.V_drew)); exact HO_5.out) hb); have n1_ := Aside0.mk (below_step (by repeat (first | (with_reducible first | exact HB.out | apply below_alloc | apply pw_below_drewN | apply below_drew1) | exact HB.out)) hb); clear HO_5; clear HB; have HO_5 := n0_; have HB := n1_; clear n0_ n1_; (try clear hb); (try clear hb2); (try clear hk); (try clear hi)))
                            repeat (go_quiet (first | (go_at_call 18; (with_reducible refine (divide_Phi.calls k4 x9_4 t154 t155 _ A36.out).mono ?_); rintro e w39 ⟨rfl, hb⟩; have n0_ := Aside0.mk (Kd.V_below (by (with_reducible repeat (first | apply Kd.V_alloc | apply Kd.V_drewN | apply Kd.V_drew)); exact HO_5.out) hb); have n1_ := Aside0.mk (below_step (by repeat (first | (with_reducible first | exact HB.out | apply below_alloc | apply pw_below_drewN | apply below_drew1) | exact HB.out)) hb); clear HO_5; clear HB; have HO_5 := n0_; have HB := n1_; clear n0_ n1_; (try clear hb); (try clear hb2); (try clear hk); (try clear hi))); try go_wp2_with (first | (go_at_call 18; (with_reducible refine (divide_Phi.calls k4 x9_4 t154 t155 _ A36.out).mono ?_); rintro e w39 ⟨rfl, hb⟩; have n0_ := Aside0.mk (Kd.V_below (by (with_reducible repeat (first | apply Kd.V_alloc | apply Kd.V_drewN | apply Kd.V_drew)); exact HO_5.out) hb); have n1_ := Aside0.mk (below_step (by repeat (first | (with_reducible first | exact HB.out | apply below_alloc | apply pw_below_drewN | apply below_drew1) | exact HB.out)) hb); clear HO_5; clear HB; have HO_5 := n0_; have HB := n1_; clear n0_ n1_; (try clear hb); (try clear hb2); (try clear hk); (try clear hi))))
                            go_ret
                            exact ⟨by first | rfl | (simp [errW_none, errW_some] <;> rfl) | (simp [*, errW_none, errW_some] <;> rfl), by repeat (first | (with_reducible first | exact HB.out | apply below_alloc | apply pw_below_drewN | apply below_drew1) | exact HB.out)⟩
                        · rw [if_neg c35] at H
                          have c35b0 : decide (x9_4 ≤ (wrap64 (1 + t139))) = false := decide_eq_false c35
                          clear c35
                          obtain rfl := Option.some.inj H
                          go_wp2
                          repeat (go_quiet (fail); try go_wp2)
                          go_ret
                          exact ⟨by first | rfl | (simp [errW_none, errW_some] <;> rfl) | (simp [*, errW_none, errW_some] <;> rfl), by repeat (first | (with_reducible first | exact HB.out | apply below_alloc | apply pw_below_drewN | apply below_drew1) | exact HB.out)⟩

/-- THE ONE PURE STATEMENT of wholekeep_FracFarey: yours. -/
def wholekeep_FracFarey.Pure : Prop := ∀ (a0 : Int), (Lit.int .i64 a0).wf = true → ∃ k, wholekeep_FracFarey.f k a0 = some true
theorem wholekeep_FracFarey.walk (P : wholekeep_FracFarey.Pure) (a0 : Int) (w : World) (w0 : (Lit.int .i64 a0).wf = true) :
    Calls Try.prog 4 #[.int .i64 a0] w fun e w' => e = .returned (.bool true) ∧ Below w.heap.size w w' := by
  obtain ⟨k, h⟩ := P a0 w0
  refine (wholekeep_FracFarey.calls k a0 true w h).mono ?_
  rintro e w' ⟨rfl, hd⟩
  exact ⟨rfl, hd⟩

end Go.Proofs.Ytonacfjhfkdgbaa.PFracFarey
