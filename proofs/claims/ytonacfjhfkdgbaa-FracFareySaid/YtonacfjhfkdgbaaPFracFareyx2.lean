/- What is proved here: Go functions of the program come to what the Lean functions beside them tell. Conditions: those that each theorem names. (Written by wip/printx.py of this session, after the guide print.sh.) -/
import Derived.Test.YtonacfjhfkdgbaaPFracFareyx0
namespace Go.Proofs.Ytonacfjhfkdgbaa.PFracFarey
open Go.RowKit Go.Proofs.YtonacfjhfkdgbaaW.PrintWords Go.Proofs.YtonacfjhfkdgbaaW.PrintLast Go.Proofs.YtonacfjhfkdgbaaW.PrintMore
attribute [local go_sem] max2_int min2_int max_two min_two max_three min_three max_four min_four   -- for this text's walks alone
set_option linter.unusedVariables false
set_option linter.unusedSimpArgs false

/-! ### wholeref_Rest: function 25 -/
def wholeref_Rest.f (a0 : Int) (a1 : Int) : Option (Int) := if a1 = 0 then (none) else (if (Int.tmod a0 a1) < 0 then (some (wrap64 ((Int.tmod a0 a1) + a1))) else (some (Int.tmod a0 a1)))
set_option maxHeartbeats 8000000 in
set_option maxRecDepth 100000 in
theorem wholeref_Rest.calls (a0 : Int) (a1 : Int) (r : Int) (w : World) (h : wholeref_Rest.f a0 a1 = some r) :
    Calls Try.prog 25 #[.int .i64 a0, .int .i64 a1] w fun e w' => e = .returned (.int .i64 r) ∧ Drawn0 w w' := by
  have H : (if a1 = 0 then (none) else (if (Int.tmod a0 a1) < 0 then (some (wrap64 ((Int.tmod a0 a1) + a1))) else (some (Int.tmod a0 a1)))) = some r := h
  clear h
  by_cases c3 : a1 = 0
  · rw [if_pos c3] at H
    exact absurd H (by simp)
  · rw [if_neg c3] at H
    have c3b0 : (a1 == 0) = false := beq_eq_false_iff_ne.mpr c3
    have c3b1 : (a1 != 0) = true := bne_iff_ne.mpr c3
    by_cases c4 : (Int.tmod a0 a1) < 0
    · rw [if_pos c4] at H
      have c4b0 : decide ((Int.tmod a0 a1) < 0) = true := decide_eq_true c4
      clear c4
      obtain rfl := Option.some.inj H
      go_enter Try.func25, Try.ntmps25
      go_wp2
      go_ret
      exact ⟨by first | rfl | (simp; done) | (simp [*]; done), by repeat (first | exact Drawn0.refl _ | apply Drawn0.step)⟩
    · rw [if_neg c4] at H
      have c4b0 : decide ((Int.tmod a0 a1) < 0) = false := decide_eq_false c4
      clear c4
      obtain rfl := Option.some.inj H
      go_enter Try.func25, Try.ntmps25
      go_wp2
      go_ret
      exact ⟨by first | rfl | (simp; done) | (simp [*]; done), by repeat (first | exact Drawn0.refl _ | apply Drawn0.step)⟩

/-! ### wholekeep_Within: function 10 -/
def wholekeep_Within.f (a0 : Int) (a1 : Int) : Option (Int) := (wholeref_Rest.f a0 a1).bind fun t101 => (some t101)
set_option maxHeartbeats 8000000 in
set_option maxRecDepth 100000 in
theorem wholekeep_Within.calls (a0 : Int) (a1 : Int) (r : Int) (w : World) (h : wholekeep_Within.f a0 a1 = some r) :
    Calls Try.prog 10 #[.int .i64 a0, .int .i64 a1] w fun e w' => e = .returned (.int .i64 r) ∧ Drawn0 w w' := by
  have H : ((wholeref_Rest.f a0 a1).bind fun t101 => (some t101)) = some r := h
  clear h
  replace H := Option.bind_eq_some_iff.mp H
  obtain ⟨t101, A30, H⟩ := H
  replace H : (some t101) = some r := H
  have A3 := Aside0.mk A30
  clear A30
  obtain rfl := Option.some.inj H
  go_enter Try.func10, Try.ntmps10
  go_wp2_with (first | ((with_reducible refine gate_callee (f := 25) rfl ?_); refine goesL_ (some 7) rfl rfl Try.func25 (by kernel_rfl) rfl #[.int .i64 a0, .int .i64 a1] rfl (by (try simp only [List.map_toArray, List.map_cons, List.map_nil]); first | done | rfl | (simp only [List.length_drop, List.length_take]; rfl)) ?_; (with_reducible refine (wholeref_Rest.calls a0 a1 t101 _ A3.out).mono ?_); rintro e w' ⟨rfl, ⟨nd, rfl⟩⟩; refine ⟨_, rfl, ?_⟩))
  go_ret
  exact ⟨by first | rfl | (simp; done) | (simp [*]; done), by repeat (first | exact Drawn0.refl _ | apply Drawn0.step)⟩

/-! ### euclid_in: function 49 -/
def euclid_in.f (a0 : Int) : Option (Bool) := if a0 ≥ (-1000000000) then (some (decide (a0 ≤ 1000000000))) else (some false)
set_option maxHeartbeats 8000000 in
set_option maxRecDepth 100000 in
theorem euclid_in.calls (a0 : Int) (r : Bool) (w : World) (h : euclid_in.f a0 = some r) :
    Calls Try.prog 49 #[.int .i64 a0] w fun e w' => e = .returned (.bool r) ∧ Drawn0 w w' := by
  have H : (if a0 ≥ (-1000000000) then (some (decide (a0 ≤ 1000000000))) else (some false)) = some r := h
  clear h
  by_cases c2 : a0 ≥ (-1000000000)
  · rw [if_pos c2] at H
    have c2b0 : decide ((-1000000000) ≤ a0) = true := decide_eq_true c2
    clear c2
    obtain rfl := Option.some.inj H
    go_enter Try.func49, Try.ntmps49
    go_wp2
    go_ret
    exact ⟨by first | rfl | (simp; done) | (simp [*]; done), by repeat (first | exact Drawn0.refl _ | apply Drawn0.step)⟩
  · rw [if_neg c2] at H
    have c2b0 : decide ((-1000000000) ≤ a0) = false := decide_eq_false c2
    clear c2
    obtain rfl := Option.some.inj H
    go_enter Try.func49, Try.ntmps49
    go_wp2
    go_ret
    exact ⟨by first | rfl | (simp; done) | (simp [*]; done), by repeat (first | exact Drawn0.refl _ | apply Drawn0.step)⟩

/-! ### euclid_gcd: function 50 -/
def euclid_gcd.l0 : Nat → Int → Int → Option (Int)
  | 0, _, _ => none
  | k + 1, x0, x1 => if x1 = 0 then (some (mx x0 (wrap64 (-x0)))) else (euclid_gcd.l0 k x1 (Int.tmod x0 x1))
def euclid_gcd.f (k : Nat) (a0 : Int) (a1 : Int) : Option (Int) := euclid_gcd.l0 k a0 a1
theorem euclid_gcd.mono_l : ∀ k, (∀ y0 y1, LeO (euclid_gcd.l0 k y0 y1) (euclid_gcd.l0 (k + 1) y0 y1))
  | 0 => fun _ _ r h => by simp [euclid_gcd.l0] at h
  | k + 1 => by
    have ih0 := euclid_gcd.mono_l k
    · intro y0 y1
      unfold euclid_gcd.l0
      repeat' first
      | (with_reducible exact ih0 _ _)
      | (with_reducible exact LeO.refl _)
      | (with_reducible exact LeO.none _)
      | (with_reducible refine LeO.ite ?_ ?_)
      | (with_reducible refine LeO.bind ?_ (fun _ => ?_))
      | exact ih0 _ _
      | exact LeO.none _
      | refine LeO.ite ?_ ?_
      | refine LeO.bind ?_ (fun _ => ?_)
theorem euclid_gcd.mono : ∀ a0 a1 k, LeO (euclid_gcd.f k a0 a1) (euclid_gcd.f (k + 1) a0 a1) := by
  intro a0 a1 k
  have ih0 := euclid_gcd.mono_l k
  unfold euclid_gcd.f
  repeat' first
      | (with_reducible exact ih0 _ _)
      | (with_reducible exact LeO.refl _)
      | (with_reducible exact LeO.none _)
      | (with_reducible refine LeO.ite ?_ ?_)
      | (with_reducible refine LeO.bind ?_ (fun _ => ?_))
      | exact ih0 _ _
      | exact LeO.none _
      | refine LeO.ite ?_ ?_
      | refine LeO.bind ?_ (fun _ => ?_)
set_option maxHeartbeats 8000000 in
set_option maxRecDepth 100000 in
theorem euclid_gcd.calls (k : Nat) (a0 : Int) (a1 : Int) (r : Int) (w : World) (h : euclid_gcd.f k a0 a1 = some r) :
    Calls Try.prog 50 #[.int .i64 a0, .int .i64 a1] w fun e w' => e = .returned (.int .i64 r) ∧ Below w.heap.size w w' := by
  have HB := Aside0.mk (Below.refl w.heap.size w)
  have H : (euclid_gcd.l0 k a0 a1) = some r := h
  clear h
  have H' := Aside0.mk H
  clear H
  go_enter Try.func50, Try.ntmps50
  go_wp2
  repeat (go_quiet (fail); try go_wp2)
  go_loopg [0, 1] k (fun kq v0 v1 w' => ∃ (x0_1 : Int) (x1_1 : Int), v0 = .int .i64 x0_1 ∧ v1 = .int .i64 x1_1 ∧ Aside0 (euclid_gcd.l0 kq x0_1 x1_1 = some r) ∧ Aside0 (kq ≤ k) ∧ Aside0 (Below w.heap.size w w'))
  case atStart => exact ⟨(a0), (a1), (by first | rfl | (simp; done) | (simp [*]; done)), (by first | rfl | (simp; done) | (simp [*]; done)), H', ⟨Nat.le_refl _⟩, ⟨by repeat (first | (with_reducible first | exact HB.out | apply below_alloc | apply pw_below_drewN | apply below_drew1) | exact HB.out)⟩⟩
  case round =>
    clear H'
    try clear p2
    obtain ⟨x0_1, x1_1, rfl, rfl, HA, HK1, HB⟩ := hrel
    cases gk with
    | zero => exact absurd HA.out (by simp [euclid_gcd.l0])
    | succ k1 =>
      have H := HA.out
      clear HA
      simp only [euclid_gcd.l0] at H
      by_cases c3 : x1_1 = 0
      · rw [if_pos c3] at H
        have c3b0 : (x1_1 == 0) = true := beq_iff_eq.mpr c3
        have c3b1 : (x1_1 != 0) = false := bne_eq_false_iff_eq.mpr c3
        clear c3
        obtain ⟨ji4, hji4⟩ : ∃ j_ : Int, (mx x0_1 (wrap64 (-x0_1))) = j_ := ⟨_, rfl⟩
        replace H : (some ji4) = some r := by first | (rw [hji4] at H; exact H) | (simp only [hji4] at H ⊢; exact H)
        have hji4_ : (if x0_1 < (wrap64 (-x0_1)) then (wrap64 (-x0_1)) else x0_1) = ji4 := hji4
        obtain rfl := Option.some.inj H
        go_wp2
        repeat (go_quiet (fail); try go_wp2)
        go_ret
        exact ⟨by first | rfl | (simp [errW_none, errW_some] <;> rfl) | (simp only [← hji4]; first | rfl | (simp [errW_none, errW_some] <;> rfl)) | (simp [*, errW_none, errW_some] <;> rfl), by repeat (first | (with_reducible first | exact HB.out | apply below_alloc | apply pw_below_drewN | apply below_drew1) | exact HB.out)⟩
      · rw [if_neg c3] at H
        have c3b0 : (x1_1 == 0) = false := beq_eq_false_iff_ne.mpr c3
        have c3b1 : (x1_1 != 0) = true := bne_iff_ne.mpr c3
        have H' := Aside0.mk H
        clear H
        go_wp2
        repeat (go_quiet (fail); try go_wp2)
        go_roundg k1
        case measure => have := HK1.out; omega
        case rel => exact ⟨(x1_1), (Int.tmod x0_1 x1_1), (by first | rfl | (simp; done) | (simp [*]; done)), (by first | rfl | (simp; done) | (simp [*]; done)), H', ⟨by have := HK1.out; omega⟩, ⟨by repeat (first | (with_reducible first | exact HB.out | apply below_alloc | apply pw_below_drewN | apply below_drew1) | exact HB.out)⟩⟩

/-! ### euclid_Gcd: function 33 -/
def euclid_Gcd.f (k : Nat) (a0 : Int) (a1 : Int) : Option (Int × Int) := (euclid_in.f a0).bind fun t102 => (if t102 = true then ((euclid_in.f a1).bind fun t103 => (if t103 = true then ((euclid_gcd.f k a0 a1).bind fun t104 => (some (t104, 0))) else (some (0, 1)))) else (some (0, 1)))
theorem euclid_Gcd.mono : ∀ a0 a1 k, LeO (euclid_Gcd.f k a0 a1) (euclid_Gcd.f (k + 1) a0 a1) := by
  intro a0 a1 k
  unfold euclid_Gcd.f
  repeat' first
      | (with_reducible exact euclid_gcd.mono _ _ _)
      | (with_reducible exact LeO.refl _)
      | (with_reducible exact LeO.none _)
      | (with_reducible refine LeO.ite ?_ ?_)
      | (with_reducible refine LeO.bind ?_ (fun _ => ?_))
      | exact euclid_gcd.mono _ _ _
      | exact LeO.none _
      | refine LeO.ite ?_ ?_
      | refine LeO.bind ?_ (fun _ => ?_)
set_option maxHeartbeats 8000000 in
set_option maxRecDepth 100000 in
theorem euclid_Gcd.calls (k : Nat) (a0 : Int) (a1 : Int) (r1 : Int) (r2 : Int) (w : World) (h : euclid_Gcd.f k a0 a1 = some (r1, r2)) :
    Calls Try.prog 33 #[.int .i64 a0, .int .i64 a1] w fun e w' => e = .returned (.tuple #[.int .i64 r1, .int .i64 r2]) ∧ Below w.heap.size w w' := by
  have HB := Aside0.mk (Below.refl w.heap.size w)
  have H : ((euclid_in.f a0).bind fun t102 => (if t102 = true then ((euclid_in.f a1).bind fun t103 => (if t103 = true then ((euclid_gcd.f k a0 a1).bind fun t104 => (some (t104, 0))) else (some (0, 1)))) else (some (0, 1)))) = some (r1, r2) := h
  clear h
  replace H := Option.bind_eq_some_iff.mp H
  obtain ⟨t102, A30, H⟩ := H
  replace H : (if t102 = true then ((euclid_in.f a1).bind fun t103 => (if t103 = true then ((euclid_gcd.f k a0 a1).bind fun t104 => (some (t104, 0))) else (some (0, 1)))) else (some (0, 1))) = some (r1, r2) := H
  have A3 := Aside0.mk A30
  clear A30
  by_cases c4 : t102 = true
  · subst c4
    have H1 : ((euclid_in.f a1).bind fun t103 => (if t103 = true then ((euclid_gcd.f k a0 a1).bind fun t104 => (some (t104, 0))) else (some (0, 1)))) = some (r1, r2) := by rw [if_pos rfl] at H; exact H
    clear H
    have H := H1
    clear H1
    replace H := Option.bind_eq_some_iff.mp H
    obtain ⟨t103, A50, H⟩ := H
    replace H : (if t103 = true then ((euclid_gcd.f k a0 a1).bind fun t104 => (some (t104, 0))) else (some (0, 1))) = some (r1, r2) := H
    have A5 := Aside0.mk A50
    clear A50
    by_cases c6 : t103 = true
    · subst c6
      have H1 : ((euclid_gcd.f k a0 a1).bind fun t104 => (some (t104, 0))) = some (r1, r2) := by rw [if_pos rfl] at H; exact H
      clear H
      have H := H1
      clear H1
      replace H := Option.bind_eq_some_iff.mp H
      obtain ⟨t104, A70, H⟩ := H
      replace H : (some (t104, 0)) = some (r1, r2) := H
      have A7 := Aside0.mk A70
      clear A70
      simp only [Option.some.injEq, Prod.mk.injEq] at H
      obtain ⟨rfl, rfl⟩ := H
      go_enter Try.func33, Try.ntmps33
      go_wp2_with (first | ((with_reducible refine gate_callee (f := 49) rfl ?_); refine goesL_ (some 7) rfl rfl Try.func49 (by kernel_rfl) rfl #[.int .i64 a0] rfl (by (try simp only [List.map_toArray, List.map_cons, List.map_nil]); first | done | rfl | (simp only [List.length_drop, List.length_take]; rfl)) ?_; (with_reducible refine (euclid_in.calls a0 true _ A3.out).mono ?_); rintro e w' ⟨rfl, ⟨nd, rfl⟩⟩; refine ⟨_, rfl, ?_⟩) | (go_at_call 49; (with_reducible refine (euclid_in.calls a1 true _ A5.out).mono ?_); rintro e w' ⟨rfl, ⟨nd, rfl⟩⟩) | ((with_reducible refine gate_callee (f := 50) rfl ?_); refine goesL_ (some 16) rfl rfl Try.func50 (by kernel_rfl) rfl #[.int .i64 a0, .int .i64 a1] rfl (by (try simp only [List.map_toArray, List.map_cons, List.map_nil]); first | done | rfl | (simp only [List.length_drop, List.length_take]; rfl)) ?_; (with_reducible refine (euclid_gcd.calls k a0 a1 t104 _ A7.out).mono ?_); rintro e w8 ⟨rfl, hb⟩; refine ⟨_, rfl, ?_⟩; have n0_ := Aside0.mk (below_step (by repeat (first | (with_reducible first | exact HB.out | apply below_alloc | apply pw_below_drewN | apply below_drew1) | exact HB.out)) hb); clear HB; have HB := n0_; clear n0_; (try clear hb); (try clear hb2); (try clear hk); (try clear hi)))
      go_ret2
      exact ⟨by first | rfl | (simp [errW_none, errW_some] <;> rfl) | (simp [*, errW_none, errW_some] <;> rfl), by repeat (first | (with_reducible first | exact HB.out | apply below_alloc | apply pw_below_drewN | apply below_drew1) | exact HB.out)⟩
    · replace c6 := Bool.eq_false_iff.mpr c6
      subst c6
      have H1 : (some (0, 1)) = some (r1, r2) := by rw [if_neg (show ¬ (false = true) by decide)] at H; exact H
      clear H
      have H := H1
      clear H1
      simp only [Option.some.injEq, Prod.mk.injEq] at H
      obtain ⟨rfl, rfl⟩ := H
      go_enter Try.func33, Try.ntmps33
      go_wp2_with (first | ((with_reducible refine gate_callee (f := 49) rfl ?_); refine goesL_ (some 7) rfl rfl Try.func49 (by kernel_rfl) rfl #[.int .i64 a0] rfl (by (try simp only [List.map_toArray, List.map_cons, List.map_nil]); first | done | rfl | (simp only [List.length_drop, List.length_take]; rfl)) ?_; (with_reducible refine (euclid_in.calls a0 true _ A3.out).mono ?_); rintro e w' ⟨rfl, ⟨nd, rfl⟩⟩; refine ⟨_, rfl, ?_⟩) | (go_at_call 49; (with_reducible refine (euclid_in.calls a1 false _ A5.out).mono ?_); rintro e w' ⟨rfl, ⟨nd, rfl⟩⟩))
      go_ret2
      exact ⟨by first | rfl | (simp [errW_none, errW_some] <;> rfl) | (simp [*, errW_none, errW_some] <;> rfl), by repeat (first | (with_reducible first | exact HB.out | apply below_alloc | apply pw_below_drewN | apply below_drew1) | exact HB.out)⟩
  · replace c4 := Bool.eq_false_iff.mpr c4
    subst c4
    have H1 : (some (0, 1)) = some (r1, r2) := by rw [if_neg (show ¬ (false = true) by decide)] at H; exact H
    clear H
    have H := H1
    clear H1
    simp only [Option.some.injEq, Prod.mk.injEq] at H
    obtain ⟨rfl, rfl⟩ := H
    go_enter Try.func33, Try.ntmps33
    go_wp2_with (first | ((with_reducible refine gate_callee (f := 49) rfl ?_); refine goesL_ (some 7) rfl rfl Try.func49 (by kernel_rfl) rfl #[.int .i64 a0] rfl (by (try simp only [List.map_toArray, List.map_cons, List.map_nil]); first | done | rfl | (simp only [List.length_drop, List.length_take]; rfl)) ?_; (with_reducible refine (euclid_in.calls a0 false _ A3.out).mono ?_); rintro e w' ⟨rfl, ⟨nd, rfl⟩⟩; refine ⟨_, rfl, ?_⟩))
    go_ret2
    exact ⟨by first | rfl | (simp [errW_none, errW_some] <;> rfl) | (simp [*, errW_none, errW_some] <;> rfl), by repeat (first | (with_reducible first | exact HB.out | apply below_alloc | apply pw_below_drewN | apply below_drew1) | exact HB.out)⟩

-- given: a helper of ours
theorem enters_fn {P : Program} {f : FuncId} {fn : Func} {c : Code} (hf : P.funcs[f]? = some fn) (hname : (fn.name == "runtime.NumGoroutine") = false) (hb : fn.body = some c) (args : Array Value) (w : World) : (callFunc f args).run P w = .ok (.enter f args) w := by
  have h1 : fn.name ≠ "runtime.NumGoroutine" := by simpa using hname
  simp [callFunc, hf, h1, hb, mark]

/-! ### api_Fraction_34: function 34 -/
-- given: a text of ours
/-- A fraction within the program's bounds. -/
def goodFr (x : S41) : Bool := decide (0 ≤ x.f0) && decide (x.f0 ≤ 1000000) && decide (1 ≤ x.f1) && decide (x.f1 ≤ 1000000)
def ltFr (a b : S41) : Bool := decide (a.f0 * b.f1 < b.f0 * a.f1)
def insFr (x : S41) : List S41 → List S41
  | [] => [x]
  | y :: ys => if ltFr x y = true then x :: y :: ys else y :: insFr x ys
def isortFr : List S41 → List S41
  | [] => []
  | x :: xs => insFr x (isortFr xs)
def risesFr : List S41 → Bool
  | [] => true
  | x :: xs => (match xs with | [] => true | y :: _ => ltFr x y) && risesFr xs
def api_Fraction_34.f (l0 : List S41) : Option (List S41) := if 0 < l0.length ∧ l0.length < 4611686018427387904 ∧ l0.all goodFr = true ∧ risesFr (isortFr l0) = true then some (isortFr l0) else none
theorem insFr_perm (x : S41) (l : List S41) : (insFr x l).Perm (x :: l) := by
  induction l with
  | nil => exact List.Perm.refl _
  | cons y ys ih =>
    simp only [insFr]
    by_cases h : ltFr x y = true
    · rw [if_pos h]
    · rw [if_neg h]; exact (List.Perm.cons y ih).trans (List.Perm.swap x y ys)
theorem isortFr_perm (l : List S41) : (isortFr l).Perm l := by
  induction l with
  | nil => exact List.Perm.refl _
  | cons x xs ih => exact (insFr_perm x _).trans (List.Perm.cons x ih)
/-- What is asked of the comparison: at fractions within the bounds it is a strict weak order. -/
theorem ltFr_trans {x y z : S41} (hx : goodFr x = true) (hy : goodFr y = true) (hz : goodFr z = true) (h1 : ltFr x y = true) (h2 : ltFr y z = true) : ltFr x z = true := by
  simp only [goodFr, Bool.and_eq_true, decide_eq_true_eq] at hx hy hz
  simp only [ltFr, decide_eq_true_eq] at h1 h2 ⊢
  have p1 : x.f0 * y.f1 * z.f1 < y.f0 * x.f1 * z.f1 := Int.mul_lt_mul_of_pos_right h1 (by omega)
  have p2 : y.f0 * z.f1 * x.f1 < z.f0 * y.f1 * x.f1 := Int.mul_lt_mul_of_pos_right h2 (by omega)
  have e1 : y.f0 * x.f1 * z.f1 = y.f0 * z.f1 * x.f1 := by ac_rfl
  have e2 : x.f0 * y.f1 * z.f1 = x.f0 * z.f1 * y.f1 := by ac_rfl
  have e3 : z.f0 * y.f1 * x.f1 = z.f0 * x.f1 * y.f1 := by ac_rfl
  have p3 : x.f0 * z.f1 * y.f1 < z.f0 * x.f1 * y.f1 := by rw [← e2, ← e3]; omega
  exact Int.lt_of_mul_lt_mul_right p3 (by omega)
theorem ltFr_ntrans {x y z : S41} (hx : goodFr x = true) (hy : goodFr y = true) (hz : goodFr z = true) (h1 : ltFr x y = false) (h2 : ltFr y z = false) : ltFr x z = false := by
  simp only [goodFr, Bool.and_eq_true, decide_eq_true_eq] at hx hy hz
  simp only [ltFr, decide_eq_false_iff_not, Int.not_lt] at h1 h2 ⊢
  have p1 : y.f0 * x.f1 * z.f1 ≤ x.f0 * y.f1 * z.f1 := Int.mul_le_mul_of_nonneg_right h1 (by omega)
  have p2 : z.f0 * y.f1 * x.f1 ≤ y.f0 * z.f1 * x.f1 := Int.mul_le_mul_of_nonneg_right h2 (by omega)
  have e1 : y.f0 * x.f1 * z.f1 = y.f0 * z.f1 * x.f1 := by ac_rfl
  have e2 : x.f0 * y.f1 * z.f1 = x.f0 * z.f1 * y.f1 := by ac_rfl
  have e3 : z.f0 * y.f1 * x.f1 = z.f0 * x.f1 * y.f1 := by ac_rfl
  have p3 : z.f0 * x.f1 * y.f1 ≤ x.f0 * z.f1 * y.f1 := by rw [← e2, ← e3]; omega
  exact Int.le_of_mul_le_mul_right p3 (by omega)
theorem risesFr_all {l : List S41} (hg : ∀ x ∈ l, goodFr x = true) (h : risesFr l = true) : l.Pairwise (fun a b => ltFr a b = true) := by
  induction l with
  | nil => exact List.Pairwise.nil
  | cons x xs ih =>
    simp only [risesFr, Bool.and_eq_true] at h
    have hp := ih (fun y hy => hg y (List.mem_cons_of_mem _ hy)) h.2
    refine List.Pairwise.cons (fun y hy => ?_) hp
    cases xs with
    | nil => cases hy
    | cons z zs =>
      have h1 : ltFr x z = true := h.1
      rcases List.mem_cons.1 hy with rfl | hy'
      · exact h1
      · exact ltFr_trans (hg x List.mem_cons_self) (hg z (by simp)) (hg y (List.mem_cons_of_mem _ hy)) h1 (List.rel_of_pairwise_cons hp hy')
/-- The fractions within the bounds, as a type. -/
abbrev GFr := { x : S41 // goodFr x = true }
instance : Inhabited GFr := ⟨⟨⟨0, 1⟩, by decide⟩⟩
def encFr (x : GFr) : List Value := [.int .i64 x.1.f0, .int .i64 x.1.f1]
def cfFr (x y : GFr) : Int := x.1.f0 * y.1.f1 - y.1.f0 * x.1.f1
theorem ltOf_cfFr (x y : GFr) : Go.Proofs.ltOf cfFr x y = ltFr x.1 y.1 := by
  unfold Go.Proofs.ltOf cfFr ltFr
  exact decide_eq_decide.mpr (by omega)
theorem swoFr : Go.Sort.SWO (Go.Proofs.ltOf cfFr) where
  irrefl x := by rw [ltOf_cfFr]; unfold ltFr; simp
  trans x y z h1 h2 := by rw [ltOf_cfFr] at *; exact ltFr_trans x.2 y.2 z.2 h1 h2
  ntrans x y z h1 h2 := by rw [ltOf_cfFr] at *; exact ltFr_ntrans x.2 y.2 z.2 h1 h2
theorem cmpFr (x y : GFr) (W : World) : Calls Try.prog 35 #[.agg #[.int .i64 x.1.f0, .int .i64 x.1.f1], .agg #[.int .i64 y.1.f0, .int .i64 y.1.f1]] W fun e w' => e = .returned (.int .i64 (cfFr x y)) ∧ ∃ q os, w' = Go.Sort.grow (W.drewN q) os := by
  obtain ⟨⟨a, b⟩, hx⟩ := x
  obtain ⟨⟨c, d⟩, hy⟩ := y
  simp only [goodFr, Bool.and_eq_true, decide_eq_true_eq] at hx hy
  obtain ⟨⟨⟨h1, h2⟩, h3⟩, h4⟩ := hx
  obtain ⟨⟨⟨h5, h6⟩, h7⟩, h8⟩ := hy
  unfold cfFr
  simp only
  have b1 : 0 ≤ a * d := Int.mul_nonneg h1 (by omega)
  have b2 : 0 ≤ c * b := Int.mul_nonneg h5 (by omega)
  have b3 : a * d ≤ 1000000 * 1000000 := Int.mul_le_mul h2 h8 (by omega) (by omega)
  have b4 : c * b ≤ 1000000 * 1000000 := Int.mul_le_mul h6 h4 (by omega) (by omega)
  have w1 : IntKind.i64.wrap (a * d) = a * d := IntWalk.i64_in _ (by omega)
  have w2 : IntKind.i64.wrap (c * b) = c * b := IntWalk.i64_in _ (by omega)
  have w3 : IntKind.i64.wrap (a * d - c * b) = a * d - c * b := IntWalk.i64_in _ (by omega)
  go_enter Try.func35, Try.ntmps35
  go_wp2
  go_ret
  exact ⟨rfl, 0, _, by rw [Go.Sort.alloc_eq_grow, Go.Sort.alloc_eq_grow, Go.Sort.grow_grow]; rfl⟩
/-- The cells of a row of fractions, read off their list. -/
theorem cells_Fr {w : World} {base : Nat} {ok : Nat → Prop} {l : List S41} {inner : List Value} (h : Reps (k41.M w base ok) 2 l inner) : inner = l.flatMap fun x => [.int .i64 x.f0, .int .i64 x.f1] := by
  induction l generalizing inner with
  | nil => exact List.eq_nil_of_length_eq_zero (by simpa using h.1)
  | cons x xs ih =>
    have hl := h.1
    have h0 := k41_openM (h.2 0 x rfl)
    simp only [Nat.zero_mul, List.drop_zero] at h0
    have hr : Reps (k41.M w base ok) 2 xs (inner.drop 2) := by
      refine ⟨by rw [List.length_drop, hl]; simp only [List.length_cons]; omega, fun j p hj => ?_⟩
      have := h.2 (j + 1) p (by simpa using hj)
      rw [List.drop_drop, show 2 + j * 2 = (j + 1) * 2 by omega]
      exact this
    rw [List.flatMap_cons, ← ih hr, ← h0, List.take_append_drop]
theorem reps_Fr {w : World} {base : Nat} {ok : Nat → Prop} (l : List S41) : Reps (k41.M w base ok) 2 l (l.flatMap fun x => [.int .i64 x.f0, .int .i64 x.f1]) := by
  induction l with
  | nil => exact Reps.none _ _
  | cons x xs ih =>
    refine ⟨by simp [ih.1, List.length_flatMap]; omega, fun j p hj => ?_⟩
    cases j with
    | zero =>
      have e : x = p := by simpa using hj
      subst e
      simpa using k41_mkM w base ok x
    | succ j =>
      have := ih.2 j p (by simpa using hj)
      rw [List.flatMap_cons, show (j + 1) * 2 = 2 + j * 2 by omega, ← List.drop_drop]
      simpa using this
theorem pair_get (l : List S41) (t : Nat) (h : t < l.length * 2) : (l.flatMap fun x => [Value.int .i64 x.f0, Value.int .i64 x.f1])[t]? = (l[t / 2]?).map fun x => if t % 2 = 0 then Value.int .i64 x.f0 else Value.int .i64 x.f1 := by
  induction l generalizing t with
  | nil => simp at h
  | cons x xs ih =>
    rw [List.flatMap_cons]
    rcases t with _ | _ | t
    · rfl
    · rfl
    · have := ih t (by simp only [List.length_cons] at h; omega)
      rw [show (t + 1 + 1) / 2 = t / 2 + 1 by omega, show (t + 1 + 1) % 2 = t % 2 by omega]
      simpa using this
theorem pair_len (l : List S41) : (l.flatMap fun x => [Value.int .i64 x.f0, Value.int .i64 x.f1]).length = l.length * 2 := by
  induction l with
  | nil => rfl
  | cons x xs ih => rw [List.flatMap_cons, List.length_append, ih]; simp only [List.length_cons, List.length_nil]; omega
theorem flat_Fr (d : Array GFr) : (Go.Sort.flatK encFr 2 d).toList = (d.toList.map Subtype.val).flatMap fun x => [Value.int .i64 x.f0, Value.int .i64 x.f1] := by
  apply List.ext_getElem?
  intro t
  by_cases h : t < d.size * 2
  · rw [pair_get _ t (by simpa using h)]
    have h2 : t / 2 < d.size := by omega
    have e := Go.Sort.get_flatK encFr 2 d t h
    rw [getElem!_pos _ t (by simpa using h), getElem!_pos d (t / 2) h2] at e
    rw [Array.getElem?_toList, Array.getElem?_eq_getElem (by simpa using h), e]
    rw [List.getElem?_map, Array.getElem?_toList, Array.getElem?_eq_getElem h2]
    simp only [Option.map_some]
    congr 1
    rcases Nat.mod_two_eq_zero_or_one t with h3 | h3 <;> rw [h3] <;> rfl
  · rw [List.getElem?_eq_none (by simpa using h), List.getElem?_eq_none]
    rw [pair_len]; simpa using h
/-- What was sorted is what the plain insertion makes, where that rises. -/
theorem sorted_Fr {l0 : List S41} {d' : List GFr} (hg : ∀ x ∈ l0, goodFr x = true) (hr : risesFr (isortFr l0) = true) (hp : (d'.map Subtype.val).Perm l0) (hs : d'.Pairwise fun a b => Go.Proofs.ltOf cfFr b a = false) : d'.map Subtype.val = isortFr l0 := by
  have hgi : ∀ x ∈ isortFr l0, goodFr x = true := fun x hx => hg x ((isortFr_perm l0).mem_iff.1 hx)
  have h1 := risesFr_all hgi hr
  have h2 : (isortFr l0).Pairwise (fun a b => ltFr b a = false) := by
    refine h1.imp_of_mem (fun {a b} ha hb h => ?_)
    cases hba : ltFr b a with
    | false => rfl
    | true =>
      have := ltFr_trans (hgi a ha) (hgi b hb) (hgi a ha) h hba
      unfold ltFr at this; simp at this
  have h3 : (d'.map Subtype.val).Pairwise (fun a b => ltFr b a = false) := by
    rw [List.pairwise_map]
    exact hs.imp (fun {a b} h => by rw [← ltOf_cfFr]; exact h)
  refine List.Perm.eq_of_pairwise (le := fun a b => ltFr b a = false) (fun a b ha hb hab hba => ?_) h3 h2 (hp.trans (isortFr_perm l0).symm)
  have ha' : a ∈ isortFr l0 := (isortFr_perm l0).mem_iff.2 (hp.mem_iff.1 ha)
  obtain ⟨i, hi, rfl⟩ := List.getElem_of_mem ha'
  obtain ⟨j, hj, rfl⟩ := List.getElem_of_mem hb
  rw [List.pairwise_iff_getElem] at h1
  rcases Nat.lt_trichotomy i j with h | h | h
  · have := h1 i j hi hj h; rw [this] at hba; cases hba
  · subst h; rfl
  · have := h1 j i hj hi h; rw [this] at hab; cases hab
set_option maxHeartbeats 1000000 in
theorem api_Fraction_34.calls (P0_ : Nat → Prop) (u9000_ : Value) (l0 : List S41) (r : List S41) (w0 w : World) (hB : Below w0.heap.size w0 w) (ho0 : Kd.R k41 41 w w0.heap.size P0_ u9000_ l0) (h : api_Fraction_34.f l0 = some r) :
    Calls Try.prog 34 #[u9000_, .func (.func 35) #[] #[]] w fun e w' => e = .returned (.tuple #[]) ∧ Kd.R k41 41 w' w0.heap.size (fun k_ => (P0_ k_ ∨ w.heap.size ≤ k_)) u9000_ r ∧ Below w0.heap.size w0 w' ∧ Kept w w' (fun k_ => P0_ k_) := by
  unfold api_Fraction_34.f at h
  by_cases hc : 0 < l0.length ∧ l0.length < 4611686018427387904 ∧ l0.all goodFr = true ∧ risesFr (isortFr l0) = true
  case neg => rw [if_neg hc] at h; cases h
  rw [if_pos hc] at h
  obtain rfl := Option.some.inj h
  obtain ⟨hn, hsz, hall, hrise⟩ := hc
  have hg : ∀ x ∈ l0, goodFr x = true := fun x hx => List.all_eq_true.1 hall x hx
  obtain ⟨hok, inner, ⟨hlen, hown⟩, hreps⟩ := ho0
  have hin := cells_Fr hreps
  rcases hown with ⟨_, h0⟩ | ⟨g, cap, cur, rfl, hbg, hheap, hnc, hcm, hcs, htake⟩
  · omega
  · have hgl := blk_lt hheap
    have hPg : P0_ g := hok g rfl
    let d : Array GFr := (l0.attachWith (fun x => goodFr x = true) hg).toArray
    have hd : d.toList.map Subtype.val = l0 := by simp [d]
    have hds : d.size = l0.length := by simp [d]
    have hfl : (Go.Sort.flatK encFr 2 d).toList = inner := by rw [flat_Fr, hd, hin]
    have hfs : (Go.Sort.flatK encFr 2 d).size = l0.length * 2 := by rw [Go.Sort.size_flatK, hds]
    have hsz2 : k41.sz = 2 := rfl
    have hH : Go.Sort.HoldsK encFr 2 w g 0 d := by
      intro j hj
      rw [hfs] at hj
      refine ⟨?_, by simp [World.frozen?, hheap]⟩
      have h1 : inner[j]? = some (Go.Sort.flatK encFr 2 d)[j]! := by
        rw [← hfl, Array.getElem?_toList, Array.getElem?_eq_getElem (by rw [hfs]; exact hj), getElem!_pos _ j (by rw [hfs]; exact hj)]
      rw [Nat.zero_add, blk_cell hheap]
      rw [← htake, List.getElem?_take, if_pos (by rw [hsz2]; exact hj)] at h1
      simpa using h1
    have hcon := AnyQ.slices_SortFunc (P := Try.prog) Try.laysF6 2 Try.isAgg41 Try.sizeOf41 encFr (fun _ => rfl) (fun x v hv => by simp [encFr] at hv; rcases hv with rfl | rfl <;> rfl) cfFr swoFr 35 #[] g 0 cap d w
      (enters_fn Try.func35 (by kernel_rfl) rfl) (fun m os dk _ x y => (cmpFr x y _).mono fun e w' hh => hh) hH hgl (by rw [hds]; exact hsz)
    rw [hds] at hcon
    refine (show Calls Try.prog 34 _ _ _ from hcon).mono ?_
    rintro e w' ⟨he, d', m, os, hpm, hso, rfl⟩
    refine ⟨he, ?_⟩
    have hds' : d'.size = l0.length := by rw [hpm.1, hds]
    have hperm : (d'.toList.map Subtype.val).Perm l0 := by
      have h1 := hpm.2.2
      rw [show d'.extract 0 l0.length = d' by rw [← hds']; simp, show d.extract 0 l0.length = d by rw [← hds]; simp] at h1
      rw [← hd]
      exact h1.map Subtype.val
    have hpw : d'.toList.Pairwise fun a b => Go.Proofs.ltOf cfFr b a = false := by
      rw [List.pairwise_iff_getElem]
      intro i j hi hj hij
      have hi' : i < d'.size := by simpa using hi
      have hj' : j < d'.size := by simpa using hj
      have := hso i j (Nat.zero_le _) hij (by rw [← hds']; exact hj')
      rw [getElem!_pos d' i hi', getElem!_pos d' j hj'] at this
      simpa using this
    have hval := sorted_Fr hg hrise hperm hpw
    have hlen' : (isortFr l0).length = l0.length := (isortFr_perm l0).length_eq
    have hfl' : (Go.Sort.flatK encFr 2 d').toList = (isortFr l0).flatMap fun x => [Value.int .i64 x.f0, Value.int .i64 x.f1] := by rw [flat_Fr, hval]
    have hW : (Go.Proofs.sortWorldK encFr 2 w g 0 m d' os).heap = (w.heap.modify g (Go.Sort.onCells (Go.Sort.putCells id 0 (Go.Sort.flatK encFr 2 d')))) ++ os := rfl
    have hheap' : (Go.Proofs.sortWorldK encFr 2 w g 0 m d' os).heap[g]? = some (.cells (Go.Sort.putCells id 0 (Go.Sort.flatK encFr 2 d') cur) 41 (0, 0)) := by
      rw [hW, Array.getElem?_append_left (by simpa using hgl), Array.getElem?_modify, if_pos rfl, hheap]
      rfl
    have hother : ∀ i, i < w.heap.size → i ≠ g → (Go.Proofs.sortWorldK encFr 2 w g 0 m d' os).heap[i]? = w.heap[i]? := by
      intro i hi hig
      rw [hW, Array.getElem?_append_left (by simpa using hi), Array.getElem?_modify, if_neg (fun e => hig e.symm)]
    have hsize : w.heap.size ≤ (Go.Proofs.sortWorldK encFr 2 w g 0 m d' os).heap.size := by
      rw [hW]; simp
    refine ⟨⟨fun k hk => ?_, (isortFr l0).flatMap fun x => [Value.int .i64 x.f0, Value.int .i64 x.f1], ?_, reps_Fr _⟩, hB.trans ⟨rfl, rfl, rfl, hsize, fun k hk => hother k (Nat.lt_of_lt_of_le hk hB.size) (by omega)⟩, hsize, fun i hi hP => hother i hi (fun e => hP (by rw [e]; exact hPg))⟩
    · exact .inl (hok k hk)
    · refine ⟨by rw [pair_len, hlen']; rfl, .inr ⟨g, cap, _, by rw [hlen'], hbg, hheap', by rw [hlen']; exact hnc, hcm, ?_, ?_⟩⟩
      · simp [Go.Sort.putCells, hcs]
      · rw [← hfl']
        apply List.ext_getElem?
        intro t
        have hfs' : (Go.Sort.flatK encFr 2 d').size = l0.length * 2 := by rw [Go.Sort.size_flatK, hds']
        rw [List.getElem?_take, Array.getElem?_toList, Array.getElem?_toList]
        by_cases ht : t < l0.length * 2
        · have hc2 : t < cur.size := by rw [hcs]; have : l0.length * 2 ≤ cap * 2 := Nat.mul_le_mul_right 2 hnc; exact Nat.lt_of_lt_of_le ht this
          rw [if_pos (by rw [hlen']; exact ht)]
          unfold Go.Sort.putCells
          rw [Array.getElem?_mapIdx, Array.getElem?_eq_getElem hc2, Array.getElem?_eq_getElem (by rw [hfs']; exact ht)]
          simp only [Option.map_some]
          rw [if_pos ⟨Nat.zero_le _, by rw [hfs']; omega⟩, Nat.sub_zero, getElem!_pos _ t (by rw [hfs']; exact ht)]
          rfl
        · rw [if_neg (by rw [hlen']; exact ht), Array.getElem?_eq_none (by rw [hfs']; omega)]

/-! ### api_Fraction_36: function 36 -/
-- given: a text of ours
def api_Fraction_36.f (l0 : List S41) : Option (List S41) := some l0
set_option maxHeartbeats 1000000 in
set_option maxRecDepth 100000 in
theorem api_Fraction_36.calls (P0_ : Nat → Prop) (u9000_ : Value) (l0 : List S41) (r : List S41) (w0 w : World) (hB : Below w0.heap.size w0 w) (ho0 : Kd.R k41 41 w w0.heap.size P0_ u9000_ l0) (h : api_Fraction_36.f l0 = some r) :
    Calls Try.prog 36 #[u9000_] w fun e w' => ∃ v0_ : Value, e = .returned (v0_) ∧ Kd.V k41 41 w' w0.heap.size (fun k_ => (P0_ k_ ∨ w.heap.size ≤ k_)) v0_ r ∧ Below w0.heap.size w0 w' ∧ Kept w w' (fun k_ => P0_ k_) := by
  obtain rfl := Option.some.inj h
  clear h
  obtain ⟨A, c, rfl, hl, hf⟩ := Kd.R_V (base' := 0) ho0
  have hm := hf
  have hmax := Kd.F_max hf
  have HF := Aside0.mk (Kd.V_mk (e := 41) (base := w0.heap.size) (c := l0.length) (Nat.le_refl _) (Kd.F_mono hf (fun k hk => (.inl hk : P0_ k ∨ w.heap.size ≤ k))))
  have HB := Aside0.mk hB
  clear hB ho0 hf hm
  go_enter Try.func36, Try.ntmps36
  go_wp2
  go_ret
  exact ⟨_, rfl, HF.out, HB.out, Kept.refl _ _⟩

/-! ### frac_Farey: function 16 -/
mutual
def frac_Farey.j0 : Nat → Int → Bool → Option ((List (S41)) × Int)
  | 0, _, _ => none
  | k + 1, x0, x14 => if x14 = true then (some (([] : List (S41)), 1)) else (frac_Farey.l0 k x0 ([] : List (S41)) 1)
def frac_Farey.l0 : Nat → Int → List (S41) → Int → Option ((List (S41)) × Int)
  | 0, _, _, _ => none
  | k + 1, x0, x4, x5 => if x5 ≤ x0 then (frac_Farey.l1 k x0 x4 x5 (wrap64 (x5 + 1)) 0) else ((api_Fraction_34.f x4).bind fun t105 => ((api_Fraction_36.f t105).bind fun t106 => (some (t106, 0))))
def frac_Farey.l1 : Nat → Int → List (S41) → Int → Int → Int → Option ((List (S41)) × Int)
  | 0, _, _, _, _, _ => none
  | k + 1, x0, x4, x5, x21, x22 => if x22 < x21 then ((euclid_Gcd.f k x22 x5).bind fun bt109 => (if bt109.1 = 1 then (if x4.length < 8796093022208 then (frac_Farey.l1 k x0 (x4 ++ [(⟨x22, x5⟩ : S41)]) x5 x21 (wrap64 (x22 + 1))) else (none)) else (frac_Farey.l1 k x0 x4 x5 x21 (wrap64 (x22 + 1))))) else (frac_Farey.l0 k x0 x4 (wrap64 (x5 + 1)))
end
def frac_Farey.f (k : Nat) (a0 : Int) : Option ((List (S41)) × Int) := if a0 < 1 then (frac_Farey.j0 k a0 true) else (frac_Farey.j0 k a0 (decide (a0 > 30)))
theorem frac_Farey.mono_l : ∀ k, (∀ y0 y1, LeO (frac_Farey.j0 k y0 y1) (frac_Farey.j0 (k + 1) y0 y1)) ∧ (∀ y0 y1 y2, LeO (frac_Farey.l0 k y0 y1 y2) (frac_Farey.l0 (k + 1) y0 y1 y2)) ∧ (∀ y0 y1 y2 y3 y4, LeO (frac_Farey.l1 k y0 y1 y2 y3 y4) (frac_Farey.l1 (k + 1) y0 y1 y2 y3 y4))
  | 0 => ⟨fun _ _ r h => by simp [frac_Farey.j0] at h, fun _ _ _ r h => by simp [frac_Farey.l0] at h, fun _ _ _ _ _ r h => by simp [frac_Farey.l1] at h⟩
  | k + 1 => by
    obtain ⟨ih0, ih1, ih2⟩ := frac_Farey.mono_l k
    refine ⟨?_, ?_, ?_⟩
    · intro y0 y1
      unfold frac_Farey.j0
      repeat' first
      | (with_reducible exact ih0 _ _)
      | (with_reducible exact ih1 _ _ _)
      | (with_reducible exact ih2 _ _ _ _ _)
      | (with_reducible exact euclid_Gcd.mono _ _ _)
      | (with_reducible exact LeO.refl _)
      | (with_reducible exact LeO.none _)
      | (with_reducible refine LeO.ite ?_ ?_)
      | (with_reducible refine LeO.bind ?_ (fun _ => ?_))
      | exact ih0 _ _
      | exact ih1 _ _ _
      | exact ih2 _ _ _ _ _
      | exact euclid_Gcd.mono _ _ _
      | exact LeO.none _
      | refine LeO.ite ?_ ?_
      | refine LeO.bind ?_ (fun _ => ?_)
    · intro y0 y1 y2
      unfold frac_Farey.l0
      repeat' first
      | (with_reducible exact ih0 _ _)
      | (with_reducible exact ih1 _ _ _)
      | (with_reducible exact ih2 _ _ _ _ _)
      | (with_reducible exact euclid_Gcd.mono _ _ _)
      | (with_reducible exact LeO.refl _)
      | (with_reducible exact LeO.none _)
      | (with_reducible refine LeO.ite ?_ ?_)
      | (with_reducible refine LeO.bind ?_ (fun _ => ?_))
      | exact ih0 _ _
      | exact ih1 _ _ _
      | exact ih2 _ _ _ _ _
      | exact euclid_Gcd.mono _ _ _
      | exact LeO.none _
      | refine LeO.ite ?_ ?_
      | refine LeO.bind ?_ (fun _ => ?_)
    · intro y0 y1 y2 y3 y4
      unfold frac_Farey.l1
      repeat' first
      | (with_reducible exact ih0 _ _)
      | (with_reducible exact ih1 _ _ _)
      | (with_reducible exact ih2 _ _ _ _ _)
      | (with_reducible exact euclid_Gcd.mono _ _ _)
      | (with_reducible exact LeO.refl _)
      | (with_reducible exact LeO.none _)
      | (with_reducible refine LeO.ite ?_ ?_)
      | (with_reducible refine LeO.bind ?_ (fun _ => ?_))
      | exact ih0 _ _
      | exact ih1 _ _ _
      | exact ih2 _ _ _ _ _
      | exact euclid_Gcd.mono _ _ _
      | exact LeO.none _
      | refine LeO.ite ?_ ?_
      | refine LeO.bind ?_ (fun _ => ?_)
theorem frac_Farey.mono : ∀ a0 k, LeO (frac_Farey.f k a0) (frac_Farey.f (k + 1) a0) := by
  intro a0 k
  obtain ⟨ih0, ih1, ih2⟩ := frac_Farey.mono_l k
  unfold frac_Farey.f
  repeat' first
      | (with_reducible exact ih0 _ _)
      | (with_reducible exact ih1 _ _ _)
      | (with_reducible exact ih2 _ _ _ _ _)
      | (with_reducible exact euclid_Gcd.mono _ _ _)
      | (with_reducible exact LeO.refl _)
      | (with_reducible exact LeO.none _)
      | (with_reducible refine LeO.ite ?_ ?_)
      | (with_reducible refine LeO.bind ?_ (fun _ => ?_))
      | exact ih0 _ _
      | exact ih1 _ _ _
      | exact ih2 _ _ _ _ _
      | exact euclid_Gcd.mono _ _ _
      | exact LeO.none _
      | refine LeO.ite ?_ ?_
      | refine LeO.bind ?_ (fun _ => ?_)
set_option maxHeartbeats 8000000 in
set_option maxRecDepth 100000 in
theorem frac_Farey.calls (k : Nat) (a0 : Int) (r1 : List (S41)) (r2 : Int) (w : World) (h : frac_Farey.f k a0 = some (r1, r2)) :
    Calls Try.prog 16 #[.int .i64 a0] w fun e w' => ∃ v0_ : Value, e = .returned (.tuple #[v0_, .int .i64 r2]) ∧ Kd.V k41 41 w' w.heap.size (fun k_ => (w.heap.size ≤ k_)) v0_ r1 ∧ Below w.heap.size w w' := by
  have hu41 := Try.underlying41
  have HB := Aside0.mk (Below.refl w.heap.size w)
  have H : (if a0 < 1 then (frac_Farey.j0 k a0 true) else (frac_Farey.j0 k a0 (decide (a0 > 30)))) = some (r1, r2) := h
  clear h
  have HC2 := Aside0.mk H
  clear H
  go_enter Try.func16, Try.ntmps16
  go_upto_region 1 with (fail)
  go_cut [14] (fun v14 wc => ∃ (kq : Nat) (x14_1 : Bool), v14 = .bool x14_1 ∧ Aside0 (frac_Farey.j0 kq a0 x14_1 = some (r1, r2)) ∧ Aside0 (kq ≤ k) ∧ Aside0 (Below w.heap.size w wc))
  case first =>
    have H := HC2.out
    clear HC2
    by_cases c3 : a0 < 1
    · rw [if_pos c3] at H
      have c3b0 : decide (a0 < 1) = true := decide_eq_true c3
      clear c3
      (first | rw [c3b0] | (simp only [i64_w, i32_w]; rw [c3b0]) | skip)
      have H' := Aside0.mk H
      clear H
      go_wp2
      go_meet
      case rel => exact ⟨_, (true), (by first | rfl | (simp; done) | (simp [*]; done)), H', ⟨by first | omega | exact Nat.le_refl _⟩, ⟨by repeat (first | (with_reducible first | exact HB.out | apply below_alloc | apply pw_below_drewN | apply below_drew1) | exact HB.out)⟩⟩
    · rw [if_neg c3] at H
      have c3b0 : decide (a0 < 1) = false := decide_eq_false c3
      clear c3
      (first | rw [c3b0] | (simp only [i64_w, i32_w]; rw [c3b0]) | skip)
      have H' := Aside0.mk H
      clear H
      go_wp2
      go_meet
      case rel => exact ⟨_, (decide (a0 > 30)), (by first | rfl | (simp; done) | (simp [*]; done)), H', ⟨by first | omega | exact Nat.le_refl _⟩, ⟨by repeat (first | (with_reducible first | exact HB.out | apply below_alloc | apply pw_below_drewN | apply below_drew1) | exact HB.out)⟩⟩
  case rest =>
    clear HC2
    try clear c1
    try clear p2
    try clear c3
    try clear c3b0
    obtain ⟨kq, x14_1, rfl, HA, HJ1, HB⟩ := hcut
    cases kq with
    | zero => exact absurd HA.out (by simp [frac_Farey.j0])
    | succ kj1 =>
      have H := HA.out
      clear HA
      simp only [frac_Farey.j0] at H
      by_cases c4 : x14_1 = true
      · subst c4
        have H1 : (some (([] : List (S41)), 1)) = some (r1, r2) := by rw [if_pos rfl] at H; exact H
        clear H
        have H := H1
        clear H1
        simp only [Option.some.injEq, Prod.mk.injEq] at H
        obtain ⟨rfl, rfl⟩ := H
        go_wp2
        go_ret2
        exact ⟨_, by first | rfl | (simp [errW_none, errW_some] <;> rfl) | (simp [*, errW_none, errW_some] <;> rfl), (show Kd.V _ _ _ _ _ (.slice none 0 0) _ from Kd.V_nil _ _ _ _ _), by repeat (first | (with_reducible first | exact HB.out | apply below_alloc | apply pw_below_drewN | apply below_drew1) | exact HB.out)⟩
      · replace c4 := Bool.eq_false_iff.mpr c4
        subst c4
        have H1 : (frac_Farey.l0 kj1 a0 ([] : List (S41)) 1) = some (r1, r2) := by rw [if_neg (show ¬ (false = true) by decide)] at H; exact H
        clear H
        have H := H1
        clear H1
        have H' := Aside0.mk H
        clear H
        go_wp2
        go_loopg [4, 5] kj1 (fun kq v4 v5 w' => ∃ (x4_2 : List (S41)) (x5_2 : Int), v5 = .int .i64 x5_2 ∧ Aside0 (frac_Farey.l0 kq a0 x4_2 x5_2 = some (r1, r2)) ∧ Aside0 (kq ≤ kj1) ∧ Aside0 (Kd.R k41 41 w' w.heap.size (fun k_ => (w.heap.size ≤ k_)) v4 x4_2) ∧ Aside0 (Below w.heap.size w w'))
        case atStart => exact ⟨(([] : List (S41))), (1), (by first | rfl | (simp; done) | (simp [*]; done)), H', ⟨Nat.le_refl _⟩, ⟨by first | exact Kd.R_nil _ _ _ _ _ | exact Kd.N_nil _ _ _ _ _ | exact Kd.V_nil _ _ _ _ _ | exact Kd.Q_nil _ _ _ _ _ | exact Kd.S_nil _ _ _ _ _⟩, ⟨by repeat (first | (with_reducible first | exact HB.out | apply below_alloc | apply pw_below_drewN | apply below_drew1) | exact HB.out)⟩⟩
        case round =>
          clear H'
          try clear c1
          try clear p2
          try clear c3
          try clear c3b0
          try clear c4
          try clear p2
          obtain ⟨x4_2, x5_2, rfl, HA, HK2, HO_4, HB⟩ := hrel
          cases gk with
          | zero => exact absurd HA.out (by simp [frac_Farey.l0])
          | succ k2 =>
            have H := HA.out
            clear HA
            simp only [frac_Farey.l0] at H
            by_cases c5 : x5_2 ≤ a0
            · rw [if_pos c5] at H
              have c5b0 : decide (x5_2 ≤ a0) = true := decide_eq_true c5
              clear c5
              have H' := Aside0.mk H
              clear H
              go_wp2
              go_loopg [4, 22] k2 (fun kq v4 v22 w' => ∃ (x4_3 : List (S41)) (x22_3 : Int), v22 = .int .i64 x22_3 ∧ Aside0 (frac_Farey.l1 kq a0 x4_3 x5_2 (wrap64 (x5_2 + 1)) x22_3 = some (r1, r2)) ∧ Aside0 (kq ≤ k2) ∧ Aside0 (Kd.R k41 41 w' w.heap.size (fun k_ => (w.heap.size ≤ k_)) v4 x4_3) ∧ Aside0 (Below w.heap.size w w'))
              case atStart => exact ⟨(x4_2), (0), (by first | rfl | (simp; done) | (simp [*]; done)), H', ⟨Nat.le_refl _⟩, ⟨by (with_reducible repeat (first | apply Kd.R_alloc | apply Kd.R_drewN | apply Kd.R_drew)); exact HO_4.out⟩, ⟨by repeat (first | (with_reducible first | exact HB.out | apply below_alloc | apply pw_below_drewN | apply below_drew1) | exact HB.out)⟩⟩
              case round =>
                clear H'
                try clear c1
                try clear p2
                try clear c3
                try clear c3b0
                try clear c4
                try clear c5
                try clear c5b0
                try clear p2
                obtain ⟨x4_3, x22_3, rfl, HA, HK3, HO_4, HB⟩ := hrel
                cases gk with
                | zero => exact absurd HA.out (by simp [frac_Farey.l1])
                | succ k3 =>
                  have H := HA.out
                  clear HA
                  simp only [frac_Farey.l1] at H
                  by_cases c6 : x22_3 < (wrap64 (x5_2 + 1))
                  · rw [if_pos c6] at H
                    have c6b0 : decide (x22_3 < (wrap64 (x5_2 + 1))) = true := decide_eq_true c6
                    clear c6
                    replace H := Option.bind_eq_some_iff.mp H
                    obtain ⟨⟨t109, t110⟩, A70, H⟩ := H
                    replace H : (if t109 = 1 then (if x4_3.length < 8796093022208 then (frac_Farey.l1 k3 a0 (x4_3 ++ [(⟨x22_3, x5_2⟩ : S41)]) x5_2 (wrap64 (x5_2 + 1)) (wrap64 (x22_3 + 1))) else (none)) else (frac_Farey.l1 k3 a0 x4_3 x5_2 (wrap64 (x5_2 + 1)) (wrap64 (x22_3 + 1)))) = some (r1, r2) := H
                    have A7 := Aside0.mk A70
                    clear A70
                    by_cases c8 : t109 = 1
                    · rw [if_pos c8] at H
                      have c8b0 : (t109 == 1) = true := beq_iff_eq.mpr c8
                      have c8b1 : (t109 != 1) = false := bne_eq_false_iff_eq.mpr c8
                      clear c8
                      by_cases c9 : x4_3.length < 8796093022208
                      · rw [if_pos c9] at H
                        have LMc9 := Aside0.mk c9
                        clear c9
                        obtain ⟨y111, hy111⟩ : ∃ y_ : List (S41), y_ = (x4_3 ++ [(⟨x22_3, x5_2⟩ : S41)]) := ⟨_, rfl⟩
                        replace H : (frac_Farey.l1 k3 a0 y111 x5_2 (wrap64 (x5_2 + 1)) (wrap64 (x22_3 + 1))) = some (r1, r2) := by first | (rw [hy111]; with_reducible exact H) | (have H2_ := (Option.bind_some _ _).symm.trans H; rw [hy111]; with_reducible exact H2_) | (have H2_ := (Option.bind_some _ _).symm.trans H; with_reducible exact H2_) | with_reducible exact H | (rw [hy111]; exact H) | exact H
                        have Ny111 := Aside0.mk hy111
                        clear hy111
                        have H' := Aside0.mk H
                        clear H
                        go_wp2_with (first | ((with_reducible refine gate_callee (f := 33) rfl ?_); refine goesL_ (some 28) rfl rfl Try.func33 (by kernel_rfl) rfl #[.int .i64 x22_3, .int .i64 x5_2] rfl (by (try simp only [List.map_toArray, List.map_cons, List.map_nil]); first | done | rfl | (simp only [List.length_drop, List.length_take]; rfl)) ?_; (with_reducible refine (euclid_Gcd.calls k3 x22_3 x5_2 t109 t110 _ A7.out).mono ?_); rintro e w10 ⟨rfl, hb⟩; refine ⟨_, rfl, ?_⟩; have n0_ := Aside0.mk (Kd.R_below (by (with_reducible repeat (first | apply Kd.R_alloc | apply Kd.R_drewN | apply Kd.R_drew)); exact HO_4.out) hb); have n1_ := Aside0.mk (below_step (by repeat (first | (with_reducible first | exact HB.out | apply below_alloc | apply pw_below_drewN | apply below_drew1) | exact HB.out)) hb); clear HO_4; clear HB; have HO_4 := n0_; have HB := n1_; clear n0_ n1_; (try clear hb); (try clear hb2); (try clear hk); (try clear hi)) | ((with_reducible refine gate_builtin (b := .append) (xs := #[.tmp 33, .tmp 37]) rfl ?_); at_builtin; refine Kd.R_append k41 (w0 := w) w.heap.size rfl (.tmp 33) (.tmp 37) 36 41 (.agg #[(.int .i64 0), (.int .i64 0)]) 16 rfl Try.underlying36 info41 rfl (by decide) (by omega) u4 x4_3 (⟨x22_3, x5_2⟩ : S41) [.int .i64 x22_3, .int .i64 x5_2] (fun k_ => (w.heap.size ≤ k_)) (fun _ => False) rfl rfl ?aP (fun _ hk => hk.elim) ?aF ?aO ?aB ?aS ?aL ?_; (case aP => exact k41_mkM _ _ _ (⟨x22_3, x5_2⟩ : S41)); (case aB => exact (by repeat (first | (with_reducible first | exact HB.out | apply below_alloc | apply pw_below_drewN | apply below_drew1) | exact HB.out))); (case aF => exact (fun k_ hk => (Nat.le_trans (below_size (by repeat (first | (with_reducible first | exact HB.out | apply below_alloc | apply pw_below_drewN | apply below_drew1) | exact HB.out))) hk))); (case aO => exact (by (with_reducible repeat (first | apply Kd.R_alloc | apply Kd.R_drewN | apply Kd.R_drew)); exact HO_4.out)); (case aS => exact (below_size (by repeat (first | (with_reducible first | exact HB.out | apply below_alloc | apply pw_below_drewN | apply below_drew1) | exact HB.out)))); (case aL => have := LMc9.out; omega); intro v112 w11 ho hb hg hat; rw [← Ny111.out] at ho; have n0_ := Aside0.mk (hb); have n1_ := Aside0.mk (ho); clear HB; clear HO_4; have HB := n0_; have HO113 := n1_; clear n0_ n1_; clear ho hb hg hat))
                        go_roundg k3
                        case measure => have := HJ1.out; have := HK2.out; have := HK3.out; omega
                        case rel => exact ⟨(y111), (wrap64 (x22_3 + 1)), (by first | rfl | (simp; done) | (simp [*]; done)), H', ⟨by have := HJ1.out; have := HK2.out; have := HK3.out; omega⟩, ⟨by (with_reducible repeat (first | apply Kd.R_alloc | apply Kd.R_drewN | apply Kd.R_drew)); exact HO113.out⟩, ⟨by repeat (first | (with_reducible first | exact HB.out | apply below_alloc | apply pw_below_drewN | apply below_drew1) | exact HB.out)⟩⟩
                      · rw [if_neg c9] at H
                        exact absurd H (by simp)
                    · rw [if_neg c8] at H
                      have c8b0 : (t109 == 1) = false := beq_eq_false_iff_ne.mpr c8
                      have c8b1 : (t109 != 1) = true := bne_iff_ne.mpr c8
                      have H' := Aside0.mk H
                      clear H
                      go_wp2_with (first | ((with_reducible refine gate_callee (f := 33) rfl ?_); refine goesL_ (some 28) rfl rfl Try.func33 (by kernel_rfl) rfl #[.int .i64 x22_3, .int .i64 x5_2] rfl (by (try simp only [List.map_toArray, List.map_cons, List.map_nil]); first | done | rfl | (simp only [List.length_drop, List.length_take]; rfl)) ?_; (with_reducible refine (euclid_Gcd.calls k3 x22_3 x5_2 t109 t110 _ A7.out).mono ?_); rintro e w12 ⟨rfl, hb⟩; refine ⟨_, rfl, ?_⟩; have n0_ := Aside0.mk (Kd.R_below (by (with_reducible repeat (first | apply Kd.R_alloc | apply Kd.R_drewN | apply Kd.R_drew)); exact HO_4.out) hb); have n1_ := Aside0.mk (below_step (by repeat (first | (with_reducible first | exact HB.out | apply below_alloc | apply pw_below_drewN | apply below_drew1) | exact HB.out)) hb); clear HO_4; clear HB; have HO_4 := n0_; have HB := n1_; clear n0_ n1_; (try clear hb); (try clear hb2); (try clear hk); (try clear hi)))
                      go_roundg k3
                      case measure => have := HJ1.out; have := HK2.out; have := HK3.out; omega
                      case rel => exact ⟨(x4_3), (wrap64 (x22_3 + 1)), (by first | rfl | (simp; done) | (simp [*]; done)), H', ⟨by have := HJ1.out; have := HK2.out; have := HK3.out; omega⟩, ⟨by (with_reducible repeat (first | apply Kd.R_alloc | apply Kd.R_drewN | apply Kd.R_drew)); exact HO_4.out⟩, ⟨by repeat (first | (with_reducible first | exact HB.out | apply below_alloc | apply pw_below_drewN | apply below_drew1) | exact HB.out)⟩⟩
                  · rw [if_neg c6] at H
                    have c6b0 : decide (x22_3 < (wrap64 (x5_2 + 1))) = false := decide_eq_false c6
                    clear c6
                    have H' := Aside0.mk H
                    clear H
                    go_wp2
                    go_roundg k3
                    case measure => have := HJ1.out; have := HK2.out; have := HK3.out; omega
                    case rel => exact ⟨(x4_3), (wrap64 (x5_2 + 1)), (by first | rfl | (simp; done) | (simp [*]; done)), H', ⟨by have := HJ1.out; have := HK2.out; have := HK3.out; omega⟩, ⟨by (with_reducible repeat (first | apply Kd.R_alloc | apply Kd.R_drewN | apply Kd.R_drew)); exact HO_4.out⟩, ⟨by repeat (first | (with_reducible first | exact HB.out | apply below_alloc | apply pw_below_drewN | apply below_drew1) | exact HB.out)⟩⟩
            · rw [if_neg c5] at H
              have c5b0 : decide (x5_2 ≤ a0) = false := decide_eq_false c5
              clear c5
              replace H := Option.bind_eq_some_iff.mp H
              obtain ⟨t105, A130, H⟩ := H
              replace H : ((api_Fraction_36.f t105).bind fun t106 => (some (t106, 0))) = some (r1, r2) := H
              have A13 := Aside0.mk A130
              clear A130
              replace H := Option.bind_eq_some_iff.mp H
              obtain ⟨t106, A140, H⟩ := H
              replace H : (some (t106, 0)) = some (r1, r2) := H
              have A14 := Aside0.mk A140
              clear A140
              simp only [Option.some.injEq, Prod.mk.injEq] at H
              obtain ⟨rfl, rfl⟩ := H
              obtain ⟨Ao15, co15, eo15⟩ := Kd.R_slice HO_4.out
              subst eo15
              go_wp2_with (first | ((with_reducible refine gate_callee (f := 34) rfl ?_); refine goesL_ (some 41) rfl rfl Try.func34 (by kernel_rfl) rfl #[.slice Ao15 x4_2.length co15, .func (.func 35) #[] #[]] rfl (by (try simp only [List.map_toArray, List.map_cons, List.map_nil]); first | done | rfl | (simp only [List.length_drop, List.length_take]; rfl)) ?_; (with_reducible refine (api_Fraction_34.calls (fun k_ => some k_ = (.slice Ao15 x4_2.length co15 : Value).ownBlock) (.slice Ao15 x4_2.length co15) x4_2 t105 w _ ?side1 ?side2 A13.out).mono ?_); (case side1 => repeat (first | (with_reducible first | exact HB.out | apply below_alloc | apply pw_below_drewN | apply below_drew1) | exact HB.out)); (case side2 => exact Kd.R_tight rfl HO_4.out); rintro e w16 ⟨rfl, hy0, hb, hkp⟩; refine ⟨_, rfl, ?_⟩; have n0_ := Aside0.mk (Kd.R_reok rfl hy0 (fun k_ e_ => HO_4.out.1 k_ e_)); have n1_ := Aside0.mk (hb); clear HO_4; clear HB; have HO_4 := n0_; have HB := n1_; clear n0_ n1_; (try clear hb); (try clear hkp); (try clear hy0)) | ((with_reducible refine gate_callee (f := 36) rfl ?_); refine goesL_ (some 43) rfl rfl Try.func36 (by kernel_rfl) rfl #[.slice Ao15 x4_2.length co15] rfl (by (try simp only [List.map_toArray, List.map_cons, List.map_nil]); first | done | rfl | (simp only [List.length_drop, List.length_take]; rfl)) ?_; (with_reducible refine (api_Fraction_36.calls (fun k_ => some k_ = (.slice Ao15 x4_2.length co15 : Value).ownBlock) (.slice Ao15 x4_2.length co15) t105 t106 w _ ?side1 ?side2 A14.out).mono ?_); (case side1 => repeat (first | (with_reducible first | exact HB.out | apply below_alloc | apply pw_below_drewN | apply below_drew1) | exact HB.out)); (case side2 => exact Kd.R_tight rfl HO_4.out); rintro e w17 ⟨v107, rfl, ho0, hb, hkp⟩; refine ⟨_, rfl, ?_⟩; have n0_ := Aside0.mk (Kd.V_mono (ok' := fun k_ => (w.heap.size ≤ k_)) ho0 (fun k_ hk_ => Or.elim hk_ (fun hs_ => (HO_4.out.1 k_ (hs_).symm)) (fun hn_ => (Nat.le_trans (below_size (by repeat (first | (with_reducible first | exact HB.out | apply below_alloc | apply pw_below_drewN | apply below_drew1) | exact HB.out))) hn_)))); have n1_ := Aside0.mk (hb); clear HB; clear HO_4; have HO108 := n0_; have HB := n1_; clear n0_ n1_; (try clear hb); (try clear hkp); (try clear ho0)))
              go_ret2
              exact ⟨_, by first | rfl | (simp [errW_none, errW_some] <;> rfl) | (simp [*, errW_none, errW_some] <;> rfl), by (with_reducible repeat (first | apply Kd.V_alloc | apply Kd.V_drewN | apply Kd.V_drew)); exact HO108.out, by repeat (first | (with_reducible first | exact HB.out | apply below_alloc | apply pw_below_drewN | apply below_drew1) | exact HB.out)⟩

end Go.Proofs.Ytonacfjhfkdgbaa.PFracFarey
