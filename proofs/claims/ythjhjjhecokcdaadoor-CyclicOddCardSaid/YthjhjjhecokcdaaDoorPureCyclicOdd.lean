/- What is proved: a divisor with an even number of ones tells every odd number of turned bits (the plain statement behind the law CyclicOdd). Conditions: none beyond the law's own. -/
import Derived.Test.YthjhjjhecokcdaaDoorCycA
namespace Go.Proofs.YthjhjjhecokcdaaDoor.Pure
open Go.RowKit Go.Proofs.YthjhjjhecokcdaaDoor.PCyc Go.Proofs.YthjhjjhecokcdaaDoorW.PrintWords Go.Proofs.YthjhjjhecokcdaaDoorW.PrintLast Go.Proofs.YthjhjjhecokcdaaDoorW.PrintMore Go.Proofs.YthjhjjhecokcdaaDoor.CycMath
set_option linter.unusedVariables false

theorem fn_cons (x : Bool) (l : List Bool) (p : Nat) : fn (x :: l) (p + 1) = fn l p := by simp [fn]
theorem par_shift (x : Bool) (l : List Bool) : ∀ n, par (fn (x :: l)) (n + 1) = (x ^^ par (fn l) n) := by
  intro n
  induction n with
  | zero => simp [par, fn]
  | succ n ih =>
    rw [par, ih, fn_cons, par]
    generalize par (fn l) n = a; generalize fn l n = b
    cases x <;> cases a <;> cases b <;> rfl
theorem par_count (l : List Bool) : par (fn l) l.length = decide (l.count true % 2 = 1) := by
  induction l with
  | nil => rfl
  | cons x l ih =>
    rw [List.length_cons, par_shift, ih, List.count_cons]
    cases x with
    | false => simp
    | true =>
      simp only [beq_self_eq_true, if_true]
      rcases Nat.mod_two_eq_zero_or_one (l.count true) with h | h
      · rw [decide_eq_false (by omega), decide_eq_true (by omega)]; rfl
      · rw [decide_eq_true (by omega), decide_eq_false (by omega)]; rfl
theorem tmod2 (n : Nat) : Int.tmod (n : Int) 2 = ((n % 2 : Nat) : Int) := by rw [Int.tmod_eq_emod_of_nonneg (by omega)]; omega
/-- What is left has as many ones as the word, even or odd. -/
theorem par_rem (g w : List Bool) (hg : Div g) (hgw : g.length ≤ w.length + 1) (hev : g.count true % 2 = 0) : par (remF g w) w.length = par (fn w) w.length := by
  unfold remF
  refine par_run (fn g) g.length ?_ _ 0 w.length (fn w) (by omega)
  rw [par_count, decide_eq_false (by omega)]
theorem code_even (g w : List Bool) (hg : Div g) (hgw : g.length ≤ w.length + 1) (hev : g.count true % 2 = 0) (hc : Code g w) : par (fn w) w.length = false := by
  rw [← par_rem g w hg hgw hev]
  exact par_zero fun p hp => hc p hp
theorem CyclicOdd : wholekeep_CyclicOdd.Pure := by
  intro l0 l1 l2 _ _ h0 _ _ h1 _ _ h2
  obtain ⟨s, hsl, hs⟩ := bitsOf_nat l0 h0 200 (by omega)
  obtain ⟨g, hg, hge⟩ := byOf_ev l1 h1
  have g2 := hg.two; have gm := hg.most
  have hl := enc_length g s hg
  obtain ⟨b, hbl, hb⟩ := bitsOf_nat l2 h2 (enc g s).length (by omega)
  have hput := put_B g s hg (by omega)
  refine Ev.rounds ?_
  unfold wholekeep_CyclicOdd.f
  refine Ev.bind cyclics_ev ?_
  refine Ev.congr (fun k => if_pos rfl) ?_
  refine Ev.bind hs ?_
  refine Ev.bind hge ?_
  by_cases hodd : g.count true % 2 = 1
  · refine Ev.congr (f := fun _ => some true) (fun k => ?_) (Ev.now _)
    rw [count_B, Option.bind_some, tmod2, if_pos (by omega)]
  · have hev : g.count true % 2 = 0 := by omega
    have hce := code_even g (enc g s) hg (by omega) hev (code_enc g s hg)
    have hcn : (enc g s).count true % 2 = 0 := by
      rw [par_count] at hce
      have := of_decide_eq_false hce
      omega
    have ht := turn_ev (enc g s) b 0 (by omega) (by omega)
    have hz : zeros 0 ++ b = b := rfl
    rw [hz] at ht
    have hxl : (xorL (enc g s) b).length = (enc g s).length := by rw [xorL, ofFn_length]
    have hget := get_B g (xorL (enc g s) b) hg (by omega) (by omega)
    have hj : Ev (fun k => wholekeep_CyclicOdd.j0 k l2 (B g) (B (enc g s)) false) true := by
      have hb' : Ev (fun k => wholekeep_bitsOf.f k l2 ((B (enc g s)).size : Int)) (B b) := by rw [B_size]; exact hb
      refine Ev.step (fun k => ?_) (Ev.bind hb' (f := fun k t179 => (wholekeep_turn.f k (B (enc g s)) t179 0).bind fun t180 => ((cyclic_Get.f k t180 (B g)).bind fun bt181 => ((strings_Count.f t179 (⟨#[49]⟩ : ByteArray)).bind fun t183 => (if (Int.tmod t183 2) = 0 then (some true) else (some (bt181.2 == 8)))))) (Ev.bind ht (f := fun k t180 => (cyclic_Get.f k t180 (B g)).bind fun bt181 => ((strings_Count.f (B b) (⟨#[49]⟩ : ByteArray)).bind fun t183 => (if (Int.tmod t183 2) = 0 then (some true) else (some (bt181.2 == 8))))) (Ev.bind hget (f := fun _ (bt181 : ByteArray × Int) => (strings_Count.f (B b) (⟨#[49]⟩ : ByteArray)).bind fun t183 => (if (Int.tmod t183 2) = 0 then (some true) else (some (bt181.2 == 8)))) (Ev.congr (f := fun _ => some true) (fun k => ?_) (Ev.now _)))))
      · simp only [wholekeep_CyclicOdd.j0]
        rw [if_neg (by simp)]
      · rw [count_B, Option.bind_some, tmod2]
        by_cases hbo : b.count true % 2 = 0
        · rw [if_pos (by omega)]
        · rw [if_neg (by omega)]
          have hno : (rem g (xorL (enc g s) b)).any id = true := by
            cases e : (rem g (xorL (enc g s) b)).any id with
            | true => rfl
            | false =>
              have hc := (rem_any g (xorL (enc g s) b) hg (by omega)).1 e
              have h5 := code_even g (xorL (enc g s) b) hg (by omega) hev hc
              rw [hxl, fn_xorL (enc g s) b (by omega), par_add, hce] at h5
              have h6 : par (fn b) (enc g s).length = par (fn b) b.length := by
                obtain ⟨k, hk⟩ : ∃ k, (enc g s).length = b.length + k := ⟨(enc g s).length - b.length, by omega⟩
                rw [hk]
                exact par_past k fun p h1 h2 => fn_out b p h1
              rw [h6, par_count, decide_eq_true (by omega : b.count true % 2 = 1)] at h5
              cases h5
          rw [if_pos hno]
          rfl
    refine Ev.congr (f := fun k => (cyclic_Put.f k (B s) (B g)).bind fun bt176 => (if bt176.2 = 0 then ((strings_Count.f bt176.1 (⟨#[49]⟩ : ByteArray)).bind fun t178 => (wholekeep_CyclicOdd.j0 k l2 (B g) bt176.1 ((Int.tmod t178 2) == 1))) else (wholekeep_CyclicOdd.j0 k l2 (B g) bt176.1 true))) (fun k => ?_) ?_
    · rw [count_B, Option.bind_some, tmod2, if_neg (by omega)]
    · refine Ev.bind hput ?_
      refine Ev.congr (fun k => ?_) hj
      show (if (0 : Int) = 0 then _ else _) = _
      rw [if_pos rfl, count_B, Option.bind_some, tmod2, hcn]
      rfl
end Go.Proofs.YthjhjjhecokcdaaDoor.Pure
