/- What is proved: a burst of no more bits than are added is told by the program's check (the plain statement behind the law CyclicBurst). Conditions: none beyond the law's own. -/
import Derived.Test.YthjhjjhecokcdaaDoorCycA
namespace Go.Proofs.YthjhjjhecokcdaaDoor.Pure
open Go.RowKit Go.Proofs.YthjhjjhecokcdaaDoor.PCyc Go.Proofs.YthjhjjhecokcdaaDoorW.PrintWords Go.Proofs.YthjhjjhecokcdaaDoorW.PrintLast Go.Proofs.YthjhjjhecokcdaaDoorW.PrintMore Go.Proofs.YthjhjjhecokcdaaDoor.CycMath
set_option linter.unusedVariables false

/-- The rest of a division by a small positive number. -/
theorem within_some (a m : Int) (h1 : 0 < m) (h2 : m ≤ 1000000) : wholekeep_Within.f a m = some (a % m) := by
  unfold wholekeep_Within.f wholeref_Rest.f
  rw [if_neg (by omega)]
  have e := Int.emod_nonneg a (show m ≠ 0 by omega)
  have e2 := Int.emod_lt_of_pos a h1
  by_cases h : Int.tmod a m < 0
  · rw [if_pos h]
    have h3 : Int.tmod a m = a % m - m := by
      rw [Int.tmod_eq_emod]
      by_cases h0 : 0 ≤ a ∨ m ∣ a
      · rw [Int.tmod_eq_emod, if_pos h0] at h; omega
      · rw [if_neg h0]; omega
    have h4 : wrap64 (Int.tmod a m + m) = a % m := by
      rw [h3]; unfold wrap64; omega
    rw [h4]; rfl
  · rw [if_neg h]
    have h3 : Int.tmod a m = a % m := by
      rw [Int.tmod_eq_emod] at h ⊢
      by_cases h0 : 0 ≤ a ∨ m ∣ a
      · rw [if_pos h0]; omega
      · rw [if_neg h0] at h; omega
    rw [h3]; rfl
theorem within_nat (a : Int) (m : Nat) (h1 : 0 < m) (h2 : m ≤ 1000000) : ∃ r : Nat, r < m ∧ wholekeep_Within.f a (m : Int) = some (r : Int) := by
  refine ⟨(a % m).toNat, ?_, ?_⟩
  · have := Int.emod_lt_of_pos a (show (0 : Int) < m by omega)
    have := Int.emod_nonneg a (show (m : Int) ≠ 0 by omega)
    omega
  · rw [within_some a m (by omega) (by omega), Int.toNat_of_nonneg (Int.emod_nonneg a (by omega))]
/-- A word with a burst is no word. -/
theorem burst_tells (g w b : List Bool) (at_ : Nat) (hg : Div g) (hgw : g.length ≤ w.length + 1) (hc : Code g w) (hb : b.any id = true) (hbl : b.length + 1 ≤ g.length) (hfit : at_ + b.length ≤ w.length) :
    ¬ Code g (xorL w (zeros at_ ++ b)) := by
  have h2 := hg.two
  have hzl : (zeros at_ ++ b).length = at_ + b.length := by simp [zeros]
  have hxl : (xorL w (zeros at_ ++ b)).length = w.length := by rw [xorL, ofFn_length]
  intro h
  have hE : ∀ p, p < w.length → run (fn g) g.length (w.length + 1 - g.length) 0 (fn (zeros at_ ++ b)) p = false := by
    intro p hp
    have h1 := h p (by omega)
    have h3 := hc p hp
    unfold remF at h1 h3
    rw [hxl, fn_xorL w _ (by omega), run_add] at h1
    simp only [add] at h1
    rw [h3] at h1
    simpa using h1
  have hwin : ∀ p, fn (zeros at_ ++ b) p = true → at_ ≤ p ∧ p < at_ + b.length := by
    intro p hp
    refine ⟨?_, ?_⟩
    · rcases Nat.lt_or_ge p at_ with h5 | h5
      · rw [fn_append, if_pos (by simpa [zeros] using h5), fn_zeros] at hp; cases hp
      · exact h5
    · rcases Nat.lt_or_ge p (at_ + b.length) with h5 | h5
      · exact h5
      · rw [fn_out _ p (by omega)] at hp; cases hp
  rcases run_spans (fn g) g.length (by omega) hg.last (w.length + 1 - g.length) 0 (fn (zeros at_ ++ b)) (fun p _ hp => hE p (by omega)) with h5 | ⟨p, q, _, h6, h7, h8, h9⟩
  · obtain ⟨x, hx, hxt⟩ := List.any_eq_true.1 hb
    obtain ⟨i, hi, rfl⟩ := List.mem_iff_getElem.1 hx
    have h6 := h5 (at_ + i) (by omega) (by omega)
    rw [fn_append, if_neg (by simp [zeros])] at h6
    have h7 : fn b (at_ + i - (zeros at_).length) = b[i] := by simp [fn, zeros, List.getD, hi]
    rw [h7] at h6
    rw [h6] at hxt
    cases hxt
  · have := hwin p h8; have := hwin q h9
    omega
theorem CyclicBurst : wholekeep_CyclicBurst.Pure := by
  intro l0 l1 l2 a3 _ _ h0 _ _ h1 _ _ h2 _
  obtain ⟨s, hsl, hs⟩ := bitsOf_nat l0 h0 200 (by omega)
  obtain ⟨g, hg, hge⟩ := byOf_ev l1 h1
  have g2 := hg.two; have gm := hg.most
  obtain ⟨b, hbl, hb⟩ := bitsOf_nat l2 h2 (g.length - 1) (by omega)
  have hl := enc_length g s hg
  have eg : wrap64 (((B g).size : Int) - 1) = ((g.length - 1 : Nat) : Int) := by rw [B_size, w64 (i := (g.length : Int) - 1) (by omega) (by omega)]; omega
  refine Ev.rounds ?_
  unfold wholekeep_CyclicBurst.f
  refine Ev.bind cyclics_ev ?_
  refine Ev.congr (fun k => if_pos rfl) ?_
  refine Ev.bind hs ?_
  refine Ev.bind hge ?_
  refine Ev.bind (put_B g s hg (by omega)) ?_
  refine Ev.congr (f := fun k => (wholekeep_bitsOf.f k l2 ((g.length - 1 : Nat) : Int)).bind fun t166 => ((strings_Contains.f t166 (⟨#[49]⟩ : ByteArray)).bind fun t167 => (if t167 = true then (wholekeep_CyclicBurst.j0 k a3 (B g) (B (enc g s)) 0 t166 (decide ((t166.size : Int) > ((B (enc g s)).size : Int)))) else (wholekeep_CyclicBurst.j0 k a3 (B g) (B (enc g s)) 0 t166 true)))) (fun k => ?_) ?_
  · rw [eg]
    rfl
  refine Ev.bind hb ?_
  have stop : Ev (fun k => wholekeep_CyclicBurst.j0 k a3 (B g) (B (enc g s)) 0 (B b) true) true := by
    refine Ev.step (f := fun _ => some true) (fun k => ?_) (Ev.now _)
    simp only [wholekeep_CyclicBurst.j0]
    rw [if_pos (by simp)]
    rfl
  cases hany : b.any id with
  | false =>
    refine Ev.congr (fun k => ?_) stop
    rw [contains_B, hany, Option.bind_some, if_neg (by simp)]
  | true =>
    by_cases hlong : b.length > (enc g s).length
    · refine Ev.congr (fun k => ?_) stop
      rw [contains_B, hany, Option.bind_some, if_pos rfl, B_size, B_size, decide_eq_true (by omega)]
    · obtain ⟨at_, hat, hwt⟩ := within_nat a3 ((enc g s).length - b.length + 1) (by omega) (by omega)
      have ew : wrap64 (wrap64 (((B (enc g s)).size : Int) - ((B b).size : Int)) + 1) = (((enc g s).length - b.length + 1 : Nat) : Int) := by
        rw [B_size, B_size, w64 (i := ((enc g s).length : Int) - (b.length : Int)) (by omega) (by omega), w64 (i := ((enc g s).length : Int) - (b.length : Int) + 1) (by omega) (by omega)]; omega
      have ht := turn_ev (enc g s) b at_ (by omega) (by omega)
      have hxl : (xorL (enc g s) (zeros at_ ++ b)).length = (enc g s).length := by rw [xorL, ofFn_length]
      have hget := get_B g (xorL (enc g s) (zeros at_ ++ b)) hg (by omega) (by omega)
      have hno : (rem g (xorL (enc g s) (zeros at_ ++ b))).any id = true := by
        cases e : (rem g (xorL (enc g s) (zeros at_ ++ b))).any id with
        | true => rfl
        | false => exact absurd ((rem_any g _ hg (by omega)).1 e) (burst_tells g (enc g s) b at_ hg (by omega) (code_enc g s hg) hany (by omega) (by omega))
      rw [if_pos hno] at hget
      have hgo : Ev (fun k => wholekeep_CyclicBurst.j0 k a3 (B g) (B (enc g s)) 0 (B b) false) true := by
        refine Ev.step (fun k => ?_) (Ev.bind ht (f := fun k t169 => (cyclic_Get.f k t169 (B g)).bind fun bt170 => some (bt170.2 == 8)) (Ev.bind hget (f := fun _ (bt170 : ByteArray × Int) => some (bt170.2 == 8)) (Ev.now _)))
        simp only [wholekeep_CyclicBurst.j0]
        rw [if_neg (by simp), ew, hwt, Option.bind_some]
      refine Ev.congr (fun k => ?_) hgo
      rw [contains_B, hany, Option.bind_some, if_pos rfl, B_size, B_size, decide_eq_false (by omega)]
end Go.Proofs.YthjhjjhecokcdaaDoor.Pure
