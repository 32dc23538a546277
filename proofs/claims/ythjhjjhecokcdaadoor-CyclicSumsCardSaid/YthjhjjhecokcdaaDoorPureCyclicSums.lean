/- What is proved: what the program protects of two strings of bits, together, is what it protects of both together (the plain statement behind the law CyclicSums). Conditions: none beyond the law's own. -/
import Derived.Test.YthjhjjhecokcdaaDoorCycA
namespace Go.Proofs.YthjhjjhecokcdaaDoor.Pure
open Go.RowKit Go.Proofs.YthjhjjhecokcdaaDoor.PCyc Go.Proofs.YthjhjjhecokcdaaDoorW.PrintWords Go.Proofs.YthjhjjhecokcdaaDoorW.PrintLast Go.Proofs.YthjhjjhecokcdaaDoorW.PrintMore Go.Proofs.YthjhjjhecokcdaaDoor.CycMath
set_option linter.unusedVariables false

theorem good3 : wholekeep_good.f [0, 0, 0] = some true := rfl
theorem xorL_length (a b : List Bool) : (xorL a b).length = a.length := by rw [xorL, ofFn_length]
theorem enc_xor (g a b : List Bool) (hg : Div g) (hab : b.length = a.length) : enc g (xorL a b) = xorL (enc g a) (enc g b) := by
  have hla := enc_length g a hg; have hlb := enc_length g b hg
  have hlx := enc_length g (xorL a b) hg
  rw [xorL_length] at hlx
  refine bits_ext (by rw [xorL_length, hlx, hla]) fun p hp => ?_
  show fn (enc g (xorL a b)) p = fn (xorL (enc g a) (enc g b)) p
  rw [fn_xorL (enc g a) (enc g b) (by omega), fn_enc g _ hg, fn_enc g _ hg, fn_enc g _ hg, fn_xorL a b (by omega), xorL_length, run_add, hab]
  simp only [add]
  generalize decide (a.length ≤ p) = c1
  generalize decide (p < a.length + (g.length - 1)) = c2
  generalize fn a p = x; generalize fn b p = y
  generalize run (fn g) g.length a.length 0 (fn a) p = z; generalize run (fn g) g.length a.length 0 (fn b) p = w
  revert c1 c2 x y z w; decide
theorem turn0 (a b : List Bool) (ha : a.length ≤ 1000) (hb : b.length ≤ a.length) : Ev (fun k => wholekeep_turn.f k (B a) (B b) 0) (B (xorL a b)) := by
  have h := turn_ev a b 0 ha (by omega)
  exact h
theorem CyclicSums : wholekeep_CyclicSums.Pure := by
  intro l0 l1 l2 _ _ h0 _ _ h1 _ _ h2
  have hmn : mn (mn (l0.length : Int) (l1.length : Int)) 200 = ((min (min l0.length l1.length) 200 : Nat) : Int) := by
    rw [mn_nat]; exact mn_nat _ 200
  obtain ⟨n, hn⟩ : ∃ n, n = min (min l0.length l1.length) 200 := ⟨_, rfl⟩
  rw [← hn] at hmn
  have hb : ∀ m : Nat, n ≤ m → mn (m : Int) (n : Int) = (n : Int) := fun m hm => by rw [mn_nat]; congr 1; omega
  obtain ⟨a, hal, ha⟩ := bitsOf_ev l0 h0 n (by omega) (n : Int) (hb _ (by omega)) (by omega)
  obtain ⟨b, hbl, hbv⟩ := bitsOf_ev l1 h1 n (by omega) (n : Int) (hb _ (by omega)) (by omega)
  obtain ⟨g, hg, hge⟩ := byOf_ev l2 h2
  have g2 := hg.two; have gm := hg.most
  have hla := enc_length g a hg; have hlb := enc_length g b hg
  refine Ev.rounds ?_
  unfold wholekeep_CyclicSums.f
  rw [hmn]
  refine Ev.bind cyclics_ev ?_
  refine Ev.congr (fun k => if_pos rfl) ?_
  refine Ev.bind ha ?_
  refine Ev.bind hbv ?_
  refine Ev.bind hge ?_
  refine Ev.bind (put_B g a hg (by omega)) ?_
  refine Ev.bind (put_B g b hg (by omega)) ?_
  refine Ev.bind (turn0 a b (by omega) (by omega)) ?_
  refine Ev.bind (put_B g (xorL a b) hg (by rw [xorL_length]; omega)) ?_
  refine Ev.congr (f := fun k => (wholekeep_turn.f k (B (enc g a)) (B (enc g b)) 0).bind fun t142 => some ((B (enc g (xorL a b))).toList == t142.toList)) (fun k => ?_) (Ev.bind (turn0 (enc g a) (enc g b) (by omega) (by omega)) (Ev.congr (f := fun _ => some true) (fun k => ?_) (Ev.now _)))
  · show (wholekeep_good.f [0, 0, 0]).bind _ = _
    rw [good3, Option.bind_some, if_pos rfl, if_pos (by rw [B_size, B_size, hla, hlb, hal, hbl])]
  · show some _ = some true
    rw [enc_xor g a b hg (by omega)]
    simp
end Go.Proofs.YthjhjjhecokcdaaDoor.Pure
