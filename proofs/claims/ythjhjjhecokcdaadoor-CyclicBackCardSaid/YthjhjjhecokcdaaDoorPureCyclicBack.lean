/- What is proved: a string of bits that the program protects is accepted and restored (the plain statement behind the law CyclicBack). Conditions: none beyond the law's own. -/
import Derived.Test.YthjhjjhecokcdaaDoorCycA
namespace Go.Proofs.YthjhjjhecokcdaaDoor.Pure
open Go.RowKit Go.Proofs.YthjhjjhecokcdaaDoor.PCyc Go.Proofs.YthjhjjhecokcdaaDoorW.PrintWords Go.Proofs.YthjhjjhecokcdaaDoorW.PrintLast Go.Proofs.YthjhjjhecokcdaaDoorW.PrintMore Go.Proofs.YthjhjjhecokcdaaDoor.CycMath
set_option linter.unusedVariables false

theorem good2 : wholekeep_good.f [0, 0] = some true := rfl
theorem take_enc (g s : List Bool) (hg : Div g) : (enc g s).take ((enc g s).length + 1 - g.length) = s := by
  have h2 := hg.two
  rw [enc_length g s hg, show s.length + (g.length - 1) + 1 - g.length = s.length by omega, enc, List.take_left]
theorem back_get (g s : List Bool) (hg : Div g) (hs : s.length ≤ 200) : Ev (fun k => cyclic_Get.f k (B (enc g s)) (B g)) (B s, 0) := by
  have h2 := hg.two; have hm := hg.most
  have hl := enc_length g s hg
  have h := get_B g (enc g s) hg (by omega) (by omega)
  rw [if_neg (by rw [(rem_any g (enc g s) hg (by omega)).2 (code_enc g s hg)]; simp), take_enc g s hg] at h
  exact h
theorem CyclicBack : wholekeep_CyclicBack.Pure := by
  intro l0 l1 _ _ h0 _ _ h1
  obtain ⟨s, hsl, hs⟩ := bitsOf_nat l0 h0 200 (by omega)
  obtain ⟨g, hg, hge⟩ := byOf_ev l1 h1
  have h2 := hg.two; have hm := hg.most
  have hs2 : s.length ≤ 200 := by omega
  have hl := enc_length g s hg
  refine Ev.rounds ?_
  unfold wholekeep_CyclicBack.f
  refine Ev.bind cyclics_ev ?_
  refine Ev.congr (fun k => if_pos rfl) ?_
  refine Ev.bind hs ?_
  refine Ev.bind hge ?_
  refine Ev.bind (put_B g s hg hs2) ?_
  refine Ev.bind (back_get g s hg hs2) ?_
  refine Ev.congr (f := fun _ => some true) (fun k => ?_) (Ev.now _)
  show (wholekeep_good.f [0, 0]).bind _ = _
  rw [good2, Option.bind_some, if_pos rfl, if_pos rfl, B_size, B_size, B_size, hl, w64p (a := s.length) (b := g.length) (by omega) (by omega), w64 (i := ((s.length + g.length : Nat) : Int) - 1) (by omega) (by omega), if_pos (by omega)]
  unfold strings_HasPrefix.f stringslite_HasPrefix.f
  rw [B_size, B_size, hl, if_pos (by omega), if_pos (by omega), if_pos (by omega), Int.toNat_natCast, Option.bind_some, Option.bind_some, B, str_extract, List.drop_zero, B_take, enc, List.take_left]
  simp
end Go.Proofs.YthjhjjhecokcdaaDoor.Pure
