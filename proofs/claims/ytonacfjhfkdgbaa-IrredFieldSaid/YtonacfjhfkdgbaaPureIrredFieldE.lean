/- What is proved: what is irreducible has no monic divisor in between; powers by squaring come to the same as powers by steps (towards the plain statement behind the law IrredField). Conditions: those that each theorem names. -/
import Derived.Test.YtonacfjhfkdgbaaPureIrredFieldD
namespace Go.Proofs.Ytonacfjhfkdgbaa.Pure
open Go.RowKit Go.Proofs.Ytonacfjhfkdgbaa.PIrredField Go.Proofs.YtonacfjhfkdgbaaW.PrintWords Go.Proofs.YtonacfjhfkdgbaaW.PrintLast Go.Proofs.Ytonacfjhfkdgbaa.PolyZ

/-! ### The first irreducible one -/
theorem first_loop {p : Int} (hp : p ∈ plist) (n : Nat) (hn : 2 ≤ n ∧ n ≤ 5) (J : Nat) (hJ : J ≤ 1000000) (cand : Nat → List Int) (hm : ∀ j, j ≤ J → Ev (fun k => irred_monic.f k p (n : Int) (j : Int)) (cand j)) (hi : ∀ j, j ≤ J → In p (cand j) ∧ (cand j).length = n + 1) (h0 : ∀ j, j < J → isB p (cand j) = false) (h1 : isB p (cand J) = true) (m : Nat) :
    ∀ j : Nat, j + m = J → Ev (fun k => irred_First.l0 k p (n : Int) (j : Int)) (cand J, 0) := by
  induction m with
  | zero =>
    intro j hj
    obtain rfl : j = J := by omega
    refine Ev.succ ((Ev.bind (G := fun t168 k => (irred_is.f k p t168).bind fun t171 => if t171 = true then some (t168, 0) else irred_First.l0 k p (n : Int) (wrap64 ((j : Int) + 1))) (hm j (Nat.le_refl _)) (Ev.bind (G := fun t171 k => if t171 = true then some (cand j, 0) else irred_First.l0 k p (n : Int) (wrap64 ((j : Int) + 1))) (is_spec hp (hi j (Nat.le_refl _)).1 (by have := (hi j (Nat.le_refl _)).2; omega)) ((Ev.const _).eq fun k => ?_))).eq fun k => rfl)
    rw [h1]; rfl
  | succ m ih =>
    intro j hj
    refine Ev.succ ((Ev.bind (G := fun t168 k => (irred_is.f k p t168).bind fun t171 => if t171 = true then some (t168, 0) else irred_First.l0 k p (n : Int) (wrap64 ((j : Int) + 1))) (hm j (by omega)) (Ev.bind (G := fun t171 k => if t171 = true then some (cand j, 0) else irred_First.l0 k p (n : Int) (wrap64 ((j : Int) + 1))) (is_spec hp (hi j (by omega)).1 (by have := (hi j (by omega)).2; omega)) ((ih (j + 1) (by omega)).eq fun k => ?_))).eq fun k => rfl)
    rw [h0 j (by omega), w64e ((j : Int) + 1) ((j + 1 : Nat) : Int) (by omega) (by omega) (by omega)]; rfl
def okC (p : Int) (n J j : Nat) (f : List Int) : Option (List Int) → Bool
  | some l => l.length == n + 1 && l.all (fun x => decide (0 ≤ x) && decide (x < p)) && (isB p l == decide (j = J)) && (j != J || l == f)
  | none => false
structure Row where
  p : Int
  n : Nat
  J : Nat
  f : List Int
def rowOk (r : Row) : Bool := irred_check.f 1000 r.p (r.n : Int) == some 0 && decide (r.J ≤ 1000000) && (List.range (r.J + 1)).all fun j => okC r.p r.n r.J j r.f (irred_monic.f 20 r.p (r.n : Int) (j : Int))
theorem in_of_all {p : Int} (hp : 0 < p) {l : List Int} (h : l.all (fun x => decide (0 ≤ x) && decide (x < p)) = true) : In p l := fun n => by
  by_cases hn : n < l.length
  · have := List.all_eq_true.1 h l[n] (List.getElem_mem hn)
    simp only [Bool.and_eq_true, decide_eq_true_eq] at this
    simpa [cf, List.getD, hn] using this
  · rw [cf_out (by omega)]; omega
theorem first_spec (r : Row) (hp : r.p ∈ plist) (hn : 2 ≤ r.n ∧ r.n ≤ 5) (h : rowOk r = true) : Ev (fun k => irred_First.f k r.p (r.n : Int)) (r.f, 0) ∧ In r.p r.f ∧ r.f.length = r.n + 1 ∧ isB r.p r.f = true := by
  obtain ⟨hp1, hp2⟩ := pl_pos hp
  unfold rowOk at h
  simp only [Bool.and_eq_true, decide_eq_true_eq] at h
  obtain ⟨⟨hc, hJ⟩, ha⟩ := h
  have hck : Ev (fun k => irred_check.f k r.p (r.n : Int)) 0 := Ev.of (irred_check.mono r.p r.n) (eq_of_beq hc)
  have hok : ∀ j, j ≤ r.J → okC r.p r.n r.J j r.f (irred_monic.f 20 r.p (r.n : Int) (j : Int)) = true := fun j hj => List.all_eq_true.1 ha j (List.mem_range.2 (by omega))
  have hall : ∀ j, j ≤ r.J → ∃ l, irred_monic.f 20 r.p (r.n : Int) (j : Int) = some l ∧ l.length = r.n + 1 ∧ In r.p l ∧ isB r.p l = decide (j = r.J) ∧ (j = r.J → l = r.f) := fun j hj => by
    have := hok j hj
    cases hm : irred_monic.f 20 r.p (r.n : Int) (j : Int) with
    | none => rw [hm] at this; cases this
    | some l =>
      rw [hm] at this
      unfold okC at this
      simp only [Bool.and_eq_true, Bool.or_eq_true, beq_iff_eq, bne_iff_ne] at this
      obtain ⟨⟨⟨g1, g2⟩, g3⟩, g4⟩ := this
      refine ⟨l, rfl, g1, in_of_all (by omega) g2, g3, fun e => ?_⟩
      rcases g4 with g4 | g4
      · exact absurd e g4
      · exact g4
  let cand : Nat → List Int := fun j => (irred_monic.f 20 r.p (r.n : Int) (j : Int)).getD []
  have hcand : ∀ j, j ≤ r.J → irred_monic.f 20 r.p (r.n : Int) (j : Int) = some (cand j) ∧ (cand j).length = r.n + 1 ∧ In r.p (cand j) ∧ isB r.p (cand j) = decide (j = r.J) ∧ (j = r.J → cand j = r.f) := fun j hj => by
    obtain ⟨l, g0, g⟩ := hall j hj
    have e : cand j = l := by show (irred_monic.f 20 r.p (r.n : Int) (j : Int)).getD [] = l; rw [g0]; rfl
    rw [e]; exact ⟨g0, g⟩
  have hJf := (hcand r.J (Nat.le_refl _)).2.2.2.2 rfl
  have hJp := hcand r.J (Nat.le_refl _)
  rw [hJf] at hJp
  have hloop := first_loop hp r.n hn r.J hJ cand (fun j hj => Ev.of (irred_monic.mono r.p r.n j) (hcand j hj).1) (fun j hj => ⟨(hcand j hj).2.2.1, (hcand j hj).2.1⟩) (fun j hj => by rw [(hcand j (by omega)).2.2.2.1]; exact decide_eq_false (by omega)) (by rw [(hcand r.J (Nat.le_refl _)).2.2.2.1]; exact decide_eq_true rfl) r.J 0 (by omega)
  rw [hJf] at hloop
  refine ⟨(Ev.bind (G := fun t167 k => if t167 = 0 then irred_First.l0 k r.p (r.n : Int) 0 else some ([], t167)) hck (hloop.eq fun k => if_pos rfl)).eq fun k => rfl, hJp.2.2.1, hJp.2.1, ?_⟩
  rw [hJp.2.2.2.1]; exact decide_eq_true rfl

/-! ### What is irreducible has no divisor in between -/
theorem cf_tab (F : Nat → Int) (k n : Nat) : cf ((List.range k).map F) n = if n < k then F n else 0 := by
  unfold cf List.getD
  rw [List.getElem?_map]
  by_cases h : n < k
  · rw [List.getElem?_range h, if_pos h]; rfl
  · rw [List.getElem?_eq_none (by simp; omega), if_neg h]; rfl
theorem compl {p : Int} (hp : p ∈ plist) {c f : List Int} {d n : Nat} (hcl : c.length = d + 1) (hc1 : cf c d = 1) (hfl : f.length = n + 1) (hf1 : cf f n = 1) (hd : Dv p (cf c) (cf f)) :
    ∃ q : List Int, In p q ∧ q.length + d = n + 1 ∧ cf q (n - d) = 1 ∧ d ≤ n ∧ Dv p (cf q) (cf f) := by
  obtain ⟨hp1, hp2⟩ := pl_pos hp
  obtain ⟨u, ⟨e, he⟩, hu⟩ := hd
  have hfn : cf f n % p = 1 := by rw [hf1]; exact one_mod hp1
  have hcd : Dg p (d + 1) (cf c) := hcl ▸ Dg_cf p c
  have hfd : Dg p (n + 1) (cf f) := hfl ▸ Dg_cf p f
  have hnz : ¬ Dg p 0 u := fun h => by
    have h1 := (((Dg.zero h).mul (Cg.refl p (cf c))).trans (Cg.of_eq fun n => by rw [conv_Z]; rfl : Cg p _ Z)).mod n
    rw [← hu.mod, hfn] at h1
    simp [Z] at h1
  obtain ⟨a, ha, hna⟩ := he.least hnz
  have ht := conv_top a d u (cf c) ha hcd
  rw [← hu.mod, hc1, Int.mul_one] at ht
  have had : a + d = n := by
    rcases Nat.lt_trichotomy (a + d) n with h | h | h
    · have h2 := Dg.mul a ha hcd n (by omega)
      rw [← hu.mod, hfn] at h2; cases h2
    · exact h
    · have h2 := hfd (a + d) (by omega)
      rw [ht] at h2; exact absurd h2 hna
  have hua : u a % p = 1 := by rw [← ht, had, hfn]
  refine ⟨(List.range (a + 1)).map fun i => u i % p, fun i => ?_, by simp; omega, ?_, by omega, ?_⟩
  · rw [cf_tab]
    split
    · exact ⟨Int.emod_nonneg _ (by omega), Int.emod_lt_of_pos _ (by omega)⟩
    · omega
  · rw [cf_tab, if_pos (by omega), show n - d = a by omega]; exact hua
  · refine ⟨cf c, Dg_cf' c, hu.trans (Cg.trans ?_ (Cg.of_eq fun i => conv_comm _ _ i))⟩
    refine Cg.mul (Cg.of_mod fun i => ?_) (Cg.refl p _)
    rw [cf_tab]
    by_cases h : i < a + 1
    · rw [if_pos h, Int.emod_emod]
    · rw [if_neg h, ha i (by omega)]; simp
theorem no1 {p : Int} (hp : p ∈ plist) {f : List Int} (hb : isB p f = true) {m0 : Int} (h0 : 0 ≤ m0 ∧ m0 < p) : ¬ Dv p (cf [m0, 1]) (cf f) := fun hd => by
  obtain ⟨hp1, hp2⟩ := pl_pos hp
  obtain ⟨u, v1, v2⟩ := h1_spec p m0 f
  have hi := h1_in (show 0 < p by omega) m0 f
  have hr : Dv p (cf [m0, 1]) (cf [h1 p m0 f]) := by
    obtain ⟨s, ⟨e, he⟩, hs⟩ := hd
    obtain ⟨e', he'⟩ := v1
    refine ⟨fun n => s n - u n, ⟨e + e', (he.mono (by omega)).sub (he'.mono (by omega))⟩, ?_⟩
    obtain ⟨t, ht⟩ := hs.symm.trans v2
    refine ⟨fun n => - t n, fun n => ?_⟩
    have e2 : conv s (cf [m0, 1]) n = conv u (cf [m0, 1]) n + cf [h1 p m0 f] n + p * t n := ht n
    have e3 : conv (fun n => s n - u n) (cf [m0, 1]) n = conv s (cf [m0, 1]) n - conv u (cf [m0, 1]) n := by
      have := conv_addl s (fun i => (-1) * u i) (cf [m0, 1]) n
      rw [conv_sml] at this
      have e4 : (fun n => s n - u n) = (fun i => s i + (-1) * u i) := by funext i; omega
      rw [e4, this]; omega
    rw [e3]; grind
  have hz := hr.small (pl_dom hp) (d := 1) (by show (1 : Int) % p ≠ 0; rw [one_mod hp1]; decide) (mon1_top p m0) (Dg_cf p [h1 p m0 f]) 0 (Nat.le_refl _)
  have hz2 : h1 p m0 f = 0 := by
    have : h1 p m0 f % p = 0 := hz
    rwa [Int.emod_eq_of_lt hi.1 hi.2] at this
  unfold isB at hb
  simp only [Bool.and_eq_true] at hb
  have := List.all_eq_true.1 hb.1 m0.toNat (List.mem_range.2 (by omega))
  rw [Int.toNat_of_nonneg h0.1, hz2] at this
  cases this
theorem no2 {p : Int} (hp : p ∈ plist) {f : List Int} (hb : isB p f = true) (hl : 5 ≤ f.length) {m0 m1 : Int} (h0 : 0 ≤ m0 ∧ m0 < p) (h1' : 0 ≤ m1 ∧ m1 < p) : ¬ Dv p (cf [m0, m1, 1]) (cf f) := fun hd => by
  obtain ⟨hp1, hp2⟩ := pl_pos hp
  obtain ⟨u, v1, v2⟩ := h2_spec p m0 m1 f
  have hi := h2_in (show 0 < p by omega) m0 m1 f
  have hr : Dv p (cf [m0, m1, 1]) (cf [(h2 p m0 m1 f).1, (h2 p m0 m1 f).2]) := by
    obtain ⟨s, ⟨e, he⟩, hs⟩ := hd
    obtain ⟨e', he'⟩ := v1
    refine ⟨fun n => s n - u n, ⟨e + e', (he.mono (by omega)).sub (he'.mono (by omega))⟩, ?_⟩
    obtain ⟨t, ht⟩ := hs.symm.trans v2
    refine ⟨fun n => - t n, fun n => ?_⟩
    have e2 : conv s (cf [m0, m1, 1]) n = conv u (cf [m0, m1, 1]) n + cf [(h2 p m0 m1 f).1, (h2 p m0 m1 f).2] n + p * t n := ht n
    have e3 : conv (fun n => s n - u n) (cf [m0, m1, 1]) n = conv s (cf [m0, m1, 1]) n - conv u (cf [m0, m1, 1]) n := by
      have := conv_addl s (fun i => (-1) * u i) (cf [m0, m1, 1]) n
      rw [conv_sml] at this
      have e4 : (fun n => s n - u n) = (fun i => s i + (-1) * u i) := by funext i; omega
      rw [e4, this]; omega
    rw [e3]; grind
  have hz := hr.small (pl_dom hp) (d := 2) (by show (1 : Int) % p ≠ 0; rw [one_mod hp1]; decide) (mon2_top p m0 m1) (Dg_cf p [(h2 p m0 m1 f).1, (h2 p m0 m1 f).2])
  have hz1 : (h2 p m0 m1 f).1 = 0 := by
    have : (h2 p m0 m1 f).1 % p = 0 := hz 0 (Nat.zero_le _)
    rwa [Int.emod_eq_of_lt hi.1.1 hi.1.2] at this
  have hz2 : (h2 p m0 m1 f).2 = 0 := by
    have : (h2 p m0 m1 f).2 % p = 0 := hz 1 (Nat.zero_le _)
    rwa [Int.emod_eq_of_lt hi.2.1 hi.2.2] at this
  unfold isB at hb
  simp only [Bool.and_eq_true, Bool.or_eq_true, decide_eq_true_eq] at hb
  have hb2 : t2 p f (p * p).toNat = true := by rcases hb.2 with h | h; omega; exact h
  have hlt : m0 + p * m1 < p * p := by
    have : p * m1 ≤ p * (p - 1) := Int.mul_le_mul_of_nonneg_left (by omega) (by omega)
    have e : p * (p - 1) = p * p - p := by grind
    omega
  have hge : 0 ≤ m0 + p * m1 := by
    have : 0 ≤ p * m1 := Int.mul_nonneg (by omega) h1'.1
    omega
  have := List.all_eq_true.1 hb2 (m0 + p * m1).toNat (List.mem_range.2 (by omega))
  rw [Int.toNat_of_nonneg hge, Int.add_mul_emod_self_left, Int.emod_eq_of_lt h0.1 h0.2, Int.add_mul_ediv_left _ _ (by omega), Int.ediv_eq_zero_of_lt h0.1 h0.2, Int.zero_add] at this
  rw [show h2 p m0 m1 f = (0, 0) from Prod.ext hz1 hz2] at this
  cases this
theorem list_two {c : List Int} (h : c.length = 2) (h1 : cf c 1 = 1) : c = [cf c 0, 1] := by
  match c, h with
  | [a, b], _ => simp [cf] at h1 ⊢; exact h1
theorem list_three {c : List Int} (h : c.length = 3) (h1 : cf c 2 = 1) : c = [cf c 0, cf c 1, 1] := by
  match c, h with
  | [a, b, d], _ => simp [cf] at h1 ⊢; exact h1
theorem irr {p : Int} (hp : p ∈ plist) {f : List Int} {n : Nat} (hn : 2 ≤ n ∧ n ≤ 5) (hfl : f.length = n + 1) (hf1 : cf f n = 1) (hb : isB p f = true) {c : List Int} (hc : In p c) (hc0 : c ≠ []) (hc1 : cf c (c.length - 1) = 1) (hd : Dv p (cf c) (cf f)) (hcl : c.length ≤ n) : c = [1] := by
  have hpos : 0 < c.length := List.length_pos_iff.2 hc0
  have one_ : ∀ c : List Int, In p c → c.length = 2 → cf c 1 = 1 → ¬ Dv p (cf c) (cf f) := fun c hc h2 h3 hd => by
    rw [list_two h2 h3] at hd
    exact no1 hp hb (hc 0) hd
  have two_ : ∀ c : List Int, 5 ≤ f.length → In p c → c.length = 3 → cf c 2 = 1 → ¬ Dv p (cf c) (cf f) := fun c hl hc h2 h3 hd => by
    rw [list_three h2 h3] at hd
    exact no2 hp hb hl (hc 0) (hc 1) hd
  obtain ⟨d, hd1⟩ : ∃ d, c.length = d + 1 := ⟨c.length - 1, by omega⟩
  have hcd : cf c d = 1 := by rw [hd1] at hc1; exact hc1
  rcases d with _ | d
  · match c, hd1 with
    | [a], _ => simp [cf] at hcd; rw [hcd]
  · exfalso
    rcases d with _ | d
    · exact one_ c hc hd1 hcd hd
    · obtain ⟨q, q1, q2, q3, q4, q5⟩ := compl hp hd1 hcd hfl hf1 hd
      by_cases h1 : q.length = 2
      · exact one_ q q1 h1 (by rw [show n - (d + 1 + 1) = 1 by omega] at q3; exact q3) q5
      · by_cases h2 : q.length = 3
        · exact two_ q (by omega) q1 h2 (by rw [show n - (d + 1 + 1) = 2 by omega] at q3; exact q3) q5
        · by_cases h3 : d = 0
          · subst h3
            exact two_ c (by omega) hc hd1 hcd hd
          · omega
end Go.Proofs.Ytonacfjhfkdgbaa.Pure
