/- What is proved: modulo the first irreducible polynomial of degree n over a prime field of p elements, x^(p^n) is x, and every polynomial of less degree but 0 has nothing in common with it (the plain statement behind the law IrredField). Conditions: none beyond the law's own. -/
import Derived.Test.YtonacfjhfkdgbaaPureIrredFieldG1
import Derived.Test.YtonacfjhfkdgbaaPureIrredFieldG2
import Derived.Test.YtonacfjhfkdgbaaPureIrredFieldG3
import Derived.Test.YtonacfjhfkdgbaaPureIrredFieldG4
import Derived.Test.YtonacfjhfkdgbaaPureIrredFieldG5
namespace Go.Proofs.Ytonacfjhfkdgbaa.Pure
open Go.RowKit Go.Proofs.Ytonacfjhfkdgbaa.PIrredField Go.Proofs.YtonacfjhfkdgbaaW.PrintWords Go.Proofs.YtonacfjhfkdgbaaW.PrintLast Go.Proofs.Ytonacfjhfkdgbaa.PolyZ

def table : List Row := tab1 ++ tab2 ++ tab3 ++ tab4 ++ tab5
theorem table_ok (r : Row) (h : r ∈ table) : rowAll r = true := by
  unfold table at h
  simp only [List.mem_append] at h
  rcases h with (((h | h) | h) | h) | h
  · exact List.all_eq_true.1 tab1_ok r h
  · exact List.all_eq_true.1 tab2_ok r h
  · exact List.all_eq_true.1 tab3_ok r h
  · exact List.all_eq_true.1 tab4_ok r h
  · exact List.all_eq_true.1 tab5_ok r h
def lookB (p : Int) : Bool := (List.range 4).all fun i => (table.any fun r => r.p == p && r.n == i + 2) || (irred_check.f 1000 p ((i + 2 : Nat) : Int) == some 2)
theorem look_all : plist.all lookB = true := by decide +kernel
def fieldB (r : Nat) : Bool := match wholekeep_fieldOf.l0 1100 (r : Int) with | some p => plist.contains p | none => false
theorem field_tab : (List.range 998).all fieldB = true := by decide +kernel
theorem first_23 : irred_First.f 1000 2 3 = some ([1, 1, 0, 1], 0) := by decide +kernel
theorem polys_true : wholekeep_polys.f 1000 = some true := by decide +kernel

theorem field_spec (a : Int) : ∃ p, p ∈ plist ∧ Ev (fun k => wholekeep_fieldOf.f k a) p := by
  have hr0 := Int.emod_nonneg a (show (998 : Int) ≠ 0 by omega)
  have hr1 := Int.emod_lt_of_pos a (show (0 : Int) < 998 by omega)
  obtain ⟨r, hr⟩ := Int.eq_ofNat_of_zero_le hr0
  have hf : fieldB r = true := List.all_eq_true.1 field_tab r (List.mem_range.2 (by omega))
  unfold fieldB at hf
  cases hp : wholekeep_fieldOf.l0 1100 (r : Int) with
  | none => rw [hp] at hf; cases hf
  | some p =>
    rw [hp] at hf
    refine ⟨p, by simpa using hf, Ev.of (K := 1100) (wholekeep_fieldOf.mono a) ?_⟩
    unfold wholekeep_fieldOf.f
    rw [within_some a 998 (by omega) (by omega), hr]
    exact hp

/-! ### The program's two loops -/
theorem good_00 : wholekeep_good.f [0, 0] = some true := rfl
theorem step_spec {p : Int} (hp : p ∈ plist) {f : List Int} {n : Nat} (hn : 2 ≤ n ∧ n ≤ 5) (hf : In p f) (hfl : f.length = n + 1) (hf1 : cf f n = 1) {y x : List Int} (hy : In p y) (ty : TL y) (ly : y.length ≤ n) (hx : In p x) (tx : TL x) (lx : x.length ≤ n) :
    ∃ t qq rr, Ev (fun k => poly_Mul.f k p y x) (t, 0) ∧ Ev (fun k => poly_Div.f k p t f) (qq, rr, 0) ∧ In p rr ∧ TL rr ∧ rr.length ≤ n ∧ MQ p (cf f) (conv (cf y) (cf x)) (cf rr) := by
  obtain ⟨hp1, hp2⟩ := pl_pos hp
  have tf : TL f := .inr (by rw [hfl]; show cf f n ≠ 0; rw [hf1]; decide)
  have hf0 : f ≠ [] := fun h => by rw [h] at hfl; simp at hfl
  obtain ⟨t, t1, t2, t3, t4, t5⟩ := prod_spec hp hy hx (by omega) (by omega)
  obtain ⟨qq, rr, k1, k2, k3, k4, u, k5, k6⟩ := div_spec hp t2 hf (by omega) (by omega) hf0 tf
  refine ⟨t, qq, rr, ?_, ?_, k2, k3, by omega, (MQ.of_cg t5.symm).trans ((mq_of_rem k5 k6).symm.symm) |> fun _ => (MQ.of_cg t5).symm.trans (mq_of_rem k5 k6)⟩
  · refine (Ev.bind (G := fun t186 k => if t186 = 0 then (poly_Product.f k p y x).bind fun t187 => if (t187.length : Int) > 40 then some ([], 2) else some (t187, 0) else some ([], t186)) (checks_ok hp ⟨hy, ty, by omega⟩ ⟨hx, tx, by omega⟩) ((Ev.bind (G := fun t187 _ => if (t187.length : Int) > 40 then some ([], 2) else some (t187, 0)) t1 ((Ev.const _).eq fun k => if_neg (by omega))).eq fun k => if_pos rfl)).eq fun k => rfl
  · refine (Ev.bind (G := fun t210 k => if t210 = 0 then if (f.length : Int) = 0 then some ([], [], 5) else (poly_Divided.f k p t f).bind fun bt211 => some (bt211.1, bt211.2, 0) else some ([], [], t210)) (checks_ok hp ⟨t2, t3, by omega⟩ ⟨hf, tf, by omega⟩) ((Ev.bind (G := fun bt211 _ => some (bt211.1, bt211.2, 0)) k1 (Ev.const _)).eq fun k => ?_)).eq fun k => rfl
    rw [if_pos rfl, if_neg (by omega)]
theorem loop1 {p : Int} (hp : p ∈ plist) {f : List Int} {n : Nat} (hn : 2 ≤ n ∧ n ≤ 5) (hf : In p f) (hfl : f.length = n + 1) (hf1 : cf f n = 1) (X1 : Int) (l2 : List Int) (i : Int) (hi : wrap64 (i + 1) = i + 1) {x : List Int} (hx : In p x) (tx : TL x) (lx : x.length ≤ n) (m : Nat) (hm : m ≤ 1000) :
    ∀ y : List Int, In p y → TL y → y.length ≤ n → ∃ y', In p y' ∧ TL y' ∧ y'.length ≤ n ∧ (∃ Y, Y = conv (cf y) (spow (cf x) m) ∧ MQ p (cf f) (cf y') Y) ∧
      ∀ R, Ev (fun k => wholekeep_IrredField.l0 k X1 l2 p f y' X1 (i + 1)) R → Ev (fun k => wholekeep_IrredField.l1 k X1 l2 p f x y (m : Int) X1 i) R := by
  induction m with
  | zero =>
    intro y hy ty ly
    refine ⟨y, hy, ty, ly, ⟨_, rfl, MQ.of_cg (Cg.of_eq fun n => ?_)⟩, fun R h => Ev.succ (h.eq fun k => ?_)⟩
    · show cf y n = conv (cf y) one n
      rw [conv_comm, conv_one]
    · simp only [wholekeep_IrredField.l1]
      rw [if_neg (by omega), hi]
  | succ m ih =>
    intro y hy ty ly
    obtain ⟨t, qq, rr, s1, s2, s3, s4, s5, s6⟩ := step_spec hp hn hf hfl hf1 hy ty ly hx tx lx
    obtain ⟨y', y1, y2, y3, ⟨Y, hY, y4⟩, y5⟩ := ih (by omega) rr s3 s4 s5
    refine ⟨y', y1, y2, y3, ⟨_, rfl, ?_⟩, fun R h => Ev.succ ((Ev.bind (G := fun bt268 k => (poly_Div.f k p bt268.1 f).bind fun bt272 => (wholekeep_good.f [bt268.2, bt272.2.2]).bind fun t282 => if t282 = true then wholekeep_IrredField.l1 k X1 l2 p f x bt272.2.1 (wrap64 (((m + 1 : Nat) : Int) - 1)) X1 i else some false) s1 (Ev.bind (G := fun bt272 k => (wholekeep_good.f [0, bt272.2.2]).bind fun t282 => if t282 = true then wholekeep_IrredField.l1 k X1 l2 p f x bt272.2.1 (wrap64 (((m + 1 : Nat) : Int) - 1)) X1 i else some false) s2 ((y5 R h).eq fun k => ?_))).eq fun k => ?_)⟩
    · rw [hY] at y4
      refine y4.trans ?_
      have e1 : conv (cf y) (spow (cf x) (m + 1)) = conv (conv (cf y) (cf x)) (spow (cf x) m) := by
        show conv (cf y) (conv (spow (cf x) m) (cf x)) = _
        rw [show conv (spow (cf x) m) (cf x) = conv (cf x) (spow (cf x) m) from funext fun n => conv_comm _ _ n, conv_assoc']
      rw [e1]
      exact MQ.mul s6.symm (MQ.of_cg (Cg.refl p _)) (Fin_.cf p rr) (Fin_.spow (Fin_.cf p x) m)
    · show (wholekeep_good.f [0, 0]).bind _ = _
      rw [good_00]
      simp only [Option.bind_some]
      rw [if_pos trivial, w64e (((m + 1 : Nat) : Int) - 1) (m : Int) (by omega) (by omega) (by omega)]
    · simp only [wholekeep_IrredField.l1]
      rw [if_pos (by omega)]
theorem loop0 {p : Int} (hp : p ∈ plist) {f : List Int} {n : Nat} (hn : 2 ≤ n ∧ n ≤ 5) (hf : In p f) (hfl : f.length = n + 1) (hf1 : cf f n = 1) (l2 : List Int) (m : Nat) :
    ∀ (i : Nat) (x : List Int), i + m = n → In p x → TL x → x.length ≤ n → (frob p n f i).length ≤ n → MQ p (cf f) (cf x) (cf (frob p n f i)) →
    ∃ x', In p x' ∧ TL x' ∧ x'.length ≤ n ∧ (frob p n f n).length ≤ n ∧ MQ p (cf f) (cf x') (cf (frob p n f n)) ∧
      ∀ R, Ev (fun k => wholekeep_IrredField.l0 k (n : Int) l2 p f x' (n : Int) (n : Int)) R → Ev (fun k => wholekeep_IrredField.l0 k (n : Int) l2 p f x (n : Int) (i : Int)) R := by
  obtain ⟨hp1, hp2⟩ := pl_pos hp
  induction m with
  | zero =>
    intro i x hi hx tx lx lf hq
    obtain rfl : i = n := by omega
    exact ⟨x, hx, tx, lx, lf, hq, fun R h => h⟩
  | succ m ih =>
    intro i x hi hx tx lx lf hq
    have ep : ((p.toNat : Nat) : Int) = p := Int.toNat_of_nonneg (by omega)
    obtain ⟨y', y1, y2, y3, ⟨Y, hY, y4⟩, y5⟩ := loop1 hp hn hf hfl hf1 (n : Int) l2 (i : Int) (w64 _ (by omega) (by omega)) hx tx lx p.toNat (by omega) [1] (sing_ok ⟨by omega, hp1⟩) (.inr (by show (1 : Int) ≠ 0; decide)) (by simp; omega)
    have hpw := pw_spec hp1 (show 0 < n by omega) hfl hf1 11 (frob p n f i) p.toNat lf (by show p.toNat < 2048; omega)
    have e1 : conv (cf [1]) (spow (cf x) p.toNat) = spow (cf x) p.toNat := funext fun n => by rw [cf_one, conv_one]
    rw [hY, e1] at y4
    obtain ⟨x', x1, x2, x3, x4, x5, x6⟩ := ih (i + 1) y' (by omega) y1 y2 y3 hpw.1 ((y4.trans (MQ.spow hq (Fin_.cf p x) (Fin_.cf p _) _)).trans hpw.2.2)
    refine ⟨x', x1, x2, x3, x4, x5, fun R h => Ev.succ ((y5 R ?_).eq fun k => ?_)⟩
    · exact x6 R h
    · simp only [wholekeep_IrredField.l0]
      rw [if_pos (by omega), ep]

theorem tl_01 : TL [0, 1] := .inr (by show (1 : Int) ≠ 0; decide)
theorem done {p : Int} (hp : p ∈ plist) {f : List Int} {n : Nat} (hn : 2 ≤ n ∧ n ≤ 5) (hf : In p f) (hfl : f.length = n + 1) (hf1 : cf f n = 1) (hb : isB p f = true) (l2 : List Int) :
    Ev (fun k => wholekeep_IrredField.l0 k (n : Int) l2 p f [0, 1] (n : Int) (n : Int)) true := by
  obtain ⟨hp1, hp2⟩ := pl_pos hp
  have tf : TL f := .inr (by rw [hfl]; show cf f n ≠ 0; rw [hf1]; decide)
  have hf0 : f ≠ [] := fun h => by rw [h] at hfl; simp at hfl
  obtain ⟨g, g1, g2, g3, g4⟩ := polyOf_spec hp1 hp2 l2 n (by omega)
  obtain ⟨c, c1, c2, c3, c4, c5, c6, c7⟩ := gcd_spec hp g.length f g rfl hf g2 tf g3 (by omega) (by omega) (.inl hf0)
  have hG : Ev (fun k => poly_Gcd.f k p f g) (c, 0) :=
    (Ev.bind (G := fun t231 k => if t231 = 0 then poly_Gcd.l0 k p f g else some ([], t231)) (checks_ok hp ⟨hf, tf, by omega⟩ ⟨g2, g3, by omega⟩) (c1.eq fun k => if_pos rfl)).eq fun k => rfl
  refine Ev.succ ((Ev.bind (G := fun t283 k => (poly_Gcd.f k p f t283).bind fun bt286 => (slices_Equal_int_int.f k [0, 1] [0, 1]).bind fun t293 => if t293 = true then if bt286.2 = 0 then if (t283.length : Int) = 0 then if (bt286.1.length : Int) = wrap64 ((n : Int) + 1) then some true else if (t283.length : Int) > 0 then (slices_Equal_int_int.f k bt286.1 [1]).bind fun t297 => some t297 else some false else if (t283.length : Int) > 0 then (slices_Equal_int_int.f k bt286.1 [1]).bind fun t301 => some t301 else some false else some false else some false) g1
    (Ev.bind (G := fun bt286 k => (slices_Equal_int_int.f k [0, 1] [0, 1]).bind fun t293 => if t293 = true then if bt286.2 = 0 then if (g.length : Int) = 0 then if (bt286.1.length : Int) = wrap64 ((n : Int) + 1) then some true else if (g.length : Int) > 0 then (slices_Equal_int_int.f k bt286.1 [1]).bind fun t297 => some t297 else some false else if (g.length : Int) > 0 then (slices_Equal_int_int.f k bt286.1 [1]).bind fun t301 => some t301 else some false else some false else some false) hG
    (Ev.bind (G := fun t293 k => if t293 = true then if (0 : Int) = 0 then if (g.length : Int) = 0 then if (c.length : Int) = wrap64 ((n : Int) + 1) then some true else if (g.length : Int) > 0 then (slices_Equal_int_int.f k c [1]).bind fun t297 => some t297 else some false else if (g.length : Int) > 0 then (slices_Equal_int_int.f k c [1]).bind fun t301 => some t301 else some false else some false else some false) (equal_self [0, 1] (by simp)) (?_)))).eq fun k => ?_)
  · by_cases hg0 : g = []
    · refine (Ev.const _).eq fun k => ?_
      rw [if_pos rfl, if_pos rfl, if_pos (by rw [hg0]; rfl), w64 ((n : Int) + 1) (by omega) (by omega), if_pos (by rw [c7 hg0]; omega)]
    · have hgp : 0 < g.length := List.length_pos_iff.2 hg0
      have hcl : c.length ≤ n := by
        refine Nat.le_of_not_lt fun hlt => ?_
        have hz := c6.small (pl_dom hp) (d := c.length - 1) (by rw [c4, one_mod hp1]; decide) (by rw [show c.length - 1 + 1 = c.length by omega]; exact Dg_cf p c) ((Dg_cf p g).mono (by omega))
        refine hg0 (nil_of_zero g3 fun i => ?_)
        have := hz i (Nat.zero_le _)
        rwa [Int.emod_eq_of_lt (g2 i).1 (g2 i).2] at this
      have hc1 := irr hp hn hfl hf1 hb c2 c3 c4 c5 hcl
      subst hc1
      refine (Ev.bind (G := fun t301 _ => some t301) (equal_self [1] (by simp)) (Ev.const true)).eq fun k => ?_
      rw [if_pos rfl, if_pos rfl, if_neg (by omega), if_pos (by omega)]
  · simp only [wholekeep_IrredField.l0]
    rw [if_neg (by omega)]

theorem row_spec (r : Row) (h : rowAll r = true) (l2 : List Int) : ∃ f, Ev (fun k => irred_First.f k r.p (r.n : Int)) (f, 0) ∧ Ev (fun k => wholekeep_IrredField.l0 k (r.n : Int) l2 r.p f [0, 1] (r.n : Int) 0) true := by
  unfold rowAll at h
  simp only [Bool.and_eq_true, decide_eq_true_eq] at h
  obtain ⟨⟨⟨⟨h1, h2⟩, h3⟩, h4⟩, h5⟩ := h
  have hp : r.p ∈ plist := by simpa using h3
  obtain ⟨hp1, hp2⟩ := pl_pos hp
  obtain ⟨f1, f2, f3, f4⟩ := first_spec r hp ⟨h1, h2⟩ h4
  unfold frobOk at h5
  simp only [Bool.and_eq_true, beq_iff_eq] at h5
  obtain ⟨h6, h7⟩ := h5
  refine ⟨r.f, f1, ?_⟩
  have h01 : In r.p [0, 1] := in_pair ⟨by omega, by omega⟩ ⟨by omega, hp1⟩
  obtain ⟨x', x1, x2, x3, x4, x5, x6⟩ := loop0 hp ⟨h1, h2⟩ f2 f3 h6 l2 r.n 0 [0, 1] (by omega) h01 tl_01 (by simpa using h1) (by show 2 ≤ r.n; exact h1) (MQ.of_cg (Cg.refl _ _))
  have hcf : ∀ n, cf (frob r.p r.n r.f r.n) n = cf [0, 1] n := fun n => by
    by_cases hn : n < r.n
    · have := List.all_eq_true.1 h7 n (List.mem_range.2 hn)
      rw [beq_iff_eq.1 this]
      rcases n with _ | _ | n
      · rfl
      · rfl
      · rw [if_neg (by omega)]; rfl
    · rw [cf_out (by omega), cf_out (l := [0, 1]) (by show 2 ≤ n; omega)]
  have hm : MQ r.p (cf r.f) (cf x') (cf [0, 1]) := x5.trans (MQ.of_cg (Cg.of_eq hcf))
  have hz := Dv.small (pl_dom hp) (d := r.n) (by rw [h6, one_mod hp1]; decide) (f3 ▸ Dg_cf r.p r.f) hm (((Dg_cf r.p x').mono x3).sub ((Dg_cf r.p [0, 1]).mono h1))
  have hx : x' = [0, 1] := same x1 h01 x2 tl_01 (Cg.of_mod fun n => Int.emod_eq_emod_iff_emod_sub_eq_zero.2 (hz n (Nat.zero_le _)))
  subst hx
  exact x6 true (done hp ⟨h1, h2⟩ f2 f3 h6 f4 l2)

theorem IrredField : wholekeep_IrredField.Pure := by
  intro a0 a1 l2 _ _ _ _ _
  obtain ⟨p, hp, hF⟩ := field_spec a0
  obtain ⟨hp1, hp2⟩ := pl_pos hp
  have hj0 := Int.emod_nonneg a1 (show (4 : Int) ≠ 0 by omega)
  have hj1 := Int.emod_lt_of_pos a1 (show (0 : Int) < 4 by omega)
  obtain ⟨j, hj⟩ := Int.eq_ofNat_of_zero_le hj0
  have hw : wholekeep_Within.f a1 4 = some (j : Int) := by rw [within_some a1 4 (by omega) (by omega), hj]
  have hlook := List.all_eq_true.1 (List.all_eq_true.1 look_all p hp) j (List.mem_range.2 (by omega))
  have hn : wrap64 (2 + (j : Int)) = ((j + 2 : Nat) : Int) := w64e _ _ (by omega) (by omega) (by omega)
  suffices h : Ev (fun k => wholekeep_IrredField.j0 k a0 a1 l2 false) true by
    refine Ev.ex (F := fun k => wholekeep_IrredField.f k a0 a1 l2) ?_
    refine (Ev.bind (G := fun bt247 k => if bt247.2 = 0 then (slices_Equal_int_int.f k bt247.1 [1, 1, 0, 1]).bind fun t254 => if t254 = true then (wholekeep_polys.f k).bind fun t255 => wholekeep_IrredField.j0 k a0 a1 l2 (!t255) else wholekeep_IrredField.j0 k a0 a1 l2 true else wholekeep_IrredField.j0 k a0 a1 l2 true) (Ev.of (irred_First.mono 2 3) first_23)
      ((Ev.bind (G := fun t254 k => if t254 = true then (wholekeep_polys.f k).bind fun t255 => wholekeep_IrredField.j0 k a0 a1 l2 (!t255) else wholekeep_IrredField.j0 k a0 a1 l2 true) (equal_self [1, 1, 0, 1] (by simp)) ((Ev.bind (G := fun t255 k => wholekeep_IrredField.j0 k a0 a1 l2 (!t255)) (Ev.of wholekeep_polys.mono polys_true) h).eq fun k => if_pos rfl)).eq fun k => if_pos rfl)).eq fun k => rfl
  refine Ev.succ (Ev.eq (F := fun k => (wholekeep_fieldOf.f k a0).bind fun t256 => (irred_First.f k t256 ((j + 2 : Nat) : Int)).bind fun bt258 => if bt258.2 = 0 then wholekeep_IrredField.l0 k ((j + 2 : Nat) : Int) l2 t256 bt258.1 [0, 1] ((j + 2 : Nat) : Int) 0 else some (bt258.2 == 2)) (Ev.bind (G := fun t256 k => (irred_First.f k t256 ((j + 2 : Nat) : Int)).bind fun bt258 => if bt258.2 = 0 then wholekeep_IrredField.l0 k ((j + 2 : Nat) : Int) l2 t256 bt258.1 [0, 1] ((j + 2 : Nat) : Int) 0 else some (bt258.2 == 2)) hF ?_) fun k => ?_)
  · unfold lookB at hlook
    simp only [Bool.or_eq_true] at hlook
    rcases hlook with hl | hl
    · obtain ⟨r, hr, hr2⟩ := List.any_eq_true.1 hl
      simp only [Bool.and_eq_true, beq_iff_eq] at hr2
      obtain ⟨f, f1, f2⟩ := row_spec r (table_ok r hr) l2
      rw [hr2.1, hr2.2] at f1 f2
      exact Ev.bind (G := fun bt258 k => if bt258.2 = 0 then wholekeep_IrredField.l0 k ((j + 2 : Nat) : Int) l2 p bt258.1 [0, 1] ((j + 2 : Nat) : Int) 0 else some (bt258.2 == 2)) f1 (f2.eq fun k => if_pos rfl)
    · have hck : Ev (fun k => irred_check.f k p ((j + 2 : Nat) : Int)) 2 := Ev.of (irred_check.mono p _) (eq_of_beq hl)
      have hfi : Ev (fun k => irred_First.f k p ((j + 2 : Nat) : Int)) ([], 2) := (Ev.bind (G := fun t167 k => if t167 = 0 then irred_First.l0 k p ((j + 2 : Nat) : Int) 0 else some ([], t167)) hck ((Ev.const _).eq fun k => if_neg (by decide))).eq fun k => rfl
      exact Ev.bind (G := fun bt258 k => if bt258.2 = 0 then wholekeep_IrredField.l0 k ((j + 2 : Nat) : Int) l2 p bt258.1 [0, 1] ((j + 2 : Nat) : Int) 0 else some (bt258.2 == 2)) hfi ((Ev.const _).eq fun k => if_neg (by decide))
  · simp only [wholekeep_IrredField.j0]
    rw [if_neg (by decide), hw]
    simp only [Option.bind_some]
    rw [hn]
end Go.Proofs.Ytonacfjhfkdgbaa.Pure
